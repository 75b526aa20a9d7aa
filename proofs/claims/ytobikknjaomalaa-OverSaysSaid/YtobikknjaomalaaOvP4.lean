/-
  The functions compute their specs; printed by a program.
-/
import Derived.Test.YtobikknjaomalaaOvP3
namespace Go.Proofs.Ytobikknjaomalaa
open Go.RowKit Enc
set_option linter.unusedVariables false
set_option linter.unusedSimpArgs false
set_option maxRecDepth 20000 in
theorem partlaw_OverSays_sim {fu : Nat} {a0 : Over} {a1 : Int} {a2 : Int} {a3 : Int} {a4 : Int} {s_a0_0 : Sl} {s_a0_1 : Sl} {r : Bool} (H : partlaw_OverSays fu a0 a1 a2 a3 a4 = some r) (w0 : World) (F : Frz) (M L : List Item) (hM : M.Sublist L) (hs_a0_0 : Rd w0 F M s_a0_0 a0.Hands) (hs_a0_1 : Rd w0 F M s_a0_1 a0.Way) : Ok Try.prog w0 11 [.agg (enc (OverR.mk a0 s_a0_0 s_a0_1)).toArray, .int .i64 a1, .int .i64 a2, .int .i64 a3, .int .i64 a4] F (L) (Is (.bool r) (L)) := by
  unfold partlaw_OverSays at H
  refine Ok.enter (m := 5) (n := 256) Try.func11 rfl rfl rfl (by decide) ?_
  refine Cd.env (e' := [(0, .agg (enc (OverR.mk a0 s_a0_0 s_a0_1)).toArray), (1, .int .i64 a1), (2, .int .i64 a2), (3, .int .i64 a3), (4, .int .i64 a4)]) rfl ?_
  refine Cd.seq ?_
  refine Cd.region ?_
  refine Lst.box rfl rfl (by decide) rfl (cs := enc (OverR.mk a0 s_a0_0 s_a0_1)) rfl (fun b1 => ?_)
  refine Lst.run rfl rfl (by decide) (Ev.assign rfl) ?_
  refine Lst.nil ?_
  refine At.then ?_
  refine Cd.seq ?_
  refine Cd.region ?_
  refine Lst.run rfl rfl (by decide) (Ev.loadA (i := 0) rfl rfl Try.isAgg124 Try.sizeOf124 (ch := enc (OverR.mk a0 s_a0_0 s_a0_1)) (Enc.len _) (Get.here _)) ?_
  obtain ⟨r3, h4, H⟩ := bind_some H
  refine Lst.call1 rfl rfl (by decide) (vs := [.agg (enc (OverR.mk a0 s_a0_0 s_a0_1)).toArray]) ⟨rfl, trivial⟩ Try.call73 (partref_OverErr_sim h4 w0 _ M _ (List.Sublist.cons _ hM) (hs_a0_0.mono (FLe.refl _) (List.Sublist.refl _)) (hs_a0_1.mono (FLe.refl _) (List.Sublist.refl _))) ?_
  refine Lst.run rfl rfl (by decide) (Ev.assign rfl) ?_
  refine Lst.nil ?_
  refine At.then ?_
  refine Cd.seq ?_
  refine Cd.region ?_
  refine Lst.run rfl rfl (by decide) (Ev.build (v := .agg (enc (OverR.mk Over.zero Sl.nil Sl.nil)).toArray) (pv := []) trivial (fun w => by kernel_rfl)) ?_
  refine Lst.addNil 135 3 ?_
  refine Lst.addNil 209 3 ?_
  refine Lst.alloc (cs := enc (OverR.mk ({ Over.zero with Hands := ([] : List Hand), Way := ([] : List Word) } : Over) Sl.nil Sl.nil)) rfl rfl (by decide) Try.zeroValue124 rfl (fun b9 => ?_)
  refine Lst.store (i := 0) rfl rfl rfl rfl rfl Try.sizeOf124 (vs := enc (OverR.mk Over.zero Sl.nil Sl.nil)) rfl (Enc.len _) (Enc.one _) (cs' := enc (OverR.mk Over.zero Sl.nil Sl.nil)) (Put.here ((Enc.len _).trans (Enc.len _).symm)) (L' := (.blk b9 (enc (OverR.mk Over.zero Sl.nil Sl.nil)) 124) :: (.own Sl.nil 209 3 (encs ([] : List Word))) :: (.own Sl.nil 135 3 (encs ([] : List Hand))) :: (.blk b1 (enc (OverR.mk a0 s_a0_0 s_a0_1)) 124) :: L) rfl ?_
  refine Lst.nil ?_
  refine At.then ?_
  refine Cd.seq ?_
  refine Cd.region ?_
  refine Lst.run rfl rfl (by decide) (Ev.move rfl) ?_
  obtain ⟨r11, h12, H⟩ := bind_some H
  refine Lst.call rfl rfl (by decide) (vs := [.int .i64 a1]) ⟨rfl, trivial⟩ Try.call74 (over_New_sim h12 w0 _ M _ (List.Sublist.cons _ (List.Sublist.cons _ (List.Sublist.cons _ (List.Sublist.cons _ hM))))) (fun F17 L' v hF18 hv => ?_)
  obtain ⟨s13, s15, rfl, rfl, f16⟩ := hv
  refine Lst.run rfl rfl (by decide) (Ev.move rfl) ?_
  refine Lst.run rfl rfl (by decide) (Ev.extract rfl rfl) ?_
  refine Lst.run rfl rfl (by decide) (Ev.extract rfl rfl) ?_
  refine Lst.addNil 135 3 ?_
  refine Lst.addNil 209 3 ?_
  refine Lst.alloc (cs := enc (OverR.mk ({ Over.zero with Hands := ([] : List Hand), Way := ([] : List Word) } : Over) Sl.nil Sl.nil)) rfl rfl (by decide) Try.zeroValue124 rfl (fun b21 => ?_)
  refine Lst.store (i := 0) rfl rfl rfl rfl rfl Try.sizeOf124 (vs := enc (OverR.mk r11.1 s13 s15)) rfl (Enc.len _) (Enc.one _) (cs' := enc (OverR.mk r11.1 s13 s15)) (Put.here ((Enc.len _).trans (Enc.len _).symm)) (L' := (.blk b21 (enc (OverR.mk r11.1 s13 s15)) 124) :: (.own Sl.nil 209 3 (encs ([] : List Word))) :: (.own Sl.nil 135 3 (encs ([] : List Hand))) :: (.own s13 135 3 (encs r11.1.Hands)) :: (.blk b9 (enc (OverR.mk Over.zero Sl.nil Sl.nil)) 124) :: (.own Sl.nil 209 3 (encs ([] : List Word))) :: (.own Sl.nil 135 3 (encs ([] : List Hand))) :: (.blk b1 (enc (OverR.mk a0 s_a0_0 s_a0_1)) 124) :: L) rfl ?_
  refine Lst.run rfl rfl (by decide) (Ev.assign rfl) ?_
  refine Lst.nil ?_
  refine At.then ?_
  refine Cd.seq ?_
  refine Cd.region ?_
  refine Lst.run rfl rfl (by decide) (Ev.loadA (i := 7) rfl rfl Try.isAgg124 Try.sizeOf124 (ch := enc (OverR.mk a0 s_a0_0 s_a0_1)) (Enc.len _) (Get.here _)) ?_
  refine Lst.run rfl rfl (by decide) (Ev.move rfl) ?_
  refine Lst.run rfl rfl (by decide) (Ev.move rfl) ?_
  obtain ⟨r23, h24, H⟩ := bind_some H
  refine Lst.call rfl rfl (by decide) (vs := [.agg (enc (OverR.mk a0 s_a0_0 s_a0_1)).toArray, .int .i64 a2, .int .i64 a3]) ⟨rfl, rfl, rfl, trivial⟩ Try.call75 (over_Give_sim h24 w0 _ M _ (List.Sublist.cons _ (List.Sublist.cons _ (List.Sublist.cons _ (List.Sublist.cons _ (List.Sublist.cons _ (List.Sublist.cons _ (List.Sublist.cons _ (List.Sublist.cons _ hM)))))))) (hs_a0_0.mono hF18 (List.Sublist.refl _)) (hs_a0_1.mono hF18 (List.Sublist.refl _))) (fun F29 L' v hF30 hv => ?_)
  obtain ⟨s25, s27, rfl, rfl⟩ := hv
  refine Lst.run rfl rfl (by decide) (Ev.move rfl) ?_
  refine Lst.run rfl rfl (by decide) (Ev.extract rfl rfl) ?_
  refine Lst.run rfl rfl (by decide) (Ev.extract rfl rfl) ?_
  refine Lst.addNil 135 3 ?_
  refine Lst.addNil 209 3 ?_
  refine Lst.alloc (cs := enc (OverR.mk ({ Over.zero with Hands := ([] : List Hand), Way := ([] : List Word) } : Over) Sl.nil Sl.nil)) rfl rfl (by decide) Try.zeroValue124 rfl (fun b33 => ?_)
  refine Lst.store (i := 0) rfl rfl rfl rfl rfl Try.sizeOf124 (vs := enc (OverR.mk r23.1 s25 s27)) rfl (Enc.len _) (Enc.one _) (cs' := enc (OverR.mk r23.1 s25 s27)) (Put.here ((Enc.len _).trans (Enc.len _).symm)) (L' := (.blk b33 (enc (OverR.mk r23.1 s25 s27)) 124) :: (.own Sl.nil 209 3 (encs ([] : List Word))) :: (.own Sl.nil 135 3 (encs ([] : List Hand))) :: (.own s25 135 3 (encs r23.1.Hands)) :: (.own s27 209 3 (encs r23.1.Way)) :: (.blk b21 (enc (OverR.mk r11.1 s13 s15)) 124) :: (.own Sl.nil 209 3 (encs ([] : List Word))) :: (.own Sl.nil 135 3 (encs ([] : List Hand))) :: (.own s13 135 3 (encs r11.1.Hands)) :: (.blk b9 (enc (OverR.mk Over.zero Sl.nil Sl.nil)) 124) :: (.own Sl.nil 209 3 (encs ([] : List Word))) :: (.own Sl.nil 135 3 (encs ([] : List Hand))) :: (.blk b1 (enc (OverR.mk a0 s_a0_0 s_a0_1)) 124) :: L) rfl ?_
  refine Lst.run rfl rfl (by decide) (Ev.assign rfl) ?_
  refine Lst.nil ?_
  refine At.then ?_
  refine Cd.seq ?_
  refine Cd.as (e' := [(1, .int .i64 a1), (2, .int .i64 a2), (3, .int .i64 a3), (4, .int .i64 a4), (5, .pointer (some ⟨b1, 0, none⟩)), (11, .int .i64 r3), (12, .pointer (some ⟨b9, 0, none⟩)), (13, .pointer (some ⟨b21, 0, none⟩)), (14, .int .i64 r11.2), (15, .pointer (some ⟨b33, 0, none⟩)), (16, .int .i64 r23.2)]) (L' := (.blk b33 (enc (OverR.mk r23.1 s25 s27)) 124) :: (.own Sl.nil 209 3 (encs ([] : List Word))) :: (.own Sl.nil 135 3 (encs ([] : List Hand))) :: (.own s25 135 3 (encs r23.1.Hands)) :: (.own s27 209 3 (encs r23.1.Way)) :: (.blk b21 (enc (OverR.mk r11.1 s13 s15)) 124) :: (.own Sl.nil 209 3 (encs ([] : List Word))) :: (.own Sl.nil 135 3 (encs ([] : List Hand))) :: (.own s13 135 3 (encs r11.1.Hands)) :: (.blk b9 (enc (OverR.mk Over.zero Sl.nil Sl.nil)) 124) :: (.own Sl.nil 209 3 (encs ([] : List Word))) :: (.own Sl.nil 135 3 (encs ([] : List Hand))) :: (.blk b1 (enc (OverR.mk a0 s_a0_0 s_a0_1)) 124) :: L) ⟨rfl, rfl, rfl, rfl, rfl, rfl, rfl, rfl, rfl, rfl, rfl, trivial⟩ rfl ?_
  refine Cd.region ?_
  refine Lst.run rfl rfl (by decide) (Ev.loadA (i := 12) rfl rfl Try.isAgg124 Try.sizeOf124 (ch := enc (OverR.mk a0 s_a0_0 s_a0_1)) (Enc.len _) (Get.here _)) ?_
  refine Lst.run rfl rfl (by decide) (Ev.move rfl) ?_
  obtain ⟨r35, h36, H⟩ := bind_some H
  refine Lst.call rfl rfl (by decide) (vs := [.agg (enc (OverR.mk a0 s_a0_0 s_a0_1)).toArray, .int .i64 a4]) ⟨rfl, rfl, trivial⟩ Try.call76 (over_Take_sim h36 w0 _ M _ (List.Sublist.cons _ (List.Sublist.cons _ (List.Sublist.cons _ (List.Sublist.cons _ (List.Sublist.cons _ (List.Sublist.cons _ (List.Sublist.cons _ (List.Sublist.cons _ (List.Sublist.cons _ (List.Sublist.cons _ (List.Sublist.cons _ (List.Sublist.cons _ (List.Sublist.cons _ hM))))))))))))) (hs_a0_0.mono (FLe.trans hF18 hF30) (List.Sublist.refl _)) (hs_a0_1.mono (FLe.trans hF18 hF30) (List.Sublist.refl _))) (fun F41 L' v hF42 hv => ?_)
  obtain ⟨s37, s39, rfl, rfl⟩ := hv
  refine Lst.run rfl rfl (by decide) (Ev.move rfl) ?_
  refine Lst.run rfl rfl (by decide) (Ev.extract rfl rfl) ?_
  refine Lst.run rfl rfl (by decide) (Ev.extract rfl rfl) ?_
  refine Lst.addNil 135 3 ?_
  refine Lst.addNil 209 3 ?_
  refine Lst.alloc (cs := enc (OverR.mk ({ Over.zero with Hands := ([] : List Hand), Way := ([] : List Word) } : Over) Sl.nil Sl.nil)) rfl rfl (by decide) Try.zeroValue124 rfl (fun b45 => ?_)
  refine Lst.store (i := 0) rfl rfl rfl rfl rfl Try.sizeOf124 (vs := enc (OverR.mk r35.1 s37 s39)) rfl (Enc.len _) (Enc.one _) (cs' := enc (OverR.mk r35.1 s37 s39)) (Put.here ((Enc.len _).trans (Enc.len _).symm)) (L' := (.blk b45 (enc (OverR.mk r35.1 s37 s39)) 124) :: (.own Sl.nil 209 3 (encs ([] : List Word))) :: (.own Sl.nil 135 3 (encs ([] : List Hand))) :: (.own s37 135 3 (encs r35.1.Hands)) :: (.own s39 209 3 (encs r35.1.Way)) :: (.blk b33 (enc (OverR.mk r23.1 s25 s27)) 124) :: (.own Sl.nil 209 3 (encs ([] : List Word))) :: (.own Sl.nil 135 3 (encs ([] : List Hand))) :: (.own s25 135 3 (encs r23.1.Hands)) :: (.own s27 209 3 (encs r23.1.Way)) :: (.blk b21 (enc (OverR.mk r11.1 s13 s15)) 124) :: (.own Sl.nil 209 3 (encs ([] : List Word))) :: (.own Sl.nil 135 3 (encs ([] : List Hand))) :: (.own s13 135 3 (encs r11.1.Hands)) :: (.blk b9 (enc (OverR.mk Over.zero Sl.nil Sl.nil)) 124) :: (.own Sl.nil 209 3 (encs ([] : List Word))) :: (.own Sl.nil 135 3 (encs ([] : List Hand))) :: (.blk b1 (enc (OverR.mk a0 s_a0_0 s_a0_1)) 124) :: L) rfl ?_
  refine Lst.run rfl rfl (by decide) (Ev.assign rfl) ?_
  refine Lst.nil ?_
  refine At.then ?_
  refine Cd.seq ?_
  refine Cd.region ?_
  refine Lst.run rfl rfl (by decide) (Ev.loadA (i := 17) rfl rfl Try.isAgg124 Try.sizeOf124 (ch := enc (OverR.mk a0 s_a0_0 s_a0_1)) (Enc.len _) (Get.here _)) ?_
  refine Lst.run rfl rfl (by decide) (Ev.move rfl) ?_
  obtain ⟨r47, h48, H⟩ := bind_some H
  refine Lst.call rfl rfl (by decide) (vs := [.agg (enc (OverR.mk a0 s_a0_0 s_a0_1)).toArray, .int .i64 a2]) ⟨rfl, rfl, trivial⟩ Try.call77 (over_Rest_sim h48 w0 _ M _ (List.Sublist.cons _ (List.Sublist.cons _ (List.Sublist.cons _ (List.Sublist.cons _ (List.Sublist.cons _ (List.Sublist.cons _ (List.Sublist.cons _ (List.Sublist.cons _ (List.Sublist.cons _ (List.Sublist.cons _ (List.Sublist.cons _ (List.Sublist.cons _ (List.Sublist.cons _ (List.Sublist.cons _ (List.Sublist.cons _ (List.Sublist.cons _ (List.Sublist.cons _ (List.Sublist.cons _ hM)))))))))))))))))) (hs_a0_0.mono (FLe.trans (FLe.trans hF18 hF30) hF42) (List.Sublist.refl _)) (hs_a0_1.mono (FLe.trans (FLe.trans hF18 hF30) hF42) (List.Sublist.refl _))) (fun F53 L' v hF54 hv => ?_)
  obtain ⟨s49, s51, rfl, rfl⟩ := hv
  refine Lst.run rfl rfl (by decide) (Ev.move rfl) ?_
  refine Lst.run rfl rfl (by decide) (Ev.extract rfl rfl) ?_
  refine Lst.run rfl rfl (by decide) (Ev.extract rfl rfl) ?_
  refine Lst.addNil 135 3 ?_
  refine Lst.addNil 209 3 ?_
  refine Lst.alloc (cs := enc (OverR.mk ({ Over.zero with Hands := ([] : List Hand), Way := ([] : List Word) } : Over) Sl.nil Sl.nil)) rfl rfl (by decide) Try.zeroValue124 rfl (fun b57 => ?_)
  refine Lst.store (i := 0) rfl rfl rfl rfl rfl Try.sizeOf124 (vs := enc (OverR.mk r47.1 s49 s51)) rfl (Enc.len _) (Enc.one _) (cs' := enc (OverR.mk r47.1 s49 s51)) (Put.here ((Enc.len _).trans (Enc.len _).symm)) (L' := (.blk b57 (enc (OverR.mk r47.1 s49 s51)) 124) :: (.own Sl.nil 209 3 (encs ([] : List Word))) :: (.own Sl.nil 135 3 (encs ([] : List Hand))) :: (.own s49 135 3 (encs r47.1.Hands)) :: (.own s51 209 3 (encs r47.1.Way)) :: (.blk b45 (enc (OverR.mk r35.1 s37 s39)) 124) :: (.own Sl.nil 209 3 (encs ([] : List Word))) :: (.own Sl.nil 135 3 (encs ([] : List Hand))) :: (.own s37 135 3 (encs r35.1.Hands)) :: (.own s39 209 3 (encs r35.1.Way)) :: (.blk b33 (enc (OverR.mk r23.1 s25 s27)) 124) :: (.own Sl.nil 209 3 (encs ([] : List Word))) :: (.own Sl.nil 135 3 (encs ([] : List Hand))) :: (.own s25 135 3 (encs r23.1.Hands)) :: (.own s27 209 3 (encs r23.1.Way)) :: (.blk b21 (enc (OverR.mk r11.1 s13 s15)) 124) :: (.own Sl.nil 209 3 (encs ([] : List Word))) :: (.own Sl.nil 135 3 (encs ([] : List Hand))) :: (.own s13 135 3 (encs r11.1.Hands)) :: (.blk b9 (enc (OverR.mk Over.zero Sl.nil Sl.nil)) 124) :: (.own Sl.nil 209 3 (encs ([] : List Word))) :: (.own Sl.nil 135 3 (encs ([] : List Hand))) :: (.blk b1 (enc (OverR.mk a0 s_a0_0 s_a0_1)) 124) :: L) rfl ?_
  refine Lst.run rfl rfl (by decide) (Ev.assign rfl) ?_
  refine Lst.nil ?_
  refine At.then ?_
  refine Cd.seq ?_
  refine Cd.region ?_
  refine Lst.run rfl rfl (by decide) (Ev.loadA (i := 22) rfl rfl Try.isAgg124 Try.sizeOf124 (ch := enc (OverR.mk a0 s_a0_0 s_a0_1)) (Enc.len _) (Get.here _)) ?_
  obtain ⟨r59, h60, H⟩ := bind_some H
  refine Lst.call1 rfl rfl (by decide) (vs := [.agg (enc (OverR.mk a0 s_a0_0 s_a0_1)).toArray]) ⟨rfl, trivial⟩ Try.call78 (over_Done_sim h60 w0 _ M _ (List.Sublist.cons _ (List.Sublist.cons _ (List.Sublist.cons _ (List.Sublist.cons _ (List.Sublist.cons _ (List.Sublist.cons _ (List.Sublist.cons _ (List.Sublist.cons _ (List.Sublist.cons _ (List.Sublist.cons _ (List.Sublist.cons _ (List.Sublist.cons _ (List.Sublist.cons _ (List.Sublist.cons _ (List.Sublist.cons _ (List.Sublist.cons _ (List.Sublist.cons _ (List.Sublist.cons _ (List.Sublist.cons _ (List.Sublist.cons _ (List.Sublist.cons _ (List.Sublist.cons _ (List.Sublist.cons _ hM))))))))))))))))))))))) (hs_a0_0.mono (FLe.trans (FLe.trans (FLe.trans hF18 hF30) hF42) hF54) (List.Sublist.refl _)) (hs_a0_1.mono (FLe.trans (FLe.trans (FLe.trans hF18 hF30) hF42) hF54) (List.Sublist.refl _))) ?_
  refine Lst.run rfl rfl (by decide) (Ev.move rfl) ?_
  refine Lst.run rfl rfl (by decide) (Ev.extract rfl rfl) ?_
  refine Lst.run rfl rfl (by decide) (Ev.extract rfl rfl) ?_
  refine Lst.run rfl rfl (by decide) (Ev.assign rfl) ?_
  refine Lst.run rfl rfl (by decide) (Ev.assign rfl) ?_
  refine Lst.nil ?_
  refine At.then ?_
  obtain ⟨o63, H, HKo63⟩ := andThen_some H
  refine Cd.join (σ := Unit) (fun (_ : Unit) => [(2, .int .i64 a2), (3, .int .i64 a3), (4, .int .i64 a4), (5, .pointer (some ⟨b1, 0, none⟩)), (11, .int .i64 r3), (12, .pointer (some ⟨b9, 0, none⟩)), (15, .pointer (some ⟨b33, 0, none⟩)), (16, .int .i64 r23.2), (17, .pointer (some ⟨b45, 0, none⟩)), (18, .int .i64 r35.2), (19, .pointer (some ⟨b57, 0, none⟩)), (20, .int .i64 r47.2), (21, .bool r59.1), (22, .int .i64 r59.2)]) (fun (_ : Unit) => (.blk b57 (enc (OverR.mk r47.1 s49 s51)) 124) :: (.own Sl.nil 209 3 (encs ([] : List Word))) :: (.own Sl.nil 135 3 (encs ([] : List Hand))) :: (.own s49 135 3 (encs r47.1.Hands)) :: (.own s51 209 3 (encs r47.1.Way)) :: (.blk b45 (enc (OverR.mk r35.1 s37 s39)) 124) :: (.own Sl.nil 209 3 (encs ([] : List Word))) :: (.own Sl.nil 135 3 (encs ([] : List Hand))) :: (.own s37 135 3 (encs r35.1.Hands)) :: (.own s39 209 3 (encs r35.1.Way)) :: (.blk b33 (enc (OverR.mk r23.1 s25 s27)) 124) :: (.own Sl.nil 209 3 (encs ([] : List Word))) :: (.own Sl.nil 135 3 (encs ([] : List Hand))) :: (.own s25 135 3 (encs r23.1.Hands)) :: (.own s27 209 3 (encs r23.1.Way)) :: (.blk b21 (enc (OverR.mk r11.1 s13 s15)) 124) :: (.own Sl.nil 209 3 (encs ([] : List Word))) :: (.own Sl.nil 135 3 (encs ([] : List Hand))) :: (.own s13 135 3 (encs r11.1.Hands)) :: (.blk b9 (enc (OverR.mk Over.zero Sl.nil Sl.nil)) 124) :: (.own Sl.nil 209 3 (encs ([] : List Word))) :: (.own Sl.nil 135 3 (encs ([] : List Hand))) :: (.blk b1 (enc (OverR.mk a0 s_a0_0 s_a0_1)) 124) :: L) (fun _ (_ : Unit) => .inl () = o63) ?_ ?_
  · refine Cd.seq ?_
    refine Cd.as (e' := [(1, .int .i64 a1), (2, .int .i64 a2), (3, .int .i64 a3), (4, .int .i64 a4), (5, .pointer (some ⟨b1, 0, none⟩)), (11, .int .i64 r3), (12, .pointer (some ⟨b9, 0, none⟩)), (13, .pointer (some ⟨b21, 0, none⟩)), (14, .int .i64 r11.2), (15, .pointer (some ⟨b33, 0, none⟩)), (16, .int .i64 r23.2), (17, .pointer (some ⟨b45, 0, none⟩)), (18, .int .i64 r35.2), (19, .pointer (some ⟨b57, 0, none⟩)), (20, .int .i64 r47.2), (21, .bool r59.1), (22, .int .i64 r59.2)]) (L' := (.blk b57 (enc (OverR.mk r47.1 s49 s51)) 124) :: (.own Sl.nil 209 3 (encs ([] : List Word))) :: (.own Sl.nil 135 3 (encs ([] : List Hand))) :: (.own s49 135 3 (encs r47.1.Hands)) :: (.own s51 209 3 (encs r47.1.Way)) :: (.blk b45 (enc (OverR.mk r35.1 s37 s39)) 124) :: (.own Sl.nil 209 3 (encs ([] : List Word))) :: (.own Sl.nil 135 3 (encs ([] : List Hand))) :: (.own s37 135 3 (encs r35.1.Hands)) :: (.own s39 209 3 (encs r35.1.Way)) :: (.blk b33 (enc (OverR.mk r23.1 s25 s27)) 124) :: (.own Sl.nil 209 3 (encs ([] : List Word))) :: (.own Sl.nil 135 3 (encs ([] : List Hand))) :: (.own s25 135 3 (encs r23.1.Hands)) :: (.own s27 209 3 (encs r23.1.Way)) :: (.blk b21 (enc (OverR.mk r11.1 s13 s15)) 124) :: (.own Sl.nil 209 3 (encs ([] : List Word))) :: (.own Sl.nil 135 3 (encs ([] : List Hand))) :: (.own s13 135 3 (encs r11.1.Hands)) :: (.blk b9 (enc (OverR.mk Over.zero Sl.nil Sl.nil)) 124) :: (.own Sl.nil 209 3 (encs ([] : List Word))) :: (.own Sl.nil 135 3 (encs ([] : List Hand))) :: (.blk b1 (enc (OverR.mk a0 s_a0_0 s_a0_1)) 124) :: L) ⟨rfl, rfl, rfl, rfl, rfl, rfl, rfl, rfl, rfl, rfl, rfl, rfl, rfl, rfl, rfl, rfl, rfl, trivial⟩ rfl ?_
    refine Cd.region ?_
    refine Lst.run rfl rfl (by decide) (Ev.move rfl) ?_
    refine Lst.run rfl rfl (by decide) (Ev.lss rfl rfl) ?_
    refine Lst.run rfl rfl (by decide) (Ev.move rfl) ?_
    obtain ⟨o64, H, HKo64⟩ := bind_some H
    refine Lst.join (σ := Bool) 3 (fun y65 => [(1, .int .i64 a1), (2, .int .i64 a2), (3, .int .i64 a3), (4, .int .i64 a4), (5, .pointer (some ⟨b1, 0, none⟩)), (11, .int .i64 r3), (12, .pointer (some ⟨b9, 0, none⟩)), (13, .pointer (some ⟨b21, 0, none⟩)), (14, .int .i64 r11.2), (15, .pointer (some ⟨b33, 0, none⟩)), (16, .int .i64 r23.2), (17, .pointer (some ⟨b45, 0, none⟩)), (18, .int .i64 r35.2), (19, .pointer (some ⟨b57, 0, none⟩)), (20, .int .i64 r47.2), (21, .bool r59.1), (22, .int .i64 r59.2), (65, .bool y65)]) (fun y65 => (.blk b57 (enc (OverR.mk r47.1 s49 s51)) 124) :: (.own Sl.nil 209 3 (encs ([] : List Word))) :: (.own Sl.nil 135 3 (encs ([] : List Hand))) :: (.own s49 135 3 (encs r47.1.Hands)) :: (.own s51 209 3 (encs r47.1.Way)) :: (.blk b45 (enc (OverR.mk r35.1 s37 s39)) 124) :: (.own Sl.nil 209 3 (encs ([] : List Word))) :: (.own Sl.nil 135 3 (encs ([] : List Hand))) :: (.own s37 135 3 (encs r35.1.Hands)) :: (.own s39 209 3 (encs r35.1.Way)) :: (.blk b33 (enc (OverR.mk r23.1 s25 s27)) 124) :: (.own Sl.nil 209 3 (encs ([] : List Word))) :: (.own Sl.nil 135 3 (encs ([] : List Hand))) :: (.own s25 135 3 (encs r23.1.Hands)) :: (.own s27 209 3 (encs r23.1.Way)) :: (.blk b21 (enc (OverR.mk r11.1 s13 s15)) 124) :: (.own Sl.nil 209 3 (encs ([] : List Word))) :: (.own Sl.nil 135 3 (encs ([] : List Hand))) :: (.own s13 135 3 (encs r11.1.Hands)) :: (.blk b9 (enc (OverR.mk Over.zero Sl.nil Sl.nil)) 124) :: (.own Sl.nil 209 3 (encs ([] : List Word))) :: (.own Sl.nil 135 3 (encs ([] : List Hand))) :: (.blk b1 (enc (OverR.mk a0 s_a0_0 s_a0_1)) 124) :: L) (fun _ y65 => y65 = o64) ?_ ?_
    · rcases Bool.eq_false_or_eq_true (decide (a1 < (1 : Int))) with hb66 | hb66
      · replace H := ite_t hb66 H
        refine Lst.skip rfl rfl rfl hb66 rfl (by decide) ?_
        refine Lst.skip rfl rfl rfl hb66 rfl (by decide) ?_
        refine Lst.run rfl rfl (by decide) (Ev.pickT rfl hb66 rfl) ?_
        refine Lst.nil ?_
        exact At.meet true (FLe.refl _) ⟨rfl, rfl, rfl, rfl, rfl, rfl, rfl, rfl, rfl, rfl, rfl, rfl, rfl, rfl, rfl, rfl, rfl, rfl, trivial⟩ rfl (some_inj H)
      replace H := ite_f hb66 H
      refine Lst.runG rfl rfl rfl hb66 rfl (by decide) (Ev.move rfl) ?_
      refine Lst.runG rfl rfl rfl hb66 rfl (by decide) (Ev.gtr rfl rfl) ?_
      refine Lst.run rfl rfl (by decide) (Ev.pickF rfl hb66 rfl) ?_
      refine Lst.nil ?_
      exact At.meet (decide (a1 > (6 : Int))) (FLe.refl _) ⟨rfl, rfl, rfl, rfl, rfl, rfl, rfl, rfl, rfl, rfl, rfl, rfl, rfl, rfl, rfl, rfl, rfl, rfl, trivial⟩ rfl (some_inj H)
    rintro F67 y65 hF68 hy
    subst hy
    refine Lst.as (e' := [(1, .int .i64 a1), (2, .int .i64 a2), (3, .int .i64 a3), (4, .int .i64 a4), (5, .pointer (some ⟨b1, 0, none⟩)), (11, .int .i64 r3), (12, .pointer (some ⟨b9, 0, none⟩)), (13, .pointer (some ⟨b21, 0, none⟩)), (14, .int .i64 r11.2), (15, .pointer (some ⟨b33, 0, none⟩)), (16, .int .i64 r23.2), (17, .pointer (some ⟨b45, 0, none⟩)), (18, .int .i64 r35.2), (19, .pointer (some ⟨b57, 0, none⟩)), (20, .int .i64 r47.2), (21, .bool r59.1), (22, .int .i64 r59.2), (65, .bool y65)]) (L' := (.blk b57 (enc (OverR.mk r47.1 s49 s51)) 124) :: (.own Sl.nil 209 3 (encs ([] : List Word))) :: (.own Sl.nil 135 3 (encs ([] : List Hand))) :: (.own s49 135 3 (encs r47.1.Hands)) :: (.own s51 209 3 (encs r47.1.Way)) :: (.blk b45 (enc (OverR.mk r35.1 s37 s39)) 124) :: (.own Sl.nil 209 3 (encs ([] : List Word))) :: (.own Sl.nil 135 3 (encs ([] : List Hand))) :: (.own s37 135 3 (encs r35.1.Hands)) :: (.own s39 209 3 (encs r35.1.Way)) :: (.blk b33 (enc (OverR.mk r23.1 s25 s27)) 124) :: (.own Sl.nil 209 3 (encs ([] : List Word))) :: (.own Sl.nil 135 3 (encs ([] : List Hand))) :: (.own s25 135 3 (encs r23.1.Hands)) :: (.own s27 209 3 (encs r23.1.Way)) :: (.blk b21 (enc (OverR.mk r11.1 s13 s15)) 124) :: (.own Sl.nil 209 3 (encs ([] : List Word))) :: (.own Sl.nil 135 3 (encs ([] : List Hand))) :: (.own s13 135 3 (encs r11.1.Hands)) :: (.blk b9 (enc (OverR.mk Over.zero Sl.nil Sl.nil)) 124) :: (.own Sl.nil 209 3 (encs ([] : List Word))) :: (.own Sl.nil 135 3 (encs ([] : List Hand))) :: (.blk b1 (enc (OverR.mk a0 s_a0_0 s_a0_1)) 124) :: L) ⟨rfl, rfl, rfl, rfl, rfl, rfl, rfl, rfl, rfl, rfl, rfl, rfl, rfl, rfl, rfl, rfl, rfl, rfl, trivial⟩ rfl ?_
    replace H := HKo64
    refine Lst.nil ?_
    refine At.then ?_
    rcases Bool.eq_false_or_eq_true y65 with hb69 | hb69
    · replace H := ite_t hb69 H
      refine Cd.condT rfl hb69 ?_
      refine Cd.seq ?_
      refine Cd.region ?_
      refine Lst.run rfl rfl (by decide) (Ev.loadA (i := 15) rfl rfl Try.isAgg124 Try.sizeOf124 (ch := enc (OverR.mk r11.1 s13 s15)) (Enc.len _) (Get.here _)) ?_
      refine Lst.run rfl rfl (by decide) (Ev.loadA (i := 19) rfl rfl Try.isAgg124 Try.sizeOf124 (ch := enc (OverR.mk Over.zero Sl.nil Sl.nil)) (Enc.len _) (Get.here _)) ?_
      obtain ⟨r70, h71, H⟩ := bind_some H
      refine Lst.call1 rfl rfl (by decide) (vs := [.agg (enc (OverR.mk r11.1 s13 s15)).toArray, .agg (enc (OverR.mk Over.zero Sl.nil Sl.nil)).toArray]) ⟨rfl, rfl, trivial⟩ Try.call79 (partref_SameOver_sim h71 w0 _ _ _ (List.Sublist.refl _) (Rd.own (i := 18) rfl rfl rfl) (f16.mono (FLe.trans (FLe.trans (FLe.trans hF30 hF42) hF54) hF68) (List.nil_sublist _)) Rd.nil Rd.nil) ?_
      refine Lst.run rfl rfl (by decide) (Ev.not rfl) ?_
      refine Lst.run rfl rfl (by decide) (Ev.move rfl) ?_
      obtain ⟨o74, H, HKo74⟩ := bind_some H
      refine Lst.join (σ := Bool) 3 (fun y75 => [(2, .int .i64 a2), (3, .int .i64 a3), (4, .int .i64 a4), (5, .pointer (some ⟨b1, 0, none⟩)), (11, .int .i64 r3), (12, .pointer (some ⟨b9, 0, none⟩)), (15, .pointer (some ⟨b33, 0, none⟩)), (16, .int .i64 r23.2), (17, .pointer (some ⟨b45, 0, none⟩)), (18, .int .i64 r35.2), (19, .pointer (some ⟨b57, 0, none⟩)), (20, .int .i64 r47.2), (21, .bool r59.1), (22, .int .i64 r59.2), (73, .bool y75)]) (fun y75 => (.blk b57 (enc (OverR.mk r47.1 s49 s51)) 124) :: (.own Sl.nil 209 3 (encs ([] : List Word))) :: (.own Sl.nil 135 3 (encs ([] : List Hand))) :: (.own s49 135 3 (encs r47.1.Hands)) :: (.own s51 209 3 (encs r47.1.Way)) :: (.blk b45 (enc (OverR.mk r35.1 s37 s39)) 124) :: (.own Sl.nil 209 3 (encs ([] : List Word))) :: (.own Sl.nil 135 3 (encs ([] : List Hand))) :: (.own s37 135 3 (encs r35.1.Hands)) :: (.own s39 209 3 (encs r35.1.Way)) :: (.blk b33 (enc (OverR.mk r23.1 s25 s27)) 124) :: (.own Sl.nil 209 3 (encs ([] : List Word))) :: (.own Sl.nil 135 3 (encs ([] : List Hand))) :: (.own s25 135 3 (encs r23.1.Hands)) :: (.own s27 209 3 (encs r23.1.Way)) :: (.blk b21 (enc (OverR.mk r11.1 s13 s15)) 124) :: (.own Sl.nil 209 3 (encs ([] : List Word))) :: (.own Sl.nil 135 3 (encs ([] : List Hand))) :: (.own s13 135 3 (encs r11.1.Hands)) :: (.blk b9 (enc (OverR.mk Over.zero Sl.nil Sl.nil)) 124) :: (.own Sl.nil 209 3 (encs ([] : List Word))) :: (.own Sl.nil 135 3 (encs ([] : List Hand))) :: (.blk b1 (enc (OverR.mk a0 s_a0_0 s_a0_1)) 124) :: L) (fun _ y75 => y75 = o74) ?_ ?_
      · rcases Bool.eq_false_or_eq_true (!r70) with hb76 | hb76
        · replace H := ite_t hb76 H
          refine Lst.skip rfl rfl rfl hb76 rfl (by decide) ?_
          refine Lst.skip rfl rfl rfl hb76 rfl (by decide) ?_
          refine Lst.run rfl rfl (by decide) (Ev.pickT rfl hb76 rfl) ?_
          refine Lst.nil ?_
          exact At.meet true (FLe.refl _) ⟨rfl, rfl, rfl, rfl, rfl, rfl, rfl, rfl, rfl, rfl, rfl, rfl, rfl, rfl, rfl, trivial⟩ rfl (some_inj H)
        replace H := ite_f hb76 H
        refine Lst.runG rfl rfl rfl hb76 rfl (by decide) (Ev.move rfl) ?_
        refine Lst.runG rfl rfl rfl hb76 rfl (by decide) (Ev.neq rfl rfl) ?_
        refine Lst.run rfl rfl (by decide) (Ev.pickF rfl hb76 rfl) ?_
        refine Lst.nil ?_
        exact At.meet (r11.2 != (1 : Int)) (FLe.refl _) ⟨rfl, rfl, rfl, rfl, rfl, rfl, rfl, rfl, rfl, rfl, rfl, rfl, rfl, rfl, rfl, trivial⟩ rfl (some_inj H)
      rintro F77 y75 hF78 hy
      subst hy
      refine Lst.as (e' := [(2, .int .i64 a2), (3, .int .i64 a3), (4, .int .i64 a4), (5, .pointer (some ⟨b1, 0, none⟩)), (11, .int .i64 r3), (12, .pointer (some ⟨b9, 0, none⟩)), (15, .pointer (some ⟨b33, 0, none⟩)), (16, .int .i64 r23.2), (17, .pointer (some ⟨b45, 0, none⟩)), (18, .int .i64 r35.2), (19, .pointer (some ⟨b57, 0, none⟩)), (20, .int .i64 r47.2), (21, .bool r59.1), (22, .int .i64 r59.2), (73, .bool y75)]) (L' := (.blk b57 (enc (OverR.mk r47.1 s49 s51)) 124) :: (.own Sl.nil 209 3 (encs ([] : List Word))) :: (.own Sl.nil 135 3 (encs ([] : List Hand))) :: (.own s49 135 3 (encs r47.1.Hands)) :: (.own s51 209 3 (encs r47.1.Way)) :: (.blk b45 (enc (OverR.mk r35.1 s37 s39)) 124) :: (.own Sl.nil 209 3 (encs ([] : List Word))) :: (.own Sl.nil 135 3 (encs ([] : List Hand))) :: (.own s37 135 3 (encs r35.1.Hands)) :: (.own s39 209 3 (encs r35.1.Way)) :: (.blk b33 (enc (OverR.mk r23.1 s25 s27)) 124) :: (.own Sl.nil 209 3 (encs ([] : List Word))) :: (.own Sl.nil 135 3 (encs ([] : List Hand))) :: (.own s25 135 3 (encs r23.1.Hands)) :: (.own s27 209 3 (encs r23.1.Way)) :: (.blk b21 (enc (OverR.mk r11.1 s13 s15)) 124) :: (.own Sl.nil 209 3 (encs ([] : List Word))) :: (.own Sl.nil 135 3 (encs ([] : List Hand))) :: (.own s13 135 3 (encs r11.1.Hands)) :: (.blk b9 (enc (OverR.mk Over.zero Sl.nil Sl.nil)) 124) :: (.own Sl.nil 209 3 (encs ([] : List Word))) :: (.own Sl.nil 135 3 (encs ([] : List Hand))) :: (.blk b1 (enc (OverR.mk a0 s_a0_0 s_a0_1)) 124) :: L) ⟨rfl, rfl, rfl, rfl, rfl, rfl, rfl, rfl, rfl, rfl, rfl, rfl, rfl, rfl, rfl, trivial⟩ rfl ?_
      replace H := HKo74
      refine Lst.nil ?_
      refine At.then ?_
      rcases Bool.eq_false_or_eq_true y75 with hb79 | hb79
      · replace H := ite_t hb79 H
        refine Cd.condT rfl hb79 ?_
        refine Cd.seq ?_
        refine Cd.as (e' := []) (L' := (.blk b57 (enc (OverR.mk r47.1 s49 s51)) 124) :: (.own Sl.nil 209 3 (encs ([] : List Word))) :: (.own Sl.nil 135 3 (encs ([] : List Hand))) :: (.own s49 135 3 (encs r47.1.Hands)) :: (.own s51 209 3 (encs r47.1.Way)) :: (.blk b45 (enc (OverR.mk r35.1 s37 s39)) 124) :: (.own Sl.nil 209 3 (encs ([] : List Word))) :: (.own Sl.nil 135 3 (encs ([] : List Hand))) :: (.own s37 135 3 (encs r35.1.Hands)) :: (.own s39 209 3 (encs r35.1.Way)) :: (.blk b33 (enc (OverR.mk r23.1 s25 s27)) 124) :: (.own Sl.nil 209 3 (encs ([] : List Word))) :: (.own Sl.nil 135 3 (encs ([] : List Hand))) :: (.own s25 135 3 (encs r23.1.Hands)) :: (.own s27 209 3 (encs r23.1.Way)) :: (.blk b21 (enc (OverR.mk r11.1 s13 s15)) 124) :: (.own Sl.nil 209 3 (encs ([] : List Word))) :: (.own Sl.nil 135 3 (encs ([] : List Hand))) :: (.own s13 135 3 (encs r11.1.Hands)) :: (.blk b9 (enc (OverR.mk Over.zero Sl.nil Sl.nil)) 124) :: (.own Sl.nil 209 3 (encs ([] : List Word))) :: (.own Sl.nil 135 3 (encs ([] : List Hand))) :: (.blk b1 (enc (OverR.mk a0 s_a0_0 s_a0_1)) 124) :: L) trivial rfl ?_
        refine Cd.region ?_
        refine Lst.run rfl rfl (by decide) (Ev.assign rfl) ?_
        refine Lst.nil ?_
        refine At.then ?_
        obtain rfl := some_inj H
        replace H := HKo63
        obtain rfl := some_inj H
        refine Cd.ret ?_
        refine At.then_ret ?_
        exact At.ret1 rfl (Res.tmp rfl) (FLe.trans (FLe.trans (FLe.trans (FLe.trans (FLe.trans hF18 hF30) hF42) hF54) hF68) hF78) (List.Sublist.cons _ (List.Sublist.cons _ (List.Sublist.cons _ (List.Sublist.cons _ (List.Sublist.cons _ (List.Sublist.cons _ (List.Sublist.cons _ (List.Sublist.cons _ (List.Sublist.cons _ (List.Sublist.cons _ (List.Sublist.cons _ (List.Sublist.cons _ (List.Sublist.cons _ (List.Sublist.cons _ (List.Sublist.cons _ (List.Sublist.cons _ (List.Sublist.cons _ (List.Sublist.cons _ (List.Sublist.cons _ (List.Sublist.cons _ (List.Sublist.cons _ (List.Sublist.cons _ (List.Sublist.cons _ (List.Sublist.refl _)))))))))))))))))))))))) ⟨rfl, rfl⟩
      replace H := ite_f hb79 H
      refine Cd.condF rfl hb79 ?_
      refine Cd.skip ?_
      exact At.meet () (FLe.trans hF68 hF78) ⟨rfl, rfl, rfl, rfl, rfl, rfl, rfl, rfl, rfl, rfl, rfl, rfl, rfl, rfl, trivial⟩ rfl (some_inj H)
    replace H := ite_f hb69 H
    refine Cd.condF rfl hb69 ?_
    refine Cd.seq ?_
    refine Cd.region ?_
    refine Lst.run rfl rfl (by decide) (Ev.build (v := .agg (enc ({ Hand.zero with Boss := (-1 : Int) } : Hand)).toArray) (pv := [(1, .int .i64 (-1 : Int))]) ⟨rfl, rfl, trivial⟩ (fun w => by kernel_rfl)) ?_
    refine Lst.buildSlice (α := Hand) (xs := ([({ Hand.zero with Boss := (-1 : Int) } : Hand)] : List Hand)) (pv := [(0, .agg (enc ({ Hand.zero with Boss := (-1 : Int) } : Hand)).toArray)]) rfl rfl (by decide) ⟨rfl, rfl, trivial⟩ (run_buildSlice (α := Hand) (z0 := Hand.zero) (xs := ([({ Hand.zero with Boss := (-1 : Int) } : Hand)] : List Hand)) Try.runUnderlying122 Try.sizeOf135 Try.zeroValue135 rfl rfl rfl (by decide) rfl (fill_cons (cs := encs (List.replicate 1 Hand.zero)) (cs' := encs ((List.replicate 1 Hand.zero).set 0 ({ Hand.zero with Boss := (-1 : Int) } : Hand))) (vs := enc ({ Hand.zero with Boss := (-1 : Int) } : Hand)) rfl rfl (Enc.len _) ((Put.elemN (s := 3) (i := 0) (x := Hand.zero) (y := ({ Hand.zero with Boss := (-1 : Int) } : Hand)) rfl rfl (Put.here ((Enc.len _).trans (Enc.len _).symm))).off rfl) fill_nil)) rfl rfl (by decide) (fun s80 _ => ?_)
    refine Lst.run rfl rfl (by decide) (Ev.move rfl) ?_
    obtain ⟨r82, h83, H⟩ := bind_some H
    refine Lst.call rfl rfl (by decide) (vs := [Sl.v s80, .int .i64 a1]) ⟨rfl, rfl, trivial⟩ Try.call80 (slices_Repeat_api_Hand_api_Hand_sim h83 w0 _ _ _ (List.Sublist.refl _) (Rd.own (i := 0) rfl rfl rfl)) (fun F86 L' v hF87 hv => ?_)
    obtain ⟨s84, rfl, rfl⟩ := hv
    refine Lst.run rfl rfl (by decide) (Ev.assign rfl) ?_
    refine Lst.nil ?_
    refine At.then ?_
    refine Cd.seq ?_
    refine Cd.region ?_
    refine Lst.run rfl rfl (by decide) (Ev.move rfl) ?_
    obtain ⟨x88, h89, H⟩ := bind_some H
    have g90 := lat_some h89
    refine Lst.run rfl rfl (by decide) (Ev.indexS (α := Hand) (xs := r82) rfl rfl Try.runUnderlying122 Try.sizeOf135 rfl (by decide) (Rd.own (i := 0) rfl rfl rfl) g90.1 g90.2.1) ?_
    refine Lst.run rfl rfl (by decide) (Ev.fieldS (α := Hand) (f' := (0 : Int).toNat * 3 + 0) rfl (Rd.own (i := 0) rfl rfl rfl) ((Get.elemN (s := 3) (x := x88) rfl g90.2.2 (Get.here _)).off (by omega)) rfl Try.runUnderlying135 rfl Try.sizeOf4 rfl rfl rfl) ?_
    obtain ⟨p91, h92, H⟩ := Let_some H
    refine Lst.storeS (i := 0) rfl rfl rfl rfl rfl Try.sizeOf4 (vs := [.bool true]) rfl rfl (by decide) rfl (xs' := encs p91) (by rw [← h92]; exact (Put.elemN (s := 3) (x := x88) rfl g90.2.2 (Hand.put_Busy (Put.here (vs := [.bool true]) rfl))).off (by omega)) (L' := (.own s84 135 3 (encs p91)) :: (.own s80 135 3 (encs ([({ Hand.zero with Boss := (-1 : Int) } : Hand)] : List Hand))) :: (.blk b57 (enc (OverR.mk r47.1 s49 s51)) 124) :: (.own Sl.nil 209 3 (encs ([] : List Word))) :: (.own Sl.nil 135 3 (encs ([] : List Hand))) :: (.own s49 135 3 (encs r47.1.Hands)) :: (.own s51 209 3 (encs r47.1.Way)) :: (.blk b45 (enc (OverR.mk r35.1 s37 s39)) 124) :: (.own Sl.nil 209 3 (encs ([] : List Word))) :: (.own Sl.nil 135 3 (encs ([] : List Hand))) :: (.own s37 135 3 (encs r35.1.Hands)) :: (.own s39 209 3 (encs r35.1.Way)) :: (.blk b33 (enc (OverR.mk r23.1 s25 s27)) 124) :: (.own Sl.nil 209 3 (encs ([] : List Word))) :: (.own Sl.nil 135 3 (encs ([] : List Hand))) :: (.own s25 135 3 (encs r23.1.Hands)) :: (.own s27 209 3 (encs r23.1.Way)) :: (.blk b21 (enc (OverR.mk r11.1 s13 s15)) 124) :: (.own Sl.nil 209 3 (encs ([] : List Word))) :: (.own Sl.nil 135 3 (encs ([] : List Hand))) :: (.own s13 135 3 (encs r11.1.Hands)) :: (.blk b9 (enc (OverR.mk Over.zero Sl.nil Sl.nil)) 124) :: (.own Sl.nil 209 3 (encs ([] : List Word))) :: (.own Sl.nil 135 3 (encs ([] : List Hand))) :: (.blk b1 (enc (OverR.mk a0 s_a0_0 s_a0_1)) 124) :: L) rfl ?_
    refine Lst.nil ?_
    refine At.then ?_
    refine Cd.seq ?_
    refine Cd.region ?_
    refine Lst.run rfl rfl (by decide) (Ev.loadA (i := 17) rfl rfl Try.isAgg124 Try.sizeOf124 (ch := enc (OverR.mk r11.1 s13 s15)) (Enc.len _) (Get.here _)) ?_
    refine Lst.run rfl rfl (by decide) (Ev.move rfl) ?_
    refine Lst.run rfl rfl (by decide) (Ev.build (v := .agg (enc (OverR.mk ({ Over.zero with Hands := p91 } : Over) s84 Sl.nil)).toArray) (pv := [(0, Sl.v s84)]) ⟨rfl, rfl, trivial⟩ (run_buildStruct (places := #[(0, 1), (1, 1)]) Try.zeroValue124 (zs := enc (OverR.mk Over.zero Sl.nil Sl.nil)) rfl Try.runUnderlying124 (fun w => by kernel_rfl) (fill_cons (cs := enc (OverR.mk Over.zero Sl.nil Sl.nil)) (cs' := enc (OverR.mk ({ Over.zero with Hands := p91 } : Over) s84 Sl.nil)) (vs := [Sl.v s84]) rfl rfl rfl ((OverR.put_Hands (p := (OverR.mk Over.zero Sl.nil Sl.nil)) (y := s84) (Put.here (vs := [Sl.v s84]) rfl)).off rfl) fill_nil))) ?_
    obtain ⟨r93, h94, H⟩ := bind_some H
    refine Lst.call1 rfl rfl (by decide) (vs := [.agg (enc (OverR.mk r11.1 s13 s15)).toArray, .agg (enc (OverR.mk ({ Over.zero with Hands := p91 } : Over) s84 Sl.nil)).toArray]) ⟨rfl, rfl, trivial⟩ Try.call79 (partref_SameOver_sim h94 w0 _ _ _ (List.Sublist.refl _) (Rd.own (i := 20) rfl rfl rfl) (f16.mono (FLe.trans (FLe.trans (FLe.trans (FLe.trans hF30 hF42) hF54) hF68) hF87) (List.nil_sublist _)) (Rd.own (i := 0) rfl rfl rfl) Rd.nil) ?_
    refine Lst.run rfl rfl (by decide) (Ev.not rfl) ?_
    refine Lst.run rfl rfl (by decide) (Ev.move rfl) ?_
    obtain ⟨o97, H, HKo97⟩ := bind_some H
    refine Lst.join (σ := Bool) 3 (fun y98 => [(2, .int .i64 a2), (3, .int .i64 a3), (4, .int .i64 a4), (5, .pointer (some ⟨b1, 0, none⟩)), (11, .int .i64 r3), (12, .pointer (some ⟨b9, 0, none⟩)), (15, .pointer (some ⟨b33, 0, none⟩)), (16, .int .i64 r23.2), (17, .pointer (some ⟨b45, 0, none⟩)), (18, .int .i64 r35.2), (19, .pointer (some ⟨b57, 0, none⟩)), (20, .int .i64 r47.2), (21, .bool r59.1), (22, .int .i64 r59.2), (89, .bool y98)]) (fun y98 => (.own s84 135 3 (encs p91)) :: (.own s80 135 3 (encs ([({ Hand.zero with Boss := (-1 : Int) } : Hand)] : List Hand))) :: (.blk b57 (enc (OverR.mk r47.1 s49 s51)) 124) :: (.own Sl.nil 209 3 (encs ([] : List Word))) :: (.own Sl.nil 135 3 (encs ([] : List Hand))) :: (.own s49 135 3 (encs r47.1.Hands)) :: (.own s51 209 3 (encs r47.1.Way)) :: (.blk b45 (enc (OverR.mk r35.1 s37 s39)) 124) :: (.own Sl.nil 209 3 (encs ([] : List Word))) :: (.own Sl.nil 135 3 (encs ([] : List Hand))) :: (.own s37 135 3 (encs r35.1.Hands)) :: (.own s39 209 3 (encs r35.1.Way)) :: (.blk b33 (enc (OverR.mk r23.1 s25 s27)) 124) :: (.own Sl.nil 209 3 (encs ([] : List Word))) :: (.own Sl.nil 135 3 (encs ([] : List Hand))) :: (.own s25 135 3 (encs r23.1.Hands)) :: (.own s27 209 3 (encs r23.1.Way)) :: (.blk b21 (enc (OverR.mk r11.1 s13 s15)) 124) :: (.own Sl.nil 209 3 (encs ([] : List Word))) :: (.own Sl.nil 135 3 (encs ([] : List Hand))) :: (.own s13 135 3 (encs r11.1.Hands)) :: (.blk b9 (enc (OverR.mk Over.zero Sl.nil Sl.nil)) 124) :: (.own Sl.nil 209 3 (encs ([] : List Word))) :: (.own Sl.nil 135 3 (encs ([] : List Hand))) :: (.blk b1 (enc (OverR.mk a0 s_a0_0 s_a0_1)) 124) :: L) (fun _ y98 => y98 = o97) ?_ ?_
    · rcases Bool.eq_false_or_eq_true (!r93) with hb99 | hb99
      · replace H := ite_t hb99 H
        refine Lst.skip rfl rfl rfl hb99 rfl (by decide) ?_
        refine Lst.skip rfl rfl rfl hb99 rfl (by decide) ?_
        refine Lst.run rfl rfl (by decide) (Ev.pickT rfl hb99 rfl) ?_
        refine Lst.nil ?_
        exact At.meet true (FLe.refl _) ⟨rfl, rfl, rfl, rfl, rfl, rfl, rfl, rfl, rfl, rfl, rfl, rfl, rfl, rfl, rfl, trivial⟩ rfl (some_inj H)
      replace H := ite_f hb99 H
      refine Lst.runG rfl rfl rfl hb99 rfl (by decide) (Ev.move rfl) ?_
      refine Lst.runG rfl rfl rfl hb99 rfl (by decide) (Ev.neq rfl rfl) ?_
      refine Lst.run rfl rfl (by decide) (Ev.pickF rfl hb99 rfl) ?_
      refine Lst.nil ?_
      exact At.meet (r11.2 != (0 : Int)) (FLe.refl _) ⟨rfl, rfl, rfl, rfl, rfl, rfl, rfl, rfl, rfl, rfl, rfl, rfl, rfl, rfl, rfl, trivial⟩ rfl (some_inj H)
    rintro F100 y98 hF101 hy
    subst hy
    refine Lst.as (e' := [(2, .int .i64 a2), (3, .int .i64 a3), (4, .int .i64 a4), (5, .pointer (some ⟨b1, 0, none⟩)), (11, .int .i64 r3), (12, .pointer (some ⟨b9, 0, none⟩)), (15, .pointer (some ⟨b33, 0, none⟩)), (16, .int .i64 r23.2), (17, .pointer (some ⟨b45, 0, none⟩)), (18, .int .i64 r35.2), (19, .pointer (some ⟨b57, 0, none⟩)), (20, .int .i64 r47.2), (21, .bool r59.1), (22, .int .i64 r59.2), (89, .bool y98)]) (L' := (.own s84 135 3 (encs p91)) :: (.own s80 135 3 (encs ([({ Hand.zero with Boss := (-1 : Int) } : Hand)] : List Hand))) :: (.blk b57 (enc (OverR.mk r47.1 s49 s51)) 124) :: (.own Sl.nil 209 3 (encs ([] : List Word))) :: (.own Sl.nil 135 3 (encs ([] : List Hand))) :: (.own s49 135 3 (encs r47.1.Hands)) :: (.own s51 209 3 (encs r47.1.Way)) :: (.blk b45 (enc (OverR.mk r35.1 s37 s39)) 124) :: (.own Sl.nil 209 3 (encs ([] : List Word))) :: (.own Sl.nil 135 3 (encs ([] : List Hand))) :: (.own s37 135 3 (encs r35.1.Hands)) :: (.own s39 209 3 (encs r35.1.Way)) :: (.blk b33 (enc (OverR.mk r23.1 s25 s27)) 124) :: (.own Sl.nil 209 3 (encs ([] : List Word))) :: (.own Sl.nil 135 3 (encs ([] : List Hand))) :: (.own s25 135 3 (encs r23.1.Hands)) :: (.own s27 209 3 (encs r23.1.Way)) :: (.blk b21 (enc (OverR.mk r11.1 s13 s15)) 124) :: (.own Sl.nil 209 3 (encs ([] : List Word))) :: (.own Sl.nil 135 3 (encs ([] : List Hand))) :: (.own s13 135 3 (encs r11.1.Hands)) :: (.blk b9 (enc (OverR.mk Over.zero Sl.nil Sl.nil)) 124) :: (.own Sl.nil 209 3 (encs ([] : List Word))) :: (.own Sl.nil 135 3 (encs ([] : List Hand))) :: (.blk b1 (enc (OverR.mk a0 s_a0_0 s_a0_1)) 124) :: L) ⟨rfl, rfl, rfl, rfl, rfl, rfl, rfl, rfl, rfl, rfl, rfl, rfl, rfl, rfl, rfl, trivial⟩ rfl ?_
    replace H := HKo97
    refine Lst.nil ?_
    refine At.then ?_
    rcases Bool.eq_false_or_eq_true y98 with hb102 | hb102
    · replace H := ite_t hb102 H
      refine Cd.condT rfl hb102 ?_
      refine Cd.seq ?_
      refine Cd.as (e' := []) (L' := (.own s84 135 3 (encs p91)) :: (.own s80 135 3 (encs ([({ Hand.zero with Boss := (-1 : Int) } : Hand)] : List Hand))) :: (.blk b57 (enc (OverR.mk r47.1 s49 s51)) 124) :: (.own Sl.nil 209 3 (encs ([] : List Word))) :: (.own Sl.nil 135 3 (encs ([] : List Hand))) :: (.own s49 135 3 (encs r47.1.Hands)) :: (.own s51 209 3 (encs r47.1.Way)) :: (.blk b45 (enc (OverR.mk r35.1 s37 s39)) 124) :: (.own Sl.nil 209 3 (encs ([] : List Word))) :: (.own Sl.nil 135 3 (encs ([] : List Hand))) :: (.own s37 135 3 (encs r35.1.Hands)) :: (.own s39 209 3 (encs r35.1.Way)) :: (.blk b33 (enc (OverR.mk r23.1 s25 s27)) 124) :: (.own Sl.nil 209 3 (encs ([] : List Word))) :: (.own Sl.nil 135 3 (encs ([] : List Hand))) :: (.own s25 135 3 (encs r23.1.Hands)) :: (.own s27 209 3 (encs r23.1.Way)) :: (.blk b21 (enc (OverR.mk r11.1 s13 s15)) 124) :: (.own Sl.nil 209 3 (encs ([] : List Word))) :: (.own Sl.nil 135 3 (encs ([] : List Hand))) :: (.own s13 135 3 (encs r11.1.Hands)) :: (.blk b9 (enc (OverR.mk Over.zero Sl.nil Sl.nil)) 124) :: (.own Sl.nil 209 3 (encs ([] : List Word))) :: (.own Sl.nil 135 3 (encs ([] : List Hand))) :: (.blk b1 (enc (OverR.mk a0 s_a0_0 s_a0_1)) 124) :: L) trivial rfl ?_
      refine Cd.region ?_
      refine Lst.run rfl rfl (by decide) (Ev.assign rfl) ?_
      refine Lst.nil ?_
      refine At.then ?_
      obtain rfl := some_inj H
      replace H := HKo63
      obtain rfl := some_inj H
      refine Cd.ret ?_
      refine At.then_ret ?_
      exact At.ret1 rfl (Res.tmp rfl) (FLe.trans (FLe.trans (FLe.trans (FLe.trans (FLe.trans (FLe.trans hF18 hF30) hF42) hF54) hF68) hF87) hF101) (List.Sublist.cons _ (List.Sublist.cons _ (List.Sublist.cons _ (List.Sublist.cons _ (List.Sublist.cons _ (List.Sublist.cons _ (List.Sublist.cons _ (List.Sublist.cons _ (List.Sublist.cons _ (List.Sublist.cons _ (List.Sublist.cons _ (List.Sublist.cons _ (List.Sublist.cons _ (List.Sublist.cons _ (List.Sublist.cons _ (List.Sublist.cons _ (List.Sublist.cons _ (List.Sublist.cons _ (List.Sublist.cons _ (List.Sublist.cons _ (List.Sublist.cons _ (List.Sublist.cons _ (List.Sublist.cons _ (List.Sublist.cons _ (List.Sublist.cons _ (List.Sublist.refl _)))))))))))))))))))))))))) ⟨rfl, rfl⟩
    replace H := ite_f hb102 H
    refine Cd.condF rfl hb102 ?_
    refine Cd.skip ?_
    refine At.less (L' := (.blk b57 (enc (OverR.mk r47.1 s49 s51)) 124) :: (.own Sl.nil 209 3 (encs ([] : List Word))) :: (.own Sl.nil 135 3 (encs ([] : List Hand))) :: (.own s49 135 3 (encs r47.1.Hands)) :: (.own s51 209 3 (encs r47.1.Way)) :: (.blk b45 (enc (OverR.mk r35.1 s37 s39)) 124) :: (.own Sl.nil 209 3 (encs ([] : List Word))) :: (.own Sl.nil 135 3 (encs ([] : List Hand))) :: (.own s37 135 3 (encs r35.1.Hands)) :: (.own s39 209 3 (encs r35.1.Way)) :: (.blk b33 (enc (OverR.mk r23.1 s25 s27)) 124) :: (.own Sl.nil 209 3 (encs ([] : List Word))) :: (.own Sl.nil 135 3 (encs ([] : List Hand))) :: (.own s25 135 3 (encs r23.1.Hands)) :: (.own s27 209 3 (encs r23.1.Way)) :: (.blk b21 (enc (OverR.mk r11.1 s13 s15)) 124) :: (.own Sl.nil 209 3 (encs ([] : List Word))) :: (.own Sl.nil 135 3 (encs ([] : List Hand))) :: (.own s13 135 3 (encs r11.1.Hands)) :: (.blk b9 (enc (OverR.mk Over.zero Sl.nil Sl.nil)) 124) :: (.own Sl.nil 209 3 (encs ([] : List Word))) :: (.own Sl.nil 135 3 (encs ([] : List Hand))) :: (.blk b1 (enc (OverR.mk a0 s_a0_0 s_a0_1)) 124) :: L) (List.Sublist.cons _ (List.Sublist.cons _ (List.Sublist.cons_cons _ (List.Sublist.cons_cons _ (List.Sublist.cons_cons _ (List.Sublist.cons_cons _ (List.Sublist.cons_cons _ (List.Sublist.cons_cons _ (List.Sublist.cons_cons _ (List.Sublist.cons_cons _ (List.Sublist.cons_cons _ (List.Sublist.cons_cons _ (List.Sublist.cons_cons _ (List.Sublist.cons_cons _ (List.Sublist.cons_cons _ (List.Sublist.cons_cons _ (List.Sublist.cons_cons _ (List.Sublist.cons_cons _ (List.Sublist.cons_cons _ (List.Sublist.cons_cons _ (List.Sublist.cons_cons _ (List.Sublist.cons_cons _ (List.Sublist.cons_cons _ (List.Sublist.cons_cons _ (List.Sublist.cons_cons _ (List.Sublist.refl _)))))))))))))))))))))))))) ?_
    exact At.meet () (FLe.trans (FLe.trans hF68 hF87) hF101) ⟨rfl, rfl, rfl, rfl, rfl, rfl, rfl, rfl, rfl, rfl, rfl, rfl, rfl, rfl, trivial⟩ rfl (some_inj H)
  rintro F103 _u hF104 hy
  subst hy
  refine Cd.as (e' := [(2, .int .i64 a2), (3, .int .i64 a3), (4, .int .i64 a4), (5, .pointer (some ⟨b1, 0, none⟩)), (11, .int .i64 r3), (12, .pointer (some ⟨b9, 0, none⟩)), (15, .pointer (some ⟨b33, 0, none⟩)), (16, .int .i64 r23.2), (17, .pointer (some ⟨b45, 0, none⟩)), (18, .int .i64 r35.2), (19, .pointer (some ⟨b57, 0, none⟩)), (20, .int .i64 r47.2), (21, .bool r59.1), (22, .int .i64 r59.2)]) (L' := (.blk b57 (enc (OverR.mk r47.1 s49 s51)) 124) :: (.own Sl.nil 209 3 (encs ([] : List Word))) :: (.own Sl.nil 135 3 (encs ([] : List Hand))) :: (.own s49 135 3 (encs r47.1.Hands)) :: (.own s51 209 3 (encs r47.1.Way)) :: (.blk b45 (enc (OverR.mk r35.1 s37 s39)) 124) :: (.own Sl.nil 209 3 (encs ([] : List Word))) :: (.own Sl.nil 135 3 (encs ([] : List Hand))) :: (.own s37 135 3 (encs r35.1.Hands)) :: (.own s39 209 3 (encs r35.1.Way)) :: (.blk b33 (enc (OverR.mk r23.1 s25 s27)) 124) :: (.own Sl.nil 209 3 (encs ([] : List Word))) :: (.own Sl.nil 135 3 (encs ([] : List Hand))) :: (.own s25 135 3 (encs r23.1.Hands)) :: (.own s27 209 3 (encs r23.1.Way)) :: (.blk b21 (enc (OverR.mk r11.1 s13 s15)) 124) :: (.own Sl.nil 209 3 (encs ([] : List Word))) :: (.own Sl.nil 135 3 (encs ([] : List Hand))) :: (.own s13 135 3 (encs r11.1.Hands)) :: (.blk b9 (enc (OverR.mk Over.zero Sl.nil Sl.nil)) 124) :: (.own Sl.nil 209 3 (encs ([] : List Word))) :: (.own Sl.nil 135 3 (encs ([] : List Hand))) :: (.blk b1 (enc (OverR.mk a0 s_a0_0 s_a0_1)) 124) :: L) ⟨rfl, rfl, rfl, rfl, rfl, rfl, rfl, rfl, rfl, rfl, rfl, rfl, rfl, rfl, trivial⟩ rfl ?_
  replace H := HKo63
  refine Cd.seq ?_
  refine Cd.seq ?_
  refine Cd.region ?_
  refine Lst.run rfl rfl (by decide) (Ev.loadA (i := 22) rfl rfl Try.isAgg124 Try.sizeOf124 (ch := enc (OverR.mk a0 s_a0_0 s_a0_1)) (Enc.len _) (Get.here _)) ?_
  obtain ⟨r105, h106, H⟩ := bind_some H
  refine Lst.call1 rfl rfl (by decide) (vs := [.agg (enc (OverR.mk a0 s_a0_0 s_a0_1)).toArray]) ⟨rfl, trivial⟩ Try.call81 (over_Check_sim h106 w0 _ M _ (List.Sublist.cons _ (List.Sublist.cons _ (List.Sublist.cons _ (List.Sublist.cons _ (List.Sublist.cons _ (List.Sublist.cons _ (List.Sublist.cons _ (List.Sublist.cons _ (List.Sublist.cons _ (List.Sublist.cons _ (List.Sublist.cons _ (List.Sublist.cons _ (List.Sublist.cons _ (List.Sublist.cons _ (List.Sublist.cons _ (List.Sublist.cons _ (List.Sublist.cons _ (List.Sublist.cons _ (List.Sublist.cons _ (List.Sublist.cons _ (List.Sublist.cons _ (List.Sublist.cons _ (List.Sublist.cons _ hM))))))))))))))))))))))) (hs_a0_0.mono (FLe.trans (FLe.trans (FLe.trans (FLe.trans hF18 hF30) hF42) hF54) hF104) (List.Sublist.refl _)) (hs_a0_1.mono (FLe.trans (FLe.trans (FLe.trans (FLe.trans hF18 hF30) hF42) hF54) hF104) (List.Sublist.refl _))) ?_
  refine Lst.run rfl rfl (by decide) (Ev.move rfl) ?_
  refine Lst.run rfl rfl (by decide) (Ev.neq rfl rfl) ?_
  refine Lst.nil ?_
  refine At.then ?_
  rcases Bool.eq_false_or_eq_true (r105 != r3) with hb109 | hb109
  · replace H := ite_t hb109 H
    refine Cd.condT rfl hb109 ?_
    refine Cd.seq ?_
    refine Cd.as (e' := []) (L' := (.blk b57 (enc (OverR.mk r47.1 s49 s51)) 124) :: (.own Sl.nil 209 3 (encs ([] : List Word))) :: (.own Sl.nil 135 3 (encs ([] : List Hand))) :: (.own s49 135 3 (encs r47.1.Hands)) :: (.own s51 209 3 (encs r47.1.Way)) :: (.blk b45 (enc (OverR.mk r35.1 s37 s39)) 124) :: (.own Sl.nil 209 3 (encs ([] : List Word))) :: (.own Sl.nil 135 3 (encs ([] : List Hand))) :: (.own s37 135 3 (encs r35.1.Hands)) :: (.own s39 209 3 (encs r35.1.Way)) :: (.blk b33 (enc (OverR.mk r23.1 s25 s27)) 124) :: (.own Sl.nil 209 3 (encs ([] : List Word))) :: (.own Sl.nil 135 3 (encs ([] : List Hand))) :: (.own s25 135 3 (encs r23.1.Hands)) :: (.own s27 209 3 (encs r23.1.Way)) :: (.blk b21 (enc (OverR.mk r11.1 s13 s15)) 124) :: (.own Sl.nil 209 3 (encs ([] : List Word))) :: (.own Sl.nil 135 3 (encs ([] : List Hand))) :: (.own s13 135 3 (encs r11.1.Hands)) :: (.blk b9 (enc (OverR.mk Over.zero Sl.nil Sl.nil)) 124) :: (.own Sl.nil 209 3 (encs ([] : List Word))) :: (.own Sl.nil 135 3 (encs ([] : List Hand))) :: (.blk b1 (enc (OverR.mk a0 s_a0_0 s_a0_1)) 124) :: L) trivial rfl ?_
    refine Cd.region ?_
    refine Lst.run rfl rfl (by decide) (Ev.assign rfl) ?_
    refine Lst.nil ?_
    refine At.then ?_
    obtain rfl := some_inj H
    refine Cd.ret ?_
    refine At.then_ret ?_
    exact At.ret1 rfl (Res.tmp rfl) (FLe.trans (FLe.trans (FLe.trans (FLe.trans hF18 hF30) hF42) hF54) hF104) (List.Sublist.cons _ (List.Sublist.cons _ (List.Sublist.cons _ (List.Sublist.cons _ (List.Sublist.cons _ (List.Sublist.cons _ (List.Sublist.cons _ (List.Sublist.cons _ (List.Sublist.cons _ (List.Sublist.cons _ (List.Sublist.cons _ (List.Sublist.cons _ (List.Sublist.cons _ (List.Sublist.cons _ (List.Sublist.cons _ (List.Sublist.cons _ (List.Sublist.cons _ (List.Sublist.cons _ (List.Sublist.cons _ (List.Sublist.cons _ (List.Sublist.cons _ (List.Sublist.cons _ (List.Sublist.cons _ (List.Sublist.refl _)))))))))))))))))))))))) ⟨rfl, rfl⟩
  replace H := ite_f hb109 H
  refine Cd.condF rfl hb109 ?_
  refine Cd.skip ?_
  refine At.then ?_
  refine Cd.seq ?_
  refine Cd.seq ?_
  refine Cd.region ?_
  refine Lst.run rfl rfl (by decide) (Ev.move rfl) ?_
  refine Lst.run rfl rfl (by decide) (Ev.neq rfl rfl) ?_
  refine Lst.nil ?_
  refine At.then ?_
  rcases Bool.eq_false_or_eq_true (r3 != (0 : Int)) with hb110 | hb110
  · replace H := ite_t hb110 H
    refine Cd.condT rfl hb110 ?_
    refine Cd.seq ?_
    refine Cd.region ?_
    refine Lst.run rfl rfl (by decide) (Ev.loadA (i := 10) rfl rfl Try.isAgg124 Try.sizeOf124 (ch := enc (OverR.mk r23.1 s25 s27)) (Enc.len _) (Get.here _)) ?_
    refine Lst.run rfl rfl (by decide) (Ev.loadA (i := 19) rfl rfl Try.isAgg124 Try.sizeOf124 (ch := enc (OverR.mk Over.zero Sl.nil Sl.nil)) (Enc.len _) (Get.here _)) ?_
    obtain ⟨r111, h112, H⟩ := bind_some H
    refine Lst.call1 rfl rfl (by decide) (vs := [.agg (enc (OverR.mk r23.1 s25 s27)).toArray, .agg (enc (OverR.mk Over.zero Sl.nil Sl.nil)).toArray]) ⟨rfl, rfl, trivial⟩ Try.call79 (partref_SameOver_sim h112 w0 _ _ _ (List.Sublist.refl _) (Rd.own (i := 13) rfl rfl rfl) (Rd.own (i := 14) rfl rfl rfl) Rd.nil Rd.nil) ?_
    refine Lst.run rfl rfl (by decide) (Ev.move rfl) ?_
    obtain ⟨o115, H, HKo115⟩ := bind_some H
    refine Lst.join (σ := Bool) 4 (fun y116 => [(11, .int .i64 r3), (12, .pointer (some ⟨b9, 0, none⟩)), (17, .pointer (some ⟨b45, 0, none⟩)), (18, .int .i64 r35.2), (19, .pointer (some ⟨b57, 0, none⟩)), (20, .int .i64 r47.2), (21, .bool r59.1), (22, .int .i64 r59.2), (103, .bool y116)]) (fun y116 => (.blk b57 (enc (OverR.mk r47.1 s49 s51)) 124) :: (.own Sl.nil 209 3 (encs ([] : List Word))) :: (.own Sl.nil 135 3 (encs ([] : List Hand))) :: (.own s49 135 3 (encs r47.1.Hands)) :: (.own s51 209 3 (encs r47.1.Way)) :: (.blk b45 (enc (OverR.mk r35.1 s37 s39)) 124) :: (.own Sl.nil 209 3 (encs ([] : List Word))) :: (.own Sl.nil 135 3 (encs ([] : List Hand))) :: (.own s37 135 3 (encs r35.1.Hands)) :: (.own s39 209 3 (encs r35.1.Way)) :: (.blk b33 (enc (OverR.mk r23.1 s25 s27)) 124) :: (.own Sl.nil 209 3 (encs ([] : List Word))) :: (.own Sl.nil 135 3 (encs ([] : List Hand))) :: (.own s25 135 3 (encs r23.1.Hands)) :: (.own s27 209 3 (encs r23.1.Way)) :: (.blk b21 (enc (OverR.mk r11.1 s13 s15)) 124) :: (.own Sl.nil 209 3 (encs ([] : List Word))) :: (.own Sl.nil 135 3 (encs ([] : List Hand))) :: (.own s13 135 3 (encs r11.1.Hands)) :: (.blk b9 (enc (OverR.mk Over.zero Sl.nil Sl.nil)) 124) :: (.own Sl.nil 209 3 (encs ([] : List Word))) :: (.own Sl.nil 135 3 (encs ([] : List Hand))) :: (.blk b1 (enc (OverR.mk a0 s_a0_0 s_a0_1)) 124) :: L) (fun _ y116 => y116 = o115) ?_ ?_
    · rcases (Bool.eq_false_or_eq_true r111).symm with hb117 | hb117
      · replace H := ite_f hb117 H
        refine Lst.skip rfl rfl rfl hb117 rfl (by decide) ?_
        refine Lst.skip rfl rfl rfl hb117 rfl (by decide) ?_
        refine Lst.skip rfl rfl rfl hb117 rfl (by decide) ?_
        refine Lst.run rfl rfl (by decide) (Ev.pickF rfl hb117 rfl) ?_
        refine Lst.nil ?_
        exact At.meet false (FLe.refl _) ⟨rfl, rfl, rfl, rfl, rfl, rfl, rfl, rfl, rfl, trivial⟩ rfl (some_inj H)
      replace H := ite_t hb117 H
      refine Lst.runG rfl rfl rfl hb117 rfl (by decide) (Ev.move rfl) ?_
      refine Lst.runG rfl rfl rfl hb117 rfl (by decide) (Ev.move rfl) ?_
      refine Lst.runG rfl rfl rfl hb117 rfl (by decide) (Ev.eql rfl rfl) ?_
      refine Lst.run rfl rfl (by decide) (Ev.pickT rfl hb117 rfl) ?_
      refine Lst.nil ?_
      exact At.meet (r23.2 == r3) (FLe.refl _) ⟨rfl, rfl, rfl, rfl, rfl, rfl, rfl, rfl, rfl, trivial⟩ rfl (some_inj H)
    rintro F118 y116 hF119 hy
    subst hy
    refine Lst.as (e' := [(11, .int .i64 r3), (12, .pointer (some ⟨b9, 0, none⟩)), (17, .pointer (some ⟨b45, 0, none⟩)), (18, .int .i64 r35.2), (19, .pointer (some ⟨b57, 0, none⟩)), (20, .int .i64 r47.2), (21, .bool r59.1), (22, .int .i64 r59.2), (103, .bool y116)]) (L' := (.blk b57 (enc (OverR.mk r47.1 s49 s51)) 124) :: (.own Sl.nil 209 3 (encs ([] : List Word))) :: (.own Sl.nil 135 3 (encs ([] : List Hand))) :: (.own s49 135 3 (encs r47.1.Hands)) :: (.own s51 209 3 (encs r47.1.Way)) :: (.blk b45 (enc (OverR.mk r35.1 s37 s39)) 124) :: (.own Sl.nil 209 3 (encs ([] : List Word))) :: (.own Sl.nil 135 3 (encs ([] : List Hand))) :: (.own s37 135 3 (encs r35.1.Hands)) :: (.own s39 209 3 (encs r35.1.Way)) :: (.blk b33 (enc (OverR.mk r23.1 s25 s27)) 124) :: (.own Sl.nil 209 3 (encs ([] : List Word))) :: (.own Sl.nil 135 3 (encs ([] : List Hand))) :: (.own s25 135 3 (encs r23.1.Hands)) :: (.own s27 209 3 (encs r23.1.Way)) :: (.blk b21 (enc (OverR.mk r11.1 s13 s15)) 124) :: (.own Sl.nil 209 3 (encs ([] : List Word))) :: (.own Sl.nil 135 3 (encs ([] : List Hand))) :: (.own s13 135 3 (encs r11.1.Hands)) :: (.blk b9 (enc (OverR.mk Over.zero Sl.nil Sl.nil)) 124) :: (.own Sl.nil 209 3 (encs ([] : List Word))) :: (.own Sl.nil 135 3 (encs ([] : List Hand))) :: (.blk b1 (enc (OverR.mk a0 s_a0_0 s_a0_1)) 124) :: L) ⟨rfl, rfl, rfl, rfl, rfl, rfl, rfl, rfl, rfl, trivial⟩ rfl ?_
    replace H := HKo115
    refine Lst.run rfl rfl (by decide) (Ev.move rfl) ?_
    obtain ⟨o120, H, HKo120⟩ := bind_some H
    refine Lst.join (σ := Bool) 4 (fun y121 => [(11, .int .i64 r3), (12, .pointer (some ⟨b9, 0, none⟩)), (18, .int .i64 r35.2), (19, .pointer (some ⟨b57, 0, none⟩)), (20, .int .i64 r47.2), (21, .bool r59.1), (22, .int .i64 r59.2), (108, .bool y121)]) (fun y121 => (.blk b57 (enc (OverR.mk r47.1 s49 s51)) 124) :: (.own Sl.nil 209 3 (encs ([] : List Word))) :: (.own Sl.nil 135 3 (encs ([] : List Hand))) :: (.own s49 135 3 (encs r47.1.Hands)) :: (.own s51 209 3 (encs r47.1.Way)) :: (.blk b45 (enc (OverR.mk r35.1 s37 s39)) 124) :: (.own Sl.nil 209 3 (encs ([] : List Word))) :: (.own Sl.nil 135 3 (encs ([] : List Hand))) :: (.own s37 135 3 (encs r35.1.Hands)) :: (.own s39 209 3 (encs r35.1.Way)) :: (.blk b33 (enc (OverR.mk r23.1 s25 s27)) 124) :: (.own Sl.nil 209 3 (encs ([] : List Word))) :: (.own Sl.nil 135 3 (encs ([] : List Hand))) :: (.own s25 135 3 (encs r23.1.Hands)) :: (.own s27 209 3 (encs r23.1.Way)) :: (.blk b21 (enc (OverR.mk r11.1 s13 s15)) 124) :: (.own Sl.nil 209 3 (encs ([] : List Word))) :: (.own Sl.nil 135 3 (encs ([] : List Hand))) :: (.own s13 135 3 (encs r11.1.Hands)) :: (.blk b9 (enc (OverR.mk Over.zero Sl.nil Sl.nil)) 124) :: (.own Sl.nil 209 3 (encs ([] : List Word))) :: (.own Sl.nil 135 3 (encs ([] : List Hand))) :: (.blk b1 (enc (OverR.mk a0 s_a0_0 s_a0_1)) 124) :: L) (fun _ y121 => y121 = o120) ?_ ?_
    · rcases (Bool.eq_false_or_eq_true y116).symm with hb122 | hb122
      · replace H := ite_f hb122 H
        refine Lst.skip rfl rfl rfl hb122 rfl (by decide) ?_
        refine Lst.skip rfl rfl rfl hb122 rfl (by decide) ?_
        refine Lst.skip rfl rfl rfl hb122 rfl (by decide) ?_
        refine Lst.run rfl rfl (by decide) (Ev.pickF rfl hb122 rfl) ?_
        refine Lst.nil ?_
        exact At.meet false (FLe.refl _) ⟨rfl, rfl, rfl, rfl, rfl, rfl, rfl, rfl, trivial⟩ rfl (some_inj H)
      replace H := ite_t hb122 H
      refine Lst.runG rfl rfl rfl hb122 rfl (by decide) (Ev.loadA (i := 5) rfl rfl Try.isAgg124 Try.sizeOf124 (ch := enc (OverR.mk r35.1 s37 s39)) (Enc.len _) (Get.here _)) ?_
      refine Lst.runG rfl rfl rfl hb122 rfl (by decide) (Ev.loadA (i := 19) rfl rfl Try.isAgg124 Try.sizeOf124 (ch := enc (OverR.mk Over.zero Sl.nil Sl.nil)) (Enc.len _) (Get.here _)) ?_
      obtain ⟨r123, h124, H⟩ := bind_some H
      refine Lst.call1G rfl rfl rfl hb122 rfl (by decide) (vs := [.agg (enc (OverR.mk r35.1 s37 s39)).toArray, .agg (enc (OverR.mk Over.zero Sl.nil Sl.nil)).toArray]) ⟨rfl, rfl, trivial⟩ Try.call79 (partref_SameOver_sim h124 w0 _ _ _ (List.Sublist.refl _) (Rd.own (i := 8) rfl rfl rfl) (Rd.own (i := 9) rfl rfl rfl) Rd.nil Rd.nil) ?_
      refine Lst.run rfl rfl (by decide) (Ev.pickT rfl hb122 rfl) ?_
      refine Lst.nil ?_
      exact At.meet r123 (FLe.refl _) ⟨rfl, rfl, rfl, rfl, rfl, rfl, rfl, rfl, trivial⟩ rfl (some_inj H)
    rintro F127 y121 hF128 hy
    subst hy
    refine Lst.as (e' := [(11, .int .i64 r3), (12, .pointer (some ⟨b9, 0, none⟩)), (18, .int .i64 r35.2), (19, .pointer (some ⟨b57, 0, none⟩)), (20, .int .i64 r47.2), (21, .bool r59.1), (22, .int .i64 r59.2), (108, .bool y121)]) (L' := (.blk b57 (enc (OverR.mk r47.1 s49 s51)) 124) :: (.own Sl.nil 209 3 (encs ([] : List Word))) :: (.own Sl.nil 135 3 (encs ([] : List Hand))) :: (.own s49 135 3 (encs r47.1.Hands)) :: (.own s51 209 3 (encs r47.1.Way)) :: (.blk b45 (enc (OverR.mk r35.1 s37 s39)) 124) :: (.own Sl.nil 209 3 (encs ([] : List Word))) :: (.own Sl.nil 135 3 (encs ([] : List Hand))) :: (.own s37 135 3 (encs r35.1.Hands)) :: (.own s39 209 3 (encs r35.1.Way)) :: (.blk b33 (enc (OverR.mk r23.1 s25 s27)) 124) :: (.own Sl.nil 209 3 (encs ([] : List Word))) :: (.own Sl.nil 135 3 (encs ([] : List Hand))) :: (.own s25 135 3 (encs r23.1.Hands)) :: (.own s27 209 3 (encs r23.1.Way)) :: (.blk b21 (enc (OverR.mk r11.1 s13 s15)) 124) :: (.own Sl.nil 209 3 (encs ([] : List Word))) :: (.own Sl.nil 135 3 (encs ([] : List Hand))) :: (.own s13 135 3 (encs r11.1.Hands)) :: (.blk b9 (enc (OverR.mk Over.zero Sl.nil Sl.nil)) 124) :: (.own Sl.nil 209 3 (encs ([] : List Word))) :: (.own Sl.nil 135 3 (encs ([] : List Hand))) :: (.blk b1 (enc (OverR.mk a0 s_a0_0 s_a0_1)) 124) :: L) ⟨rfl, rfl, rfl, rfl, rfl, rfl, rfl, rfl, trivial⟩ rfl ?_
    replace H := HKo120
    refine Lst.run rfl rfl (by decide) (Ev.move rfl) ?_
    obtain ⟨o129, H, HKo129⟩ := bind_some H
    refine Lst.join (σ := Bool) 4 (fun y130 => [(11, .int .i64 r3), (12, .pointer (some ⟨b9, 0, none⟩)), (19, .pointer (some ⟨b57, 0, none⟩)), (20, .int .i64 r47.2), (21, .bool r59.1), (22, .int .i64 r59.2), (113, .bool y130)]) (fun y130 => (.blk b57 (enc (OverR.mk r47.1 s49 s51)) 124) :: (.own Sl.nil 209 3 (encs ([] : List Word))) :: (.own Sl.nil 135 3 (encs ([] : List Hand))) :: (.own s49 135 3 (encs r47.1.Hands)) :: (.own s51 209 3 (encs r47.1.Way)) :: (.blk b45 (enc (OverR.mk r35.1 s37 s39)) 124) :: (.own Sl.nil 209 3 (encs ([] : List Word))) :: (.own Sl.nil 135 3 (encs ([] : List Hand))) :: (.own s37 135 3 (encs r35.1.Hands)) :: (.own s39 209 3 (encs r35.1.Way)) :: (.blk b33 (enc (OverR.mk r23.1 s25 s27)) 124) :: (.own Sl.nil 209 3 (encs ([] : List Word))) :: (.own Sl.nil 135 3 (encs ([] : List Hand))) :: (.own s25 135 3 (encs r23.1.Hands)) :: (.own s27 209 3 (encs r23.1.Way)) :: (.blk b21 (enc (OverR.mk r11.1 s13 s15)) 124) :: (.own Sl.nil 209 3 (encs ([] : List Word))) :: (.own Sl.nil 135 3 (encs ([] : List Hand))) :: (.own s13 135 3 (encs r11.1.Hands)) :: (.blk b9 (enc (OverR.mk Over.zero Sl.nil Sl.nil)) 124) :: (.own Sl.nil 209 3 (encs ([] : List Word))) :: (.own Sl.nil 135 3 (encs ([] : List Hand))) :: (.blk b1 (enc (OverR.mk a0 s_a0_0 s_a0_1)) 124) :: L) (fun _ y130 => y130 = o129) ?_ ?_
    · rcases (Bool.eq_false_or_eq_true y121).symm with hb131 | hb131
      · replace H := ite_f hb131 H
        refine Lst.skip rfl rfl rfl hb131 rfl (by decide) ?_
        refine Lst.skip rfl rfl rfl hb131 rfl (by decide) ?_
        refine Lst.skip rfl rfl rfl hb131 rfl (by decide) ?_
        refine Lst.run rfl rfl (by decide) (Ev.pickF rfl hb131 rfl) ?_
        refine Lst.nil ?_
        exact At.meet false (FLe.refl _) ⟨rfl, rfl, rfl, rfl, rfl, rfl, rfl, trivial⟩ rfl (some_inj H)
      replace H := ite_t hb131 H
      refine Lst.runG rfl rfl rfl hb131 rfl (by decide) (Ev.move rfl) ?_
      refine Lst.runG rfl rfl rfl hb131 rfl (by decide) (Ev.move rfl) ?_
      refine Lst.runG rfl rfl rfl hb131 rfl (by decide) (Ev.eql rfl rfl) ?_
      refine Lst.run rfl rfl (by decide) (Ev.pickT rfl hb131 rfl) ?_
      refine Lst.nil ?_
      exact At.meet (r35.2 == r3) (FLe.refl _) ⟨rfl, rfl, rfl, rfl, rfl, rfl, rfl, trivial⟩ rfl (some_inj H)
    rintro F132 y130 hF133 hy
    subst hy
    refine Lst.as (e' := [(11, .int .i64 r3), (12, .pointer (some ⟨b9, 0, none⟩)), (19, .pointer (some ⟨b57, 0, none⟩)), (20, .int .i64 r47.2), (21, .bool r59.1), (22, .int .i64 r59.2), (113, .bool y130)]) (L' := (.blk b57 (enc (OverR.mk r47.1 s49 s51)) 124) :: (.own Sl.nil 209 3 (encs ([] : List Word))) :: (.own Sl.nil 135 3 (encs ([] : List Hand))) :: (.own s49 135 3 (encs r47.1.Hands)) :: (.own s51 209 3 (encs r47.1.Way)) :: (.blk b45 (enc (OverR.mk r35.1 s37 s39)) 124) :: (.own Sl.nil 209 3 (encs ([] : List Word))) :: (.own Sl.nil 135 3 (encs ([] : List Hand))) :: (.own s37 135 3 (encs r35.1.Hands)) :: (.own s39 209 3 (encs r35.1.Way)) :: (.blk b33 (enc (OverR.mk r23.1 s25 s27)) 124) :: (.own Sl.nil 209 3 (encs ([] : List Word))) :: (.own Sl.nil 135 3 (encs ([] : List Hand))) :: (.own s25 135 3 (encs r23.1.Hands)) :: (.own s27 209 3 (encs r23.1.Way)) :: (.blk b21 (enc (OverR.mk r11.1 s13 s15)) 124) :: (.own Sl.nil 209 3 (encs ([] : List Word))) :: (.own Sl.nil 135 3 (encs ([] : List Hand))) :: (.own s13 135 3 (encs r11.1.Hands)) :: (.blk b9 (enc (OverR.mk Over.zero Sl.nil Sl.nil)) 124) :: (.own Sl.nil 209 3 (encs ([] : List Word))) :: (.own Sl.nil 135 3 (encs ([] : List Hand))) :: (.blk b1 (enc (OverR.mk a0 s_a0_0 s_a0_1)) 124) :: L) ⟨rfl, rfl, rfl, rfl, rfl, rfl, rfl, trivial⟩ rfl ?_
    replace H := HKo129
    refine Lst.run rfl rfl (by decide) (Ev.move rfl) ?_
    obtain ⟨o134, H, HKo134⟩ := bind_some H
    refine Lst.join (σ := Bool) 4 (fun y135 => [(11, .int .i64 r3), (20, .int .i64 r47.2), (21, .bool r59.1), (22, .int .i64 r59.2), (118, .bool y135)]) (fun y135 => (.blk b57 (enc (OverR.mk r47.1 s49 s51)) 124) :: (.own Sl.nil 209 3 (encs ([] : List Word))) :: (.own Sl.nil 135 3 (encs ([] : List Hand))) :: (.own s49 135 3 (encs r47.1.Hands)) :: (.own s51 209 3 (encs r47.1.Way)) :: (.blk b45 (enc (OverR.mk r35.1 s37 s39)) 124) :: (.own Sl.nil 209 3 (encs ([] : List Word))) :: (.own Sl.nil 135 3 (encs ([] : List Hand))) :: (.own s37 135 3 (encs r35.1.Hands)) :: (.own s39 209 3 (encs r35.1.Way)) :: (.blk b33 (enc (OverR.mk r23.1 s25 s27)) 124) :: (.own Sl.nil 209 3 (encs ([] : List Word))) :: (.own Sl.nil 135 3 (encs ([] : List Hand))) :: (.own s25 135 3 (encs r23.1.Hands)) :: (.own s27 209 3 (encs r23.1.Way)) :: (.blk b21 (enc (OverR.mk r11.1 s13 s15)) 124) :: (.own Sl.nil 209 3 (encs ([] : List Word))) :: (.own Sl.nil 135 3 (encs ([] : List Hand))) :: (.own s13 135 3 (encs r11.1.Hands)) :: (.blk b9 (enc (OverR.mk Over.zero Sl.nil Sl.nil)) 124) :: (.own Sl.nil 209 3 (encs ([] : List Word))) :: (.own Sl.nil 135 3 (encs ([] : List Hand))) :: (.blk b1 (enc (OverR.mk a0 s_a0_0 s_a0_1)) 124) :: L) (fun _ y135 => y135 = o134) ?_ ?_
    · rcases (Bool.eq_false_or_eq_true y130).symm with hb136 | hb136
      · replace H := ite_f hb136 H
        refine Lst.skip rfl rfl rfl hb136 rfl (by decide) ?_
        refine Lst.skip rfl rfl rfl hb136 rfl (by decide) ?_
        refine Lst.skip rfl rfl rfl hb136 rfl (by decide) ?_
        refine Lst.run rfl rfl (by decide) (Ev.pickF rfl hb136 rfl) ?_
        refine Lst.nil ?_
        exact At.meet false (FLe.refl _) ⟨rfl, rfl, rfl, rfl, rfl, trivial⟩ rfl (some_inj H)
      replace H := ite_t hb136 H
      refine Lst.runG rfl rfl rfl hb136 rfl (by decide) (Ev.loadA (i := 0) rfl rfl Try.isAgg124 Try.sizeOf124 (ch := enc (OverR.mk r47.1 s49 s51)) (Enc.len _) (Get.here _)) ?_
      refine Lst.runG rfl rfl rfl hb136 rfl (by decide) (Ev.loadA (i := 19) rfl rfl Try.isAgg124 Try.sizeOf124 (ch := enc (OverR.mk Over.zero Sl.nil Sl.nil)) (Enc.len _) (Get.here _)) ?_
      obtain ⟨r137, h138, H⟩ := bind_some H
      refine Lst.call1G rfl rfl rfl hb136 rfl (by decide) (vs := [.agg (enc (OverR.mk r47.1 s49 s51)).toArray, .agg (enc (OverR.mk Over.zero Sl.nil Sl.nil)).toArray]) ⟨rfl, rfl, trivial⟩ Try.call79 (partref_SameOver_sim h138 w0 _ _ _ (List.Sublist.refl _) (Rd.own (i := 3) rfl rfl rfl) (Rd.own (i := 4) rfl rfl rfl) Rd.nil Rd.nil) ?_
      refine Lst.run rfl rfl (by decide) (Ev.pickT rfl hb136 rfl) ?_
      refine Lst.nil ?_
      exact At.meet r137 (FLe.refl _) ⟨rfl, rfl, rfl, rfl, rfl, trivial⟩ rfl (some_inj H)
    rintro F141 y135 hF142 hy
    subst hy
    refine Lst.as (e' := [(11, .int .i64 r3), (20, .int .i64 r47.2), (21, .bool r59.1), (22, .int .i64 r59.2), (118, .bool y135)]) (L' := (.blk b57 (enc (OverR.mk r47.1 s49 s51)) 124) :: (.own Sl.nil 209 3 (encs ([] : List Word))) :: (.own Sl.nil 135 3 (encs ([] : List Hand))) :: (.own s49 135 3 (encs r47.1.Hands)) :: (.own s51 209 3 (encs r47.1.Way)) :: (.blk b45 (enc (OverR.mk r35.1 s37 s39)) 124) :: (.own Sl.nil 209 3 (encs ([] : List Word))) :: (.own Sl.nil 135 3 (encs ([] : List Hand))) :: (.own s37 135 3 (encs r35.1.Hands)) :: (.own s39 209 3 (encs r35.1.Way)) :: (.blk b33 (enc (OverR.mk r23.1 s25 s27)) 124) :: (.own Sl.nil 209 3 (encs ([] : List Word))) :: (.own Sl.nil 135 3 (encs ([] : List Hand))) :: (.own s25 135 3 (encs r23.1.Hands)) :: (.own s27 209 3 (encs r23.1.Way)) :: (.blk b21 (enc (OverR.mk r11.1 s13 s15)) 124) :: (.own Sl.nil 209 3 (encs ([] : List Word))) :: (.own Sl.nil 135 3 (encs ([] : List Hand))) :: (.own s13 135 3 (encs r11.1.Hands)) :: (.blk b9 (enc (OverR.mk Over.zero Sl.nil Sl.nil)) 124) :: (.own Sl.nil 209 3 (encs ([] : List Word))) :: (.own Sl.nil 135 3 (encs ([] : List Hand))) :: (.blk b1 (enc (OverR.mk a0 s_a0_0 s_a0_1)) 124) :: L) ⟨rfl, rfl, rfl, rfl, rfl, trivial⟩ rfl ?_
    replace H := HKo134
    refine Lst.run rfl rfl (by decide) (Ev.move rfl) ?_
    obtain ⟨o143, H, HKo143⟩ := bind_some H
    refine Lst.join (σ := Bool) 4 (fun y144 => [(11, .int .i64 r3), (21, .bool r59.1), (22, .int .i64 r59.2), (123, .bool y144)]) (fun y144 => (.blk b57 (enc (OverR.mk r47.1 s49 s51)) 124) :: (.own Sl.nil 209 3 (encs ([] : List Word))) :: (.own Sl.nil 135 3 (encs ([] : List Hand))) :: (.own s49 135 3 (encs r47.1.Hands)) :: (.own s51 209 3 (encs r47.1.Way)) :: (.blk b45 (enc (OverR.mk r35.1 s37 s39)) 124) :: (.own Sl.nil 209 3 (encs ([] : List Word))) :: (.own Sl.nil 135 3 (encs ([] : List Hand))) :: (.own s37 135 3 (encs r35.1.Hands)) :: (.own s39 209 3 (encs r35.1.Way)) :: (.blk b33 (enc (OverR.mk r23.1 s25 s27)) 124) :: (.own Sl.nil 209 3 (encs ([] : List Word))) :: (.own Sl.nil 135 3 (encs ([] : List Hand))) :: (.own s25 135 3 (encs r23.1.Hands)) :: (.own s27 209 3 (encs r23.1.Way)) :: (.blk b21 (enc (OverR.mk r11.1 s13 s15)) 124) :: (.own Sl.nil 209 3 (encs ([] : List Word))) :: (.own Sl.nil 135 3 (encs ([] : List Hand))) :: (.own s13 135 3 (encs r11.1.Hands)) :: (.blk b9 (enc (OverR.mk Over.zero Sl.nil Sl.nil)) 124) :: (.own Sl.nil 209 3 (encs ([] : List Word))) :: (.own Sl.nil 135 3 (encs ([] : List Hand))) :: (.blk b1 (enc (OverR.mk a0 s_a0_0 s_a0_1)) 124) :: L) (fun _ y144 => y144 = o143) ?_ ?_
    · rcases (Bool.eq_false_or_eq_true y135).symm with hb145 | hb145
      · replace H := ite_f hb145 H
        refine Lst.skip rfl rfl rfl hb145 rfl (by decide) ?_
        refine Lst.skip rfl rfl rfl hb145 rfl (by decide) ?_
        refine Lst.skip rfl rfl rfl hb145 rfl (by decide) ?_
        refine Lst.run rfl rfl (by decide) (Ev.pickF rfl hb145 rfl) ?_
        refine Lst.nil ?_
        exact At.meet false (FLe.refl _) ⟨rfl, rfl, rfl, rfl, trivial⟩ rfl (some_inj H)
      replace H := ite_t hb145 H
      refine Lst.runG rfl rfl rfl hb145 rfl (by decide) (Ev.move rfl) ?_
      refine Lst.runG rfl rfl rfl hb145 rfl (by decide) (Ev.move rfl) ?_
      refine Lst.runG rfl rfl rfl hb145 rfl (by decide) (Ev.eql rfl rfl) ?_
      refine Lst.run rfl rfl (by decide) (Ev.pickT rfl hb145 rfl) ?_
      refine Lst.nil ?_
      exact At.meet (r47.2 == r3) (FLe.refl _) ⟨rfl, rfl, rfl, rfl, trivial⟩ rfl (some_inj H)
    rintro F146 y144 hF147 hy
    subst hy
    refine Lst.as (e' := [(11, .int .i64 r3), (21, .bool r59.1), (22, .int .i64 r59.2), (123, .bool y144)]) (L' := (.blk b57 (enc (OverR.mk r47.1 s49 s51)) 124) :: (.own Sl.nil 209 3 (encs ([] : List Word))) :: (.own Sl.nil 135 3 (encs ([] : List Hand))) :: (.own s49 135 3 (encs r47.1.Hands)) :: (.own s51 209 3 (encs r47.1.Way)) :: (.blk b45 (enc (OverR.mk r35.1 s37 s39)) 124) :: (.own Sl.nil 209 3 (encs ([] : List Word))) :: (.own Sl.nil 135 3 (encs ([] : List Hand))) :: (.own s37 135 3 (encs r35.1.Hands)) :: (.own s39 209 3 (encs r35.1.Way)) :: (.blk b33 (enc (OverR.mk r23.1 s25 s27)) 124) :: (.own Sl.nil 209 3 (encs ([] : List Word))) :: (.own Sl.nil 135 3 (encs ([] : List Hand))) :: (.own s25 135 3 (encs r23.1.Hands)) :: (.own s27 209 3 (encs r23.1.Way)) :: (.blk b21 (enc (OverR.mk r11.1 s13 s15)) 124) :: (.own Sl.nil 209 3 (encs ([] : List Word))) :: (.own Sl.nil 135 3 (encs ([] : List Hand))) :: (.own s13 135 3 (encs r11.1.Hands)) :: (.blk b9 (enc (OverR.mk Over.zero Sl.nil Sl.nil)) 124) :: (.own Sl.nil 209 3 (encs ([] : List Word))) :: (.own Sl.nil 135 3 (encs ([] : List Hand))) :: (.blk b1 (enc (OverR.mk a0 s_a0_0 s_a0_1)) 124) :: L) ⟨rfl, rfl, rfl, rfl, trivial⟩ rfl ?_
    replace H := HKo143
    refine Lst.run rfl rfl (by decide) (Ev.move rfl) ?_
    obtain ⟨o148, H, HKo148⟩ := bind_some H
    refine Lst.join (σ := Bool) 3 (fun y149 => [(11, .int .i64 r3), (22, .int .i64 r59.2), (127, .bool y149)]) (fun y149 => (.blk b57 (enc (OverR.mk r47.1 s49 s51)) 124) :: (.own Sl.nil 209 3 (encs ([] : List Word))) :: (.own Sl.nil 135 3 (encs ([] : List Hand))) :: (.own s49 135 3 (encs r47.1.Hands)) :: (.own s51 209 3 (encs r47.1.Way)) :: (.blk b45 (enc (OverR.mk r35.1 s37 s39)) 124) :: (.own Sl.nil 209 3 (encs ([] : List Word))) :: (.own Sl.nil 135 3 (encs ([] : List Hand))) :: (.own s37 135 3 (encs r35.1.Hands)) :: (.own s39 209 3 (encs r35.1.Way)) :: (.blk b33 (enc (OverR.mk r23.1 s25 s27)) 124) :: (.own Sl.nil 209 3 (encs ([] : List Word))) :: (.own Sl.nil 135 3 (encs ([] : List Hand))) :: (.own s25 135 3 (encs r23.1.Hands)) :: (.own s27 209 3 (encs r23.1.Way)) :: (.blk b21 (enc (OverR.mk r11.1 s13 s15)) 124) :: (.own Sl.nil 209 3 (encs ([] : List Word))) :: (.own Sl.nil 135 3 (encs ([] : List Hand))) :: (.own s13 135 3 (encs r11.1.Hands)) :: (.blk b9 (enc (OverR.mk Over.zero Sl.nil Sl.nil)) 124) :: (.own Sl.nil 209 3 (encs ([] : List Word))) :: (.own Sl.nil 135 3 (encs ([] : List Hand))) :: (.blk b1 (enc (OverR.mk a0 s_a0_0 s_a0_1)) 124) :: L) (fun _ y149 => y149 = o148) ?_ ?_
    · rcases (Bool.eq_false_or_eq_true y144).symm with hb150 | hb150
      · replace H := ite_f hb150 H
        refine Lst.skip rfl rfl rfl hb150 rfl (by decide) ?_
        refine Lst.skip rfl rfl rfl hb150 rfl (by decide) ?_
        refine Lst.run rfl rfl (by decide) (Ev.pickF rfl hb150 rfl) ?_
        refine Lst.nil ?_
        exact At.meet false (FLe.refl _) ⟨rfl, rfl, rfl, trivial⟩ rfl (some_inj H)
      replace H := ite_t hb150 H
      refine Lst.runG rfl rfl rfl hb150 rfl (by decide) (Ev.move rfl) ?_
      refine Lst.runG rfl rfl rfl hb150 rfl (by decide) (Ev.not rfl) ?_
      refine Lst.run rfl rfl (by decide) (Ev.pickT rfl hb150 rfl) ?_
      refine Lst.nil ?_
      exact At.meet (!r59.1) (FLe.refl _) ⟨rfl, rfl, rfl, trivial⟩ rfl (some_inj H)
    rintro F151 y149 hF152 hy
    subst hy
    refine Lst.as (e' := [(11, .int .i64 r3), (22, .int .i64 r59.2), (127, .bool y149)]) (L' := (.blk b57 (enc (OverR.mk r47.1 s49 s51)) 124) :: (.own Sl.nil 209 3 (encs ([] : List Word))) :: (.own Sl.nil 135 3 (encs ([] : List Hand))) :: (.own s49 135 3 (encs r47.1.Hands)) :: (.own s51 209 3 (encs r47.1.Way)) :: (.blk b45 (enc (OverR.mk r35.1 s37 s39)) 124) :: (.own Sl.nil 209 3 (encs ([] : List Word))) :: (.own Sl.nil 135 3 (encs ([] : List Hand))) :: (.own s37 135 3 (encs r35.1.Hands)) :: (.own s39 209 3 (encs r35.1.Way)) :: (.blk b33 (enc (OverR.mk r23.1 s25 s27)) 124) :: (.own Sl.nil 209 3 (encs ([] : List Word))) :: (.own Sl.nil 135 3 (encs ([] : List Hand))) :: (.own s25 135 3 (encs r23.1.Hands)) :: (.own s27 209 3 (encs r23.1.Way)) :: (.blk b21 (enc (OverR.mk r11.1 s13 s15)) 124) :: (.own Sl.nil 209 3 (encs ([] : List Word))) :: (.own Sl.nil 135 3 (encs ([] : List Hand))) :: (.own s13 135 3 (encs r11.1.Hands)) :: (.blk b9 (enc (OverR.mk Over.zero Sl.nil Sl.nil)) 124) :: (.own Sl.nil 209 3 (encs ([] : List Word))) :: (.own Sl.nil 135 3 (encs ([] : List Hand))) :: (.blk b1 (enc (OverR.mk a0 s_a0_0 s_a0_1)) 124) :: L) ⟨rfl, rfl, rfl, trivial⟩ rfl ?_
    replace H := HKo148
    refine Lst.run rfl rfl (by decide) (Ev.move rfl) ?_
    obtain ⟨o153, H, HKo153⟩ := bind_some H
    refine Lst.join (σ := Bool) 4 (fun y154 => [(132, .bool y154)]) (fun y154 => (.blk b57 (enc (OverR.mk r47.1 s49 s51)) 124) :: (.own Sl.nil 209 3 (encs ([] : List Word))) :: (.own Sl.nil 135 3 (encs ([] : List Hand))) :: (.own s49 135 3 (encs r47.1.Hands)) :: (.own s51 209 3 (encs r47.1.Way)) :: (.blk b45 (enc (OverR.mk r35.1 s37 s39)) 124) :: (.own Sl.nil 209 3 (encs ([] : List Word))) :: (.own Sl.nil 135 3 (encs ([] : List Hand))) :: (.own s37 135 3 (encs r35.1.Hands)) :: (.own s39 209 3 (encs r35.1.Way)) :: (.blk b33 (enc (OverR.mk r23.1 s25 s27)) 124) :: (.own Sl.nil 209 3 (encs ([] : List Word))) :: (.own Sl.nil 135 3 (encs ([] : List Hand))) :: (.own s25 135 3 (encs r23.1.Hands)) :: (.own s27 209 3 (encs r23.1.Way)) :: (.blk b21 (enc (OverR.mk r11.1 s13 s15)) 124) :: (.own Sl.nil 209 3 (encs ([] : List Word))) :: (.own Sl.nil 135 3 (encs ([] : List Hand))) :: (.own s13 135 3 (encs r11.1.Hands)) :: (.blk b9 (enc (OverR.mk Over.zero Sl.nil Sl.nil)) 124) :: (.own Sl.nil 209 3 (encs ([] : List Word))) :: (.own Sl.nil 135 3 (encs ([] : List Hand))) :: (.blk b1 (enc (OverR.mk a0 s_a0_0 s_a0_1)) 124) :: L) (fun _ y154 => y154 = o153) ?_ ?_
    · rcases (Bool.eq_false_or_eq_true y149).symm with hb155 | hb155
      · replace H := ite_f hb155 H
        refine Lst.skip rfl rfl rfl hb155 rfl (by decide) ?_
        refine Lst.skip rfl rfl rfl hb155 rfl (by decide) ?_
        refine Lst.skip rfl rfl rfl hb155 rfl (by decide) ?_
        refine Lst.run rfl rfl (by decide) (Ev.pickF rfl hb155 rfl) ?_
        refine Lst.nil ?_
        exact At.meet false (FLe.refl _) ⟨rfl, trivial⟩ rfl (some_inj H)
      replace H := ite_t hb155 H
      refine Lst.runG rfl rfl rfl hb155 rfl (by decide) (Ev.move rfl) ?_
      refine Lst.runG rfl rfl rfl hb155 rfl (by decide) (Ev.move rfl) ?_
      refine Lst.runG rfl rfl rfl hb155 rfl (by decide) (Ev.eql rfl rfl) ?_
      refine Lst.run rfl rfl (by decide) (Ev.pickT rfl hb155 rfl) ?_
      refine Lst.nil ?_
      exact At.meet (r59.2 == r3) (FLe.refl _) ⟨rfl, trivial⟩ rfl (some_inj H)
    rintro F156 y154 hF157 hy
    subst hy
    refine Lst.as (e' := [(132, .bool y154)]) (L' := (.blk b57 (enc (OverR.mk r47.1 s49 s51)) 124) :: (.own Sl.nil 209 3 (encs ([] : List Word))) :: (.own Sl.nil 135 3 (encs ([] : List Hand))) :: (.own s49 135 3 (encs r47.1.Hands)) :: (.own s51 209 3 (encs r47.1.Way)) :: (.blk b45 (enc (OverR.mk r35.1 s37 s39)) 124) :: (.own Sl.nil 209 3 (encs ([] : List Word))) :: (.own Sl.nil 135 3 (encs ([] : List Hand))) :: (.own s37 135 3 (encs r35.1.Hands)) :: (.own s39 209 3 (encs r35.1.Way)) :: (.blk b33 (enc (OverR.mk r23.1 s25 s27)) 124) :: (.own Sl.nil 209 3 (encs ([] : List Word))) :: (.own Sl.nil 135 3 (encs ([] : List Hand))) :: (.own s25 135 3 (encs r23.1.Hands)) :: (.own s27 209 3 (encs r23.1.Way)) :: (.blk b21 (enc (OverR.mk r11.1 s13 s15)) 124) :: (.own Sl.nil 209 3 (encs ([] : List Word))) :: (.own Sl.nil 135 3 (encs ([] : List Hand))) :: (.own s13 135 3 (encs r11.1.Hands)) :: (.blk b9 (enc (OverR.mk Over.zero Sl.nil Sl.nil)) 124) :: (.own Sl.nil 209 3 (encs ([] : List Word))) :: (.own Sl.nil 135 3 (encs ([] : List Hand))) :: (.blk b1 (enc (OverR.mk a0 s_a0_0 s_a0_1)) 124) :: L) ⟨rfl, trivial⟩ rfl ?_
    replace H := HKo153
    refine Lst.run rfl rfl (by decide) (Ev.assign rfl) ?_
    refine Lst.nil ?_
    refine At.then ?_
    obtain rfl := some_inj H
    refine Cd.ret ?_
    refine At.then_ret ?_
    exact At.ret1 rfl (Res.tmp rfl) (FLe.trans (FLe.trans (FLe.trans (FLe.trans (FLe.trans (FLe.trans (FLe.trans (FLe.trans (FLe.trans (FLe.trans (FLe.trans hF18 hF30) hF42) hF54) hF104) hF119) hF128) hF133) hF142) hF147) hF152) hF157) (List.Sublist.cons _ (List.Sublist.cons _ (List.Sublist.cons _ (List.Sublist.cons _ (List.Sublist.cons _ (List.Sublist.cons _ (List.Sublist.cons _ (List.Sublist.cons _ (List.Sublist.cons _ (List.Sublist.cons _ (List.Sublist.cons _ (List.Sublist.cons _ (List.Sublist.cons _ (List.Sublist.cons _ (List.Sublist.cons _ (List.Sublist.cons _ (List.Sublist.cons _ (List.Sublist.cons _ (List.Sublist.cons _ (List.Sublist.cons _ (List.Sublist.cons _ (List.Sublist.cons _ (List.Sublist.cons _ (List.Sublist.refl _)))))))))))))))))))))))) ⟨rfl, rfl⟩
  replace H := ite_f hb110 H
  refine Cd.condF rfl hb110 ?_
  refine Cd.skip ?_
  refine At.then ?_
  refine Cd.seq ?_
  refine Cd.seq ?_
  refine Cd.region ?_
  refine Lst.run rfl rfl (by decide) (Ev.move rfl) ?_
  refine Lst.run rfl rfl (by decide) (Ev.fieldAddr (off' := 0) rfl Try.runUnderlying124 rfl Try.sizeOf122 rfl rfl) ?_
  refine Lst.run rfl rfl (by decide) (Ev.load (i := 22) rfl rfl Try.isAgg122 (v := Sl.v s_a0_0) ((OverR.get_Hands (Get.here _)).off (by rfl))) ?_
  obtain ⟨x158, h159, H⟩ := bind_some H
  have g160 := lat_some h159
  refine Lst.run rfl rfl (by decide) (Ev.indexS (α := Hand) (xs := a0.Hands) rfl rfl Try.runUnderlying122 Try.sizeOf135 rfl (by decide) (hs_a0_0.mono (FLe.trans (FLe.trans (FLe.trans (FLe.trans hF18 hF30) hF42) hF54) hF104) (List.Sublist.cons _ (List.Sublist.cons _ (List.Sublist.cons _ (List.Sublist.cons _ (List.Sublist.cons _ (List.Sublist.cons _ (List.Sublist.cons _ (List.Sublist.cons _ (List.Sublist.cons _ (List.Sublist.cons _ (List.Sublist.cons _ (List.Sublist.cons _ (List.Sublist.cons _ (List.Sublist.cons _ (List.Sublist.cons _ (List.Sublist.cons _ (List.Sublist.cons _ (List.Sublist.cons _ (List.Sublist.cons _ (List.Sublist.cons _ (List.Sublist.cons _ (List.Sublist.cons _ (List.Sublist.cons _ hM)))))))))))))))))))))))) g160.1 g160.2.1) ?_
  refine Lst.run rfl rfl (by decide) (Ev.fieldS (α := Hand) (f' := (0 : Int).toNat * 3 + 0) rfl (hs_a0_0.mono (FLe.trans (FLe.trans (FLe.trans (FLe.trans hF18 hF30) hF42) hF54) hF104) (List.Sublist.cons _ (List.Sublist.cons _ (List.Sublist.cons _ (List.Sublist.cons _ (List.Sublist.cons _ (List.Sublist.cons _ (List.Sublist.cons _ (List.Sublist.cons _ (List.Sublist.cons _ (List.Sublist.cons _ (List.Sublist.cons _ (List.Sublist.cons _ (List.Sublist.cons _ (List.Sublist.cons _ (List.Sublist.cons _ (List.Sublist.cons _ (List.Sublist.cons _ (List.Sublist.cons _ (List.Sublist.cons _ (List.Sublist.cons _ (List.Sublist.cons _ (List.Sublist.cons _ (List.Sublist.cons _ hM)))))))))))))))))))))))) ((Get.elemN (s := 3) (x := x158) rfl g160.2.2 (Get.here _)).off (by omega)) rfl Try.runUnderlying135 rfl Try.sizeOf4 rfl rfl rfl) ?_
  refine Lst.run rfl rfl (by decide) (Ev.loadS (α := Hand) rfl (hs_a0_0.mono (FLe.trans (FLe.trans (FLe.trans (FLe.trans hF18 hF30) hF42) hF54) hF104) (List.Sublist.cons _ (List.Sublist.cons _ (List.Sublist.cons _ (List.Sublist.cons _ (List.Sublist.cons _ (List.Sublist.cons _ (List.Sublist.cons _ (List.Sublist.cons _ (List.Sublist.cons _ (List.Sublist.cons _ (List.Sublist.cons _ (List.Sublist.cons _ (List.Sublist.cons _ (List.Sublist.cons _ (List.Sublist.cons _ (List.Sublist.cons _ (List.Sublist.cons _ (List.Sublist.cons _ (List.Sublist.cons _ (List.Sublist.cons _ (List.Sublist.cons _ (List.Sublist.cons _ (List.Sublist.cons _ hM)))))))))))))))))))))))) Try.isAgg4 (v := .bool x158.Busy) ((Get.elemN (s := 3) (x := x158) rfl g160.2.2 (Hand.get_Busy (Get.here _))).off (by omega))) ?_
  refine Lst.run rfl rfl (by decide) (Ev.not rfl) ?_
  refine Lst.run rfl rfl (by decide) (Ev.move rfl) ?_
  obtain ⟨o161, H, HKo161⟩ := bind_some H
  refine Lst.join (σ := Bool) 7 (fun y162 => [(2, .int .i64 a2), (3, .int .i64 a3), (4, .int .i64 a4), (5, .pointer (some ⟨b1, 0, none⟩)), (12, .pointer (some ⟨b9, 0, none⟩)), (15, .pointer (some ⟨b33, 0, none⟩)), (16, .int .i64 r23.2), (17, .pointer (some ⟨b45, 0, none⟩)), (18, .int .i64 r35.2), (19, .pointer (some ⟨b57, 0, none⟩)), (20, .int .i64 r47.2), (22, .int .i64 r59.2), (133, .bool r59.1), (147, .bool y162)]) (fun y162 => (.blk b57 (enc (OverR.mk r47.1 s49 s51)) 124) :: (.own Sl.nil 209 3 (encs ([] : List Word))) :: (.own Sl.nil 135 3 (encs ([] : List Hand))) :: (.own s49 135 3 (encs r47.1.Hands)) :: (.own s51 209 3 (encs r47.1.Way)) :: (.blk b45 (enc (OverR.mk r35.1 s37 s39)) 124) :: (.own Sl.nil 209 3 (encs ([] : List Word))) :: (.own Sl.nil 135 3 (encs ([] : List Hand))) :: (.own s37 135 3 (encs r35.1.Hands)) :: (.own s39 209 3 (encs r35.1.Way)) :: (.blk b33 (enc (OverR.mk r23.1 s25 s27)) 124) :: (.own Sl.nil 209 3 (encs ([] : List Word))) :: (.own Sl.nil 135 3 (encs ([] : List Hand))) :: (.own s25 135 3 (encs r23.1.Hands)) :: (.own s27 209 3 (encs r23.1.Way)) :: (.blk b21 (enc (OverR.mk r11.1 s13 s15)) 124) :: (.own Sl.nil 209 3 (encs ([] : List Word))) :: (.own Sl.nil 135 3 (encs ([] : List Hand))) :: (.own s13 135 3 (encs r11.1.Hands)) :: (.blk b9 (enc (OverR.mk Over.zero Sl.nil Sl.nil)) 124) :: (.own Sl.nil 209 3 (encs ([] : List Word))) :: (.own Sl.nil 135 3 (encs ([] : List Hand))) :: (.blk b1 (enc (OverR.mk a0 s_a0_0 s_a0_1)) 124) :: L) (fun _ y162 => y162 = o161) ?_ ?_
  · rcases (Bool.eq_false_or_eq_true (!x158.Busy)).symm with hb163 | hb163
    · replace H := ite_f hb163 H
      refine Lst.skip rfl rfl rfl hb163 rfl (by decide) ?_
      refine Lst.skip rfl rfl rfl hb163 rfl (by decide) ?_
      refine Lst.skip rfl rfl rfl hb163 rfl (by decide) ?_
      refine Lst.skip rfl rfl rfl hb163 rfl (by decide) ?_
      refine Lst.skip rfl rfl rfl hb163 rfl (by decide) ?_
      refine Lst.skip rfl rfl rfl hb163 rfl (by decide) ?_
      refine Lst.run rfl rfl (by decide) (Ev.pickF rfl hb163 rfl) ?_
      refine Lst.nil ?_
      exact At.meet false (FLe.refl _) ⟨rfl, rfl, rfl, rfl, rfl, rfl, rfl, rfl, rfl, rfl, rfl, rfl, rfl, rfl, trivial⟩ rfl (some_inj H)
    replace H := ite_t hb163 H
    refine Lst.runG rfl rfl rfl hb163 rfl (by decide) (Ev.fieldAddr (off' := 0) rfl Try.runUnderlying124 rfl Try.sizeOf122 rfl rfl) ?_
    refine Lst.runG rfl rfl rfl hb163 rfl (by decide) (Ev.load (i := 22) rfl rfl Try.isAgg122 (v := Sl.v s_a0_0) ((OverR.get_Hands (Get.here _)).off (by rfl))) ?_
    obtain ⟨x164, h165, H⟩ := bind_some H
    have g166 := lat_some h165
    refine Lst.runG rfl rfl rfl hb163 rfl (by decide) (Ev.indexS (α := Hand) (xs := a0.Hands) rfl rfl Try.runUnderlying122 Try.sizeOf135 rfl (by decide) (hs_a0_0.mono (FLe.trans (FLe.trans (FLe.trans (FLe.trans hF18 hF30) hF42) hF54) hF104) (List.Sublist.cons _ (List.Sublist.cons _ (List.Sublist.cons _ (List.Sublist.cons _ (List.Sublist.cons _ (List.Sublist.cons _ (List.Sublist.cons _ (List.Sublist.cons _ (List.Sublist.cons _ (List.Sublist.cons _ (List.Sublist.cons _ (List.Sublist.cons _ (List.Sublist.cons _ (List.Sublist.cons _ (List.Sublist.cons _ (List.Sublist.cons _ (List.Sublist.cons _ (List.Sublist.cons _ (List.Sublist.cons _ (List.Sublist.cons _ (List.Sublist.cons _ (List.Sublist.cons _ (List.Sublist.cons _ hM)))))))))))))))))))))))) g166.1 g166.2.1) ?_
    refine Lst.runG rfl rfl rfl hb163 rfl (by decide) (Ev.fieldS (α := Hand) (f' := (0 : Int).toNat * 3 + 2) rfl (hs_a0_0.mono (FLe.trans (FLe.trans (FLe.trans (FLe.trans hF18 hF30) hF42) hF54) hF104) (List.Sublist.cons _ (List.Sublist.cons _ (List.Sublist.cons _ (List.Sublist.cons _ (List.Sublist.cons _ (List.Sublist.cons _ (List.Sublist.cons _ (List.Sublist.cons _ (List.Sublist.cons _ (List.Sublist.cons _ (List.Sublist.cons _ (List.Sublist.cons _ (List.Sublist.cons _ (List.Sublist.cons _ (List.Sublist.cons _ (List.Sublist.cons _ (List.Sublist.cons _ (List.Sublist.cons _ (List.Sublist.cons _ (List.Sublist.cons _ (List.Sublist.cons _ (List.Sublist.cons _ (List.Sublist.cons _ hM)))))))))))))))))))))))) ((Get.elemN (s := 3) (x := x164) rfl g166.2.2 (Get.here _)).off (by omega)) rfl Try.runUnderlying135 rfl Try.sizeOf3 rfl rfl rfl) ?_
    refine Lst.runG rfl rfl rfl hb163 rfl (by decide) (Ev.loadS (α := Hand) rfl (hs_a0_0.mono (FLe.trans (FLe.trans (FLe.trans (FLe.trans hF18 hF30) hF42) hF54) hF104) (List.Sublist.cons _ (List.Sublist.cons _ (List.Sublist.cons _ (List.Sublist.cons _ (List.Sublist.cons _ (List.Sublist.cons _ (List.Sublist.cons _ (List.Sublist.cons _ (List.Sublist.cons _ (List.Sublist.cons _ (List.Sublist.cons _ (List.Sublist.cons _ (List.Sublist.cons _ (List.Sublist.cons _ (List.Sublist.cons _ (List.Sublist.cons _ (List.Sublist.cons _ (List.Sublist.cons _ (List.Sublist.cons _ (List.Sublist.cons _ (List.Sublist.cons _ (List.Sublist.cons _ (List.Sublist.cons _ hM)))))))))))))))))))))))) Try.isAgg3 (v := .int .i64 x164.Owed) ((Get.elemN (s := 3) (x := x164) rfl g166.2.2 (Hand.get_Owed (Get.here _))).off (by omega))) ?_
    refine Lst.runG rfl rfl rfl hb163 rfl (by decide) (Ev.eql rfl rfl) ?_
    refine Lst.run rfl rfl (by decide) (Ev.pickT rfl hb163 rfl) ?_
    refine Lst.nil ?_
    exact At.meet (x164.Owed == (0 : Int)) (FLe.refl _) ⟨rfl, rfl, rfl, rfl, rfl, rfl, rfl, rfl, rfl, rfl, rfl, rfl, rfl, rfl, trivial⟩ rfl (some_inj H)
  rintro F167 y162 hF168 hy
  subst hy
  refine Lst.as (e' := [(2, .int .i64 a2), (3, .int .i64 a3), (4, .int .i64 a4), (5, .pointer (some ⟨b1, 0, none⟩)), (12, .pointer (some ⟨b9, 0, none⟩)), (15, .pointer (some ⟨b33, 0, none⟩)), (16, .int .i64 r23.2), (17, .pointer (some ⟨b45, 0, none⟩)), (18, .int .i64 r35.2), (19, .pointer (some ⟨b57, 0, none⟩)), (20, .int .i64 r47.2), (22, .int .i64 r59.2), (133, .bool r59.1), (147, .bool y162)]) (L' := (.blk b57 (enc (OverR.mk r47.1 s49 s51)) 124) :: (.own Sl.nil 209 3 (encs ([] : List Word))) :: (.own Sl.nil 135 3 (encs ([] : List Hand))) :: (.own s49 135 3 (encs r47.1.Hands)) :: (.own s51 209 3 (encs r47.1.Way)) :: (.blk b45 (enc (OverR.mk r35.1 s37 s39)) 124) :: (.own Sl.nil 209 3 (encs ([] : List Word))) :: (.own Sl.nil 135 3 (encs ([] : List Hand))) :: (.own s37 135 3 (encs r35.1.Hands)) :: (.own s39 209 3 (encs r35.1.Way)) :: (.blk b33 (enc (OverR.mk r23.1 s25 s27)) 124) :: (.own Sl.nil 209 3 (encs ([] : List Word))) :: (.own Sl.nil 135 3 (encs ([] : List Hand))) :: (.own s25 135 3 (encs r23.1.Hands)) :: (.own s27 209 3 (encs r23.1.Way)) :: (.blk b21 (enc (OverR.mk r11.1 s13 s15)) 124) :: (.own Sl.nil 209 3 (encs ([] : List Word))) :: (.own Sl.nil 135 3 (encs ([] : List Hand))) :: (.own s13 135 3 (encs r11.1.Hands)) :: (.blk b9 (enc (OverR.mk Over.zero Sl.nil Sl.nil)) 124) :: (.own Sl.nil 209 3 (encs ([] : List Word))) :: (.own Sl.nil 135 3 (encs ([] : List Hand))) :: (.blk b1 (enc (OverR.mk a0 s_a0_0 s_a0_1)) 124) :: L) ⟨rfl, rfl, rfl, rfl, rfl, rfl, rfl, rfl, rfl, rfl, rfl, rfl, rfl, rfl, trivial⟩ rfl ?_
  replace H := HKo161
  refine Lst.run rfl rfl (by decide) (Ev.neqB rfl rfl Try.runUnderlying4) ?_
  refine Lst.run rfl rfl (by decide) (Ev.move rfl) ?_
  obtain ⟨o169, H, HKo169⟩ := bind_some H
  refine Lst.join (σ := Bool) 3 (fun y170 => [(2, .int .i64 a2), (3, .int .i64 a3), (4, .int .i64 a4), (5, .pointer (some ⟨b1, 0, none⟩)), (12, .pointer (some ⟨b9, 0, none⟩)), (15, .pointer (some ⟨b33, 0, none⟩)), (16, .int .i64 r23.2), (17, .pointer (some ⟨b45, 0, none⟩)), (18, .int .i64 r35.2), (19, .pointer (some ⟨b57, 0, none⟩)), (20, .int .i64 r47.2), (152, .bool y170)]) (fun y170 => (.blk b57 (enc (OverR.mk r47.1 s49 s51)) 124) :: (.own Sl.nil 209 3 (encs ([] : List Word))) :: (.own Sl.nil 135 3 (encs ([] : List Hand))) :: (.own s49 135 3 (encs r47.1.Hands)) :: (.own s51 209 3 (encs r47.1.Way)) :: (.blk b45 (enc (OverR.mk r35.1 s37 s39)) 124) :: (.own Sl.nil 209 3 (encs ([] : List Word))) :: (.own Sl.nil 135 3 (encs ([] : List Hand))) :: (.own s37 135 3 (encs r35.1.Hands)) :: (.own s39 209 3 (encs r35.1.Way)) :: (.blk b33 (enc (OverR.mk r23.1 s25 s27)) 124) :: (.own Sl.nil 209 3 (encs ([] : List Word))) :: (.own Sl.nil 135 3 (encs ([] : List Hand))) :: (.own s25 135 3 (encs r23.1.Hands)) :: (.own s27 209 3 (encs r23.1.Way)) :: (.blk b21 (enc (OverR.mk r11.1 s13 s15)) 124) :: (.own Sl.nil 209 3 (encs ([] : List Word))) :: (.own Sl.nil 135 3 (encs ([] : List Hand))) :: (.own s13 135 3 (encs r11.1.Hands)) :: (.blk b9 (enc (OverR.mk Over.zero Sl.nil Sl.nil)) 124) :: (.own Sl.nil 209 3 (encs ([] : List Word))) :: (.own Sl.nil 135 3 (encs ([] : List Hand))) :: (.blk b1 (enc (OverR.mk a0 s_a0_0 s_a0_1)) 124) :: L) (fun _ y170 => y170 = o169) ?_ ?_
  · rcases Bool.eq_false_or_eq_true (r59.1 != y162) with hb171 | hb171
    · replace H := ite_t hb171 H
      refine Lst.skip rfl rfl rfl hb171 rfl (by decide) ?_
      refine Lst.skip rfl rfl rfl hb171 rfl (by decide) ?_
      refine Lst.run rfl rfl (by decide) (Ev.pickT rfl hb171 rfl) ?_
      refine Lst.nil ?_
      exact At.meet true (FLe.refl _) ⟨rfl, rfl, rfl, rfl, rfl, rfl, rfl, rfl, rfl, rfl, rfl, rfl, trivial⟩ rfl (some_inj H)
    replace H := ite_f hb171 H
    refine Lst.runG rfl rfl rfl hb171 rfl (by decide) (Ev.move rfl) ?_
    refine Lst.runG rfl rfl rfl hb171 rfl (by decide) (Ev.neq rfl rfl) ?_
    refine Lst.run rfl rfl (by decide) (Ev.pickF rfl hb171 rfl) ?_
    refine Lst.nil ?_
    exact At.meet (r59.2 != (0 : Int)) (FLe.refl _) ⟨rfl, rfl, rfl, rfl, rfl, rfl, rfl, rfl, rfl, rfl, rfl, rfl, trivial⟩ rfl (some_inj H)
  rintro F172 y170 hF173 hy
  subst hy
  refine Lst.as (e' := [(2, .int .i64 a2), (3, .int .i64 a3), (4, .int .i64 a4), (5, .pointer (some ⟨b1, 0, none⟩)), (12, .pointer (some ⟨b9, 0, none⟩)), (15, .pointer (some ⟨b33, 0, none⟩)), (16, .int .i64 r23.2), (17, .pointer (some ⟨b45, 0, none⟩)), (18, .int .i64 r35.2), (19, .pointer (some ⟨b57, 0, none⟩)), (20, .int .i64 r47.2), (152, .bool y170)]) (L' := (.blk b57 (enc (OverR.mk r47.1 s49 s51)) 124) :: (.own Sl.nil 209 3 (encs ([] : List Word))) :: (.own Sl.nil 135 3 (encs ([] : List Hand))) :: (.own s49 135 3 (encs r47.1.Hands)) :: (.own s51 209 3 (encs r47.1.Way)) :: (.blk b45 (enc (OverR.mk r35.1 s37 s39)) 124) :: (.own Sl.nil 209 3 (encs ([] : List Word))) :: (.own Sl.nil 135 3 (encs ([] : List Hand))) :: (.own s37 135 3 (encs r35.1.Hands)) :: (.own s39 209 3 (encs r35.1.Way)) :: (.blk b33 (enc (OverR.mk r23.1 s25 s27)) 124) :: (.own Sl.nil 209 3 (encs ([] : List Word))) :: (.own Sl.nil 135 3 (encs ([] : List Hand))) :: (.own s25 135 3 (encs r23.1.Hands)) :: (.own s27 209 3 (encs r23.1.Way)) :: (.blk b21 (enc (OverR.mk r11.1 s13 s15)) 124) :: (.own Sl.nil 209 3 (encs ([] : List Word))) :: (.own Sl.nil 135 3 (encs ([] : List Hand))) :: (.own s13 135 3 (encs r11.1.Hands)) :: (.blk b9 (enc (OverR.mk Over.zero Sl.nil Sl.nil)) 124) :: (.own Sl.nil 209 3 (encs ([] : List Word))) :: (.own Sl.nil 135 3 (encs ([] : List Hand))) :: (.blk b1 (enc (OverR.mk a0 s_a0_0 s_a0_1)) 124) :: L) ⟨rfl, rfl, rfl, rfl, rfl, rfl, rfl, rfl, rfl, rfl, rfl, rfl, trivial⟩ rfl ?_
  replace H := HKo169
  refine Lst.nil ?_
  refine At.then ?_
  rcases Bool.eq_false_or_eq_true y170 with hb174 | hb174
  · replace H := ite_t hb174 H
    refine Cd.condT rfl hb174 ?_
    refine Cd.seq ?_
    refine Cd.region ?_
    refine Lst.run rfl rfl (by decide) (Ev.assign rfl) ?_
    refine Lst.nil ?_
    refine At.then ?_
    obtain rfl := some_inj H
    refine Cd.ret ?_
    refine At.then_ret ?_
    exact At.ret1 rfl (Res.tmp rfl) (FLe.trans (FLe.trans (FLe.trans (FLe.trans (FLe.trans (FLe.trans hF18 hF30) hF42) hF54) hF104) hF168) hF173) (List.Sublist.cons _ (List.Sublist.cons _ (List.Sublist.cons _ (List.Sublist.cons _ (List.Sublist.cons _ (List.Sublist.cons _ (List.Sublist.cons _ (List.Sublist.cons _ (List.Sublist.cons _ (List.Sublist.cons _ (List.Sublist.cons _ (List.Sublist.cons _ (List.Sublist.cons _ (List.Sublist.cons _ (List.Sublist.cons _ (List.Sublist.cons _ (List.Sublist.cons _ (List.Sublist.cons _ (List.Sublist.cons _ (List.Sublist.cons _ (List.Sublist.cons _ (List.Sublist.cons _ (List.Sublist.cons _ (List.Sublist.refl _)))))))))))))))))))))))) ⟨rfl, rfl⟩
  replace H := ite_f hb174 H
  refine Cd.condF rfl hb174 ?_
  refine Cd.skip ?_
  refine At.then ?_
  obtain ⟨o175, H, HKo175⟩ := andThen_some H
  refine Cd.join (σ := Unit) (fun (_ : Unit) => [(2, .int .i64 a2), (3, .int .i64 a3), (5, .pointer (some ⟨b1, 0, none⟩)), (12, .pointer (some ⟨b9, 0, none⟩)), (15, .pointer (some ⟨b33, 0, none⟩)), (16, .int .i64 r23.2), (19, .pointer (some ⟨b57, 0, none⟩)), (20, .int .i64 r47.2)]) (fun (_ : Unit) => (.blk b57 (enc (OverR.mk r47.1 s49 s51)) 124) :: (.own Sl.nil 209 3 (encs ([] : List Word))) :: (.own Sl.nil 135 3 (encs ([] : List Hand))) :: (.own s49 135 3 (encs r47.1.Hands)) :: (.own s51 209 3 (encs r47.1.Way)) :: (.blk b45 (enc (OverR.mk r35.1 s37 s39)) 124) :: (.own Sl.nil 209 3 (encs ([] : List Word))) :: (.own Sl.nil 135 3 (encs ([] : List Hand))) :: (.own s37 135 3 (encs r35.1.Hands)) :: (.own s39 209 3 (encs r35.1.Way)) :: (.blk b33 (enc (OverR.mk r23.1 s25 s27)) 124) :: (.own Sl.nil 209 3 (encs ([] : List Word))) :: (.own Sl.nil 135 3 (encs ([] : List Hand))) :: (.own s25 135 3 (encs r23.1.Hands)) :: (.own s27 209 3 (encs r23.1.Way)) :: (.blk b21 (enc (OverR.mk r11.1 s13 s15)) 124) :: (.own Sl.nil 209 3 (encs ([] : List Word))) :: (.own Sl.nil 135 3 (encs ([] : List Hand))) :: (.own s13 135 3 (encs r11.1.Hands)) :: (.blk b9 (enc (OverR.mk Over.zero Sl.nil Sl.nil)) 124) :: (.own Sl.nil 209 3 (encs ([] : List Word))) :: (.own Sl.nil 135 3 (encs ([] : List Hand))) :: (.blk b1 (enc (OverR.mk a0 s_a0_0 s_a0_1)) 124) :: L) (fun _ (_ : Unit) => .inl () = o175) ?_ ?_
  · refine Cd.seq ?_
    refine Cd.region ?_
    refine Lst.run rfl rfl (by decide) (Ev.move rfl) ?_
    refine Lst.run rfl rfl (by decide) (Ev.lss rfl rfl) ?_
    refine Lst.run rfl rfl (by decide) (Ev.move rfl) ?_
    obtain ⟨o176, H, HKo176⟩ := bind_some H
    refine Lst.join (σ := Bool) 6 (fun y177 => [(2, .int .i64 a2), (3, .int .i64 a3), (4, .int .i64 a4), (5, .pointer (some ⟨b1, 0, none⟩)), (12, .pointer (some ⟨b9, 0, none⟩)), (15, .pointer (some ⟨b33, 0, none⟩)), (16, .int .i64 r23.2), (17, .pointer (some ⟨b45, 0, none⟩)), (18, .int .i64 r35.2), (19, .pointer (some ⟨b57, 0, none⟩)), (20, .int .i64 r47.2), (161, .bool y177)]) (fun y177 => (.blk b57 (enc (OverR.mk r47.1 s49 s51)) 124) :: (.own Sl.nil 209 3 (encs ([] : List Word))) :: (.own Sl.nil 135 3 (encs ([] : List Hand))) :: (.own s49 135 3 (encs r47.1.Hands)) :: (.own s51 209 3 (encs r47.1.Way)) :: (.blk b45 (enc (OverR.mk r35.1 s37 s39)) 124) :: (.own Sl.nil 209 3 (encs ([] : List Word))) :: (.own Sl.nil 135 3 (encs ([] : List Hand))) :: (.own s37 135 3 (encs r35.1.Hands)) :: (.own s39 209 3 (encs r35.1.Way)) :: (.blk b33 (enc (OverR.mk r23.1 s25 s27)) 124) :: (.own Sl.nil 209 3 (encs ([] : List Word))) :: (.own Sl.nil 135 3 (encs ([] : List Hand))) :: (.own s25 135 3 (encs r23.1.Hands)) :: (.own s27 209 3 (encs r23.1.Way)) :: (.blk b21 (enc (OverR.mk r11.1 s13 s15)) 124) :: (.own Sl.nil 209 3 (encs ([] : List Word))) :: (.own Sl.nil 135 3 (encs ([] : List Hand))) :: (.own s13 135 3 (encs r11.1.Hands)) :: (.blk b9 (enc (OverR.mk Over.zero Sl.nil Sl.nil)) 124) :: (.own Sl.nil 209 3 (encs ([] : List Word))) :: (.own Sl.nil 135 3 (encs ([] : List Hand))) :: (.blk b1 (enc (OverR.mk a0 s_a0_0 s_a0_1)) 124) :: L) (fun _ y177 => y177 = o176) ?_ ?_
    · rcases Bool.eq_false_or_eq_true (decide (a4 < (0 : Int))) with hb178 | hb178
      · replace H := ite_t hb178 H
        refine Lst.skip rfl rfl rfl hb178 rfl (by decide) ?_
        refine Lst.skip rfl rfl rfl hb178 rfl (by decide) ?_
        refine Lst.skip rfl rfl rfl hb178 rfl (by decide) ?_
        refine Lst.skip rfl rfl rfl hb178 rfl (by decide) ?_
        refine Lst.skip rfl rfl rfl hb178 rfl (by decide) ?_
        refine Lst.run rfl rfl (by decide) (Ev.pickT rfl hb178 rfl) ?_
        refine Lst.nil ?_
        exact At.meet true (FLe.refl _) ⟨rfl, rfl, rfl, rfl, rfl, rfl, rfl, rfl, rfl, rfl, rfl, rfl, trivial⟩ rfl (some_inj H)
      replace H := ite_f hb178 H
      refine Lst.runG rfl rfl rfl hb178 rfl (by decide) (Ev.move rfl) ?_
      refine Lst.runG rfl rfl rfl hb178 rfl (by decide) (Ev.fieldAddr (off' := 1) rfl Try.runUnderlying124 rfl Try.sizeOf112 rfl rfl) ?_
      refine Lst.runG rfl rfl rfl hb178 rfl (by decide) (Ev.load (i := 22) rfl rfl Try.isAgg112 (v := Sl.v s_a0_1) ((OverR.get_Way (Get.here _)).off (by rfl))) ?_
      refine Lst.runG rfl rfl rfl hb178 rfl (by decide) (Ev.lenS (α := Word) (xs := a0.Way) (by decide) rfl rfl Try.runUnderlying112 (hs_a0_1.mono (FLe.trans (FLe.trans (FLe.trans (FLe.trans (FLe.trans (FLe.trans hF18 hF30) hF42) hF54) hF104) hF168) hF173) (List.Sublist.cons _ (List.Sublist.cons _ (List.Sublist.cons _ (List.Sublist.cons _ (List.Sublist.cons _ (List.Sublist.cons _ (List.Sublist.cons _ (List.Sublist.cons _ (List.Sublist.cons _ (List.Sublist.cons _ (List.Sublist.cons _ (List.Sublist.cons _ (List.Sublist.cons _ (List.Sublist.cons _ (List.Sublist.cons _ (List.Sublist.cons _ (List.Sublist.cons _ (List.Sublist.cons _ (List.Sublist.cons _ (List.Sublist.cons _ (List.Sublist.cons _ (List.Sublist.cons _ (List.Sublist.cons _ hM))))))))))))))))))))))))) ?_
      refine Lst.runG rfl rfl rfl hb178 rfl (by decide) (Ev.geq rfl rfl) ?_
      refine Lst.run rfl rfl (by decide) (Ev.pickF rfl hb178 rfl) ?_
      refine Lst.nil ?_
      exact At.meet (decide (a4 ≥ (a0.Way.length : Int))) (FLe.refl _) ⟨rfl, rfl, rfl, rfl, rfl, rfl, rfl, rfl, rfl, rfl, rfl, rfl, trivial⟩ rfl (some_inj H)
    rintro F179 y177 hF180 hy
    subst hy
    refine Lst.as (e' := [(2, .int .i64 a2), (3, .int .i64 a3), (4, .int .i64 a4), (5, .pointer (some ⟨b1, 0, none⟩)), (12, .pointer (some ⟨b9, 0, none⟩)), (15, .pointer (some ⟨b33, 0, none⟩)), (16, .int .i64 r23.2), (17, .pointer (some ⟨b45, 0, none⟩)), (18, .int .i64 r35.2), (19, .pointer (some ⟨b57, 0, none⟩)), (20, .int .i64 r47.2), (161, .bool y177)]) (L' := (.blk b57 (enc (OverR.mk r47.1 s49 s51)) 124) :: (.own Sl.nil 209 3 (encs ([] : List Word))) :: (.own Sl.nil 135 3 (encs ([] : List Hand))) :: (.own s49 135 3 (encs r47.1.Hands)) :: (.own s51 209 3 (encs r47.1.Way)) :: (.blk b45 (enc (OverR.mk r35.1 s37 s39)) 124) :: (.own Sl.nil 209 3 (encs ([] : List Word))) :: (.own Sl.nil 135 3 (encs ([] : List Hand))) :: (.own s37 135 3 (encs r35.1.Hands)) :: (.own s39 209 3 (encs r35.1.Way)) :: (.blk b33 (enc (OverR.mk r23.1 s25 s27)) 124) :: (.own Sl.nil 209 3 (encs ([] : List Word))) :: (.own Sl.nil 135 3 (encs ([] : List Hand))) :: (.own s25 135 3 (encs r23.1.Hands)) :: (.own s27 209 3 (encs r23.1.Way)) :: (.blk b21 (enc (OverR.mk r11.1 s13 s15)) 124) :: (.own Sl.nil 209 3 (encs ([] : List Word))) :: (.own Sl.nil 135 3 (encs ([] : List Hand))) :: (.own s13 135 3 (encs r11.1.Hands)) :: (.blk b9 (enc (OverR.mk Over.zero Sl.nil Sl.nil)) 124) :: (.own Sl.nil 209 3 (encs ([] : List Word))) :: (.own Sl.nil 135 3 (encs ([] : List Hand))) :: (.blk b1 (enc (OverR.mk a0 s_a0_0 s_a0_1)) 124) :: L) ⟨rfl, rfl, rfl, rfl, rfl, rfl, rfl, rfl, rfl, rfl, rfl, rfl, trivial⟩ rfl ?_
    replace H := HKo176
    refine Lst.nil ?_
    refine At.then ?_
    rcases Bool.eq_false_or_eq_true y177 with hb181 | hb181
    · replace H := ite_t hb181 H
      refine Cd.condT rfl hb181 ?_
      refine Cd.seq ?_
      refine Cd.region ?_
      refine Lst.run rfl rfl (by decide) (Ev.loadA (i := 5) rfl rfl Try.isAgg124 Try.sizeOf124 (ch := enc (OverR.mk r35.1 s37 s39)) (Enc.len _) (Get.here _)) ?_
      refine Lst.run rfl rfl (by decide) (Ev.loadA (i := 19) rfl rfl Try.isAgg124 Try.sizeOf124 (ch := enc (OverR.mk Over.zero Sl.nil Sl.nil)) (Enc.len _) (Get.here _)) ?_
      obtain ⟨r182, h183, H⟩ := bind_some H
      refine Lst.call1 rfl rfl (by decide) (vs := [.agg (enc (OverR.mk r35.1 s37 s39)).toArray, .agg (enc (OverR.mk Over.zero Sl.nil Sl.nil)).toArray]) ⟨rfl, rfl, trivial⟩ Try.call79 (partref_SameOver_sim h183 w0 _ _ _ (List.Sublist.refl _) (Rd.own (i := 8) rfl rfl rfl) (Rd.own (i := 9) rfl rfl rfl) Rd.nil Rd.nil) ?_
      refine Lst.run rfl rfl (by decide) (Ev.not rfl) ?_
      refine Lst.run rfl rfl (by decide) (Ev.move rfl) ?_
      obtain ⟨o186, H, HKo186⟩ := bind_some H
      refine Lst.join (σ := Bool) 3 (fun y187 => [(2, .int .i64 a2), (3, .int .i64 a3), (5, .pointer (some ⟨b1, 0, none⟩)), (12, .pointer (some ⟨b9, 0, none⟩)), (15, .pointer (some ⟨b33, 0, none⟩)), (16, .int .i64 r23.2), (19, .pointer (some ⟨b57, 0, none⟩)), (20, .int .i64 r47.2), (169, .bool y187)]) (fun y187 => (.blk b57 (enc (OverR.mk r47.1 s49 s51)) 124) :: (.own Sl.nil 209 3 (encs ([] : List Word))) :: (.own Sl.nil 135 3 (encs ([] : List Hand))) :: (.own s49 135 3 (encs r47.1.Hands)) :: (.own s51 209 3 (encs r47.1.Way)) :: (.blk b45 (enc (OverR.mk r35.1 s37 s39)) 124) :: (.own Sl.nil 209 3 (encs ([] : List Word))) :: (.own Sl.nil 135 3 (encs ([] : List Hand))) :: (.own s37 135 3 (encs r35.1.Hands)) :: (.own s39 209 3 (encs r35.1.Way)) :: (.blk b33 (enc (OverR.mk r23.1 s25 s27)) 124) :: (.own Sl.nil 209 3 (encs ([] : List Word))) :: (.own Sl.nil 135 3 (encs ([] : List Hand))) :: (.own s25 135 3 (encs r23.1.Hands)) :: (.own s27 209 3 (encs r23.1.Way)) :: (.blk b21 (enc (OverR.mk r11.1 s13 s15)) 124) :: (.own Sl.nil 209 3 (encs ([] : List Word))) :: (.own Sl.nil 135 3 (encs ([] : List Hand))) :: (.own s13 135 3 (encs r11.1.Hands)) :: (.blk b9 (enc (OverR.mk Over.zero Sl.nil Sl.nil)) 124) :: (.own Sl.nil 209 3 (encs ([] : List Word))) :: (.own Sl.nil 135 3 (encs ([] : List Hand))) :: (.blk b1 (enc (OverR.mk a0 s_a0_0 s_a0_1)) 124) :: L) (fun _ y187 => y187 = o186) ?_ ?_
      · rcases Bool.eq_false_or_eq_true (!r182) with hb188 | hb188
        · replace H := ite_t hb188 H
          refine Lst.skip rfl rfl rfl hb188 rfl (by decide) ?_
          refine Lst.skip rfl rfl rfl hb188 rfl (by decide) ?_
          refine Lst.run rfl rfl (by decide) (Ev.pickT rfl hb188 rfl) ?_
          refine Lst.nil ?_
          exact At.meet true (FLe.refl _) ⟨rfl, rfl, rfl, rfl, rfl, rfl, rfl, rfl, rfl, trivial⟩ rfl (some_inj H)
        replace H := ite_f hb188 H
        refine Lst.runG rfl rfl rfl hb188 rfl (by decide) (Ev.move rfl) ?_
        refine Lst.runG rfl rfl rfl hb188 rfl (by decide) (Ev.neq rfl rfl) ?_
        refine Lst.run rfl rfl (by decide) (Ev.pickF rfl hb188 rfl) ?_
        refine Lst.nil ?_
        exact At.meet (r35.2 != (6 : Int)) (FLe.refl _) ⟨rfl, rfl, rfl, rfl, rfl, rfl, rfl, rfl, rfl, trivial⟩ rfl (some_inj H)
      rintro F189 y187 hF190 hy
      subst hy
      refine Lst.as (e' := [(2, .int .i64 a2), (3, .int .i64 a3), (5, .pointer (some ⟨b1, 0, none⟩)), (12, .pointer (some ⟨b9, 0, none⟩)), (15, .pointer (some ⟨b33, 0, none⟩)), (16, .int .i64 r23.2), (19, .pointer (some ⟨b57, 0, none⟩)), (20, .int .i64 r47.2), (169, .bool y187)]) (L' := (.blk b57 (enc (OverR.mk r47.1 s49 s51)) 124) :: (.own Sl.nil 209 3 (encs ([] : List Word))) :: (.own Sl.nil 135 3 (encs ([] : List Hand))) :: (.own s49 135 3 (encs r47.1.Hands)) :: (.own s51 209 3 (encs r47.1.Way)) :: (.blk b45 (enc (OverR.mk r35.1 s37 s39)) 124) :: (.own Sl.nil 209 3 (encs ([] : List Word))) :: (.own Sl.nil 135 3 (encs ([] : List Hand))) :: (.own s37 135 3 (encs r35.1.Hands)) :: (.own s39 209 3 (encs r35.1.Way)) :: (.blk b33 (enc (OverR.mk r23.1 s25 s27)) 124) :: (.own Sl.nil 209 3 (encs ([] : List Word))) :: (.own Sl.nil 135 3 (encs ([] : List Hand))) :: (.own s25 135 3 (encs r23.1.Hands)) :: (.own s27 209 3 (encs r23.1.Way)) :: (.blk b21 (enc (OverR.mk r11.1 s13 s15)) 124) :: (.own Sl.nil 209 3 (encs ([] : List Word))) :: (.own Sl.nil 135 3 (encs ([] : List Hand))) :: (.own s13 135 3 (encs r11.1.Hands)) :: (.blk b9 (enc (OverR.mk Over.zero Sl.nil Sl.nil)) 124) :: (.own Sl.nil 209 3 (encs ([] : List Word))) :: (.own Sl.nil 135 3 (encs ([] : List Hand))) :: (.blk b1 (enc (OverR.mk a0 s_a0_0 s_a0_1)) 124) :: L) ⟨rfl, rfl, rfl, rfl, rfl, rfl, rfl, rfl, rfl, trivial⟩ rfl ?_
      replace H := HKo186
      refine Lst.nil ?_
      refine At.then ?_
      rcases Bool.eq_false_or_eq_true y187 with hb191 | hb191
      · replace H := ite_t hb191 H
        refine Cd.condT rfl hb191 ?_
        refine Cd.seq ?_
        refine Cd.region ?_
        refine Lst.run rfl rfl (by decide) (Ev.assign rfl) ?_
        refine Lst.nil ?_
        refine At.then ?_
        obtain rfl := some_inj H
        replace H := HKo175
        obtain rfl := some_inj H
        refine Cd.ret ?_
        refine At.then_ret ?_
        exact At.ret1 rfl (Res.tmp rfl) (FLe.trans (FLe.trans (FLe.trans (FLe.trans (FLe.trans (FLe.trans (FLe.trans (FLe.trans hF18 hF30) hF42) hF54) hF104) hF168) hF173) hF180) hF190) (List.Sublist.cons _ (List.Sublist.cons _ (List.Sublist.cons _ (List.Sublist.cons _ (List.Sublist.cons _ (List.Sublist.cons _ (List.Sublist.cons _ (List.Sublist.cons _ (List.Sublist.cons _ (List.Sublist.cons _ (List.Sublist.cons _ (List.Sublist.cons _ (List.Sublist.cons _ (List.Sublist.cons _ (List.Sublist.cons _ (List.Sublist.cons _ (List.Sublist.cons _ (List.Sublist.cons _ (List.Sublist.cons _ (List.Sublist.cons _ (List.Sublist.cons _ (List.Sublist.cons _ (List.Sublist.cons _ (List.Sublist.refl _)))))))))))))))))))))))) ⟨rfl, rfl⟩
      replace H := ite_f hb191 H
      refine Cd.condF rfl hb191 ?_
      refine Cd.skip ?_
      exact At.meet () (FLe.trans hF180 hF190) ⟨rfl, rfl, rfl, rfl, rfl, rfl, rfl, rfl, trivial⟩ rfl (some_inj H)
    replace H := ite_f hb181 H
    refine Cd.condF rfl hb181 ?_
    refine Cd.seq ?_
    obtain ⟨r192, h193, H⟩ := bind_some H
    obtain ⟨o205, h206, H⟩ := Let_some H
    refine Cd.headMeet (σ := Sl × (List Hand) × Sl × (List Word)) 4 (fun (s201, l202, s203, l204) => [(2, .int .i64 a2), (3, .int .i64 a3), (5, .pointer (some ⟨b1, 0, none⟩)), (12, .pointer (some ⟨b9, 0, none⟩)), (15, .pointer (some ⟨b33, 0, none⟩)), (16, .int .i64 r23.2), (18, .int .i64 r35.2), (19, .pointer (some ⟨b57, 0, none⟩)), (20, .int .i64 r47.2), (170, .agg (enc (OverR.mk r35.1 s37 s39)).toArray), (173, .agg (enc (OverR.mk ({ r192 with Hands := l202, Way := l204 } : Over) s201 s203)).toArray)]) (fun (s201, l202, s203, l204) => (.own s201 135 3 (encs l202)) :: (.own s203 209 3 (encs l204)) :: (.blk b57 (enc (OverR.mk r47.1 s49 s51)) 124) :: (.own Sl.nil 209 3 (encs ([] : List Word))) :: (.own Sl.nil 135 3 (encs ([] : List Hand))) :: (.own s49 135 3 (encs r47.1.Hands)) :: (.own s51 209 3 (encs r47.1.Way)) :: (.blk b45 (enc (OverR.mk r35.1 s37 s39)) 124) :: (.own Sl.nil 209 3 (encs ([] : List Word))) :: (.own Sl.nil 135 3 (encs ([] : List Hand))) :: (.own s37 135 3 (encs r35.1.Hands)) :: (.own s39 209 3 (encs r35.1.Way)) :: (.blk b33 (enc (OverR.mk r23.1 s25 s27)) 124) :: (.own Sl.nil 209 3 (encs ([] : List Word))) :: (.own Sl.nil 135 3 (encs ([] : List Hand))) :: (.own s25 135 3 (encs r23.1.Hands)) :: (.own s27 209 3 (encs r23.1.Way)) :: (.blk b21 (enc (OverR.mk r11.1 s13 s15)) 124) :: (.own Sl.nil 209 3 (encs ([] : List Word))) :: (.own Sl.nil 135 3 (encs ([] : List Hand))) :: (.own s13 135 3 (encs r11.1.Hands)) :: (.blk b9 (enc (OverR.mk Over.zero Sl.nil Sl.nil)) 124) :: (.own Sl.nil 209 3 (encs ([] : List Word))) :: (.own Sl.nil 135 3 (encs ([] : List Hand))) :: (.blk b1 (enc (OverR.mk a0 s_a0_0 s_a0_1)) 124) :: L) (fun _ (s201, l202, s203, l204) => (l202, l204) = o205) (by kernel_rfl) (by kernel_rfl) (behind_sink (by kernel_rfl) (by kernel_rfl) (by kernel_rfl)) (by kernel_rfl) (fun hsel hlt => ?_) ?_
    · refine HdJ.keep (fun w => St w0 F179 ((.blk b57 (enc (OverR.mk r47.1 s49 s51)) 124) :: (.own Sl.nil 209 3 (encs ([] : List Word))) :: (.own Sl.nil 135 3 (encs ([] : List Hand))) :: (.own s49 135 3 (encs r47.1.Hands)) :: (.own s51 209 3 (encs r47.1.Way)) :: (.blk b45 (enc (OverR.mk r35.1 s37 s39)) 124) :: (.own Sl.nil 209 3 (encs ([] : List Word))) :: (.own Sl.nil 135 3 (encs ([] : List Hand))) :: (.own s37 135 3 (encs r35.1.Hands)) :: (.own s39 209 3 (encs r35.1.Way)) :: (.blk b33 (enc (OverR.mk r23.1 s25 s27)) 124) :: (.own Sl.nil 209 3 (encs ([] : List Word))) :: (.own Sl.nil 135 3 (encs ([] : List Hand))) :: (.own s25 135 3 (encs r23.1.Hands)) :: (.own s27 209 3 (encs r23.1.Way)) :: (.blk b21 (enc (OverR.mk r11.1 s13 s15)) 124) :: (.own Sl.nil 209 3 (encs ([] : List Word))) :: (.own Sl.nil 135 3 (encs ([] : List Hand))) :: (.own s13 135 3 (encs r11.1.Hands)) :: (.blk b9 (enc (OverR.mk Over.zero Sl.nil Sl.nil)) 124) :: (.own Sl.nil 209 3 (encs ([] : List Word))) :: (.own Sl.nil 135 3 (encs ([] : List Hand))) :: (.blk b1 (enc (OverR.mk a0 s_a0_0 s_a0_1)) 124) :: L) w) (fun w h => trivial) ?_
      refine HdJ.takeK hsel hlt 0 (fun w h => h.sublist (List.Sublist.cons_cons _ (List.Sublist.cons_cons _ (List.Sublist.cons_cons _ (List.Sublist.cons_cons _ (List.Sublist.cons_cons _ (List.Sublist.cons_cons _ (List.Sublist.cons_cons _ (List.Sublist.cons_cons _ (List.Sublist.cons_cons _ (List.Sublist.cons_cons _ (List.Sublist.cons_cons _ (List.Sublist.cons_cons _ (List.Sublist.cons_cons _ (List.Sublist.cons_cons _ (List.Sublist.cons_cons _ (List.Sublist.cons_cons _ (List.Sublist.cons_cons _ (List.Sublist.cons_cons _ (List.Sublist.cons_cons _ (List.Sublist.cons_cons _ (List.Sublist.cons_cons _ (List.Sublist.cons_cons _ (List.Sublist.cons_cons _ (List.Sublist.refl _))))))))))))))))))))))))) rfl rfl (by decide) (by decide) (by kernel_rfl) (by kernel_rfl) rfl (Ev.loadA (i := 5) rfl rfl Try.isAgg124 Try.sizeOf124 (ch := enc (OverR.mk r35.1 s37 s39)) (Enc.len _) (Get.here _)) ?_
      refine HdJ.takeK hsel hlt 1 (fun w h => h.sublist (List.Sublist.cons_cons _ (List.Sublist.cons_cons _ (List.Sublist.cons_cons _ (List.Sublist.cons_cons _ (List.Sublist.cons_cons _ (List.Sublist.cons_cons _ (List.Sublist.cons_cons _ (List.Sublist.cons_cons _ (List.Sublist.cons_cons _ (List.Sublist.cons_cons _ (List.Sublist.cons_cons _ (List.Sublist.cons_cons _ (List.Sublist.cons_cons _ (List.Sublist.cons_cons _ (List.Sublist.cons_cons _ (List.Sublist.cons_cons _ (List.Sublist.cons_cons _ (List.Sublist.cons_cons _ (List.Sublist.cons_cons _ (List.Sublist.cons_cons _ (List.Sublist.cons_cons _ (List.Sublist.cons_cons _ (List.Sublist.cons_cons _ (List.Sublist.refl _))))))))))))))))))))))))) rfl rfl (by decide) (by decide) (by kernel_rfl) (by kernel_rfl) rfl (Ev.loadA (i := 22) rfl rfl Try.isAgg124 Try.sizeOf124 (ch := enc (OverR.mk a0 s_a0_0 s_a0_1)) (Enc.len _) (Get.here _)) ?_
      refine HdJ.takeK hsel hlt 2 (fun w h => h.sublist (List.Sublist.cons_cons _ (List.Sublist.cons_cons _ (List.Sublist.cons_cons _ (List.Sublist.cons_cons _ (List.Sublist.cons_cons _ (List.Sublist.cons_cons _ (List.Sublist.cons_cons _ (List.Sublist.cons_cons _ (List.Sublist.cons_cons _ (List.Sublist.cons_cons _ (List.Sublist.cons_cons _ (List.Sublist.cons_cons _ (List.Sublist.cons_cons _ (List.Sublist.cons_cons _ (List.Sublist.cons_cons _ (List.Sublist.cons_cons _ (List.Sublist.cons_cons _ (List.Sublist.cons_cons _ (List.Sublist.cons_cons _ (List.Sublist.cons_cons _ (List.Sublist.cons_cons _ (List.Sublist.cons_cons _ (List.Sublist.cons_cons _ (List.Sublist.refl _))))))))))))))))))))))))) rfl rfl (by decide) (by decide) (by kernel_rfl) (by kernel_rfl) rfl (Ev.move rfl) ?_
      refine HdJ.step [3] (by kernel_rfl) rfl ?_
      refine HdStep.cons (by decide) rfl (fun inv => ?_) ?_
      · refine Lst.call rfl rfl (by decide) (vs := [.agg (enc (OverR.mk a0 s_a0_0 s_a0_1)).toArray, .int .i64 a4]) ⟨rfl, rfl, trivial⟩ Try.call82 (partref_OverTake_sim h193 w0 _ M _ (List.Sublist.cons _ (List.Sublist.cons _ (List.Sublist.cons _ (List.Sublist.cons _ (List.Sublist.cons _ (List.Sublist.cons _ (List.Sublist.cons _ (List.Sublist.cons _ (List.Sublist.cons _ (List.Sublist.cons _ (List.Sublist.cons _ (List.Sublist.cons _ (List.Sublist.cons _ (List.Sublist.cons _ (List.Sublist.cons _ (List.Sublist.cons _ (List.Sublist.cons _ (List.Sublist.cons _ (List.Sublist.cons _ (List.Sublist.cons _ (List.Sublist.cons _ (List.Sublist.cons _ (List.Sublist.cons _ hM))))))))))))))))))))))) (hs_a0_0.mono (FLe.trans (FLe.trans (FLe.trans (FLe.trans (FLe.trans (FLe.trans (FLe.trans hF18 hF30) hF42) hF54) hF104) hF168) hF173) hF180) (List.Sublist.refl _)) (hs_a0_1.mono (FLe.trans (FLe.trans (FLe.trans (FLe.trans (FLe.trans (FLe.trans (FLe.trans hF18 hF30) hF42) hF54) hF104) hF168) hF173) hF180) (List.Sublist.refl _))) (fun F209 L' v hF210 hv => ?_)
        obtain ⟨s207, s208, rfl, rfl⟩ := hv
        refine Lst.nil ?_
        refine At.hd inv (fun w h => (h.weaken hF210).sublist (List.Sublist.cons _ (List.Sublist.cons _ (List.Sublist.cons_cons _ (List.Sublist.cons_cons _ (List.Sublist.cons_cons _ (List.Sublist.cons_cons _ (List.Sublist.cons_cons _ (List.Sublist.cons_cons _ (List.Sublist.cons_cons _ (List.Sublist.cons_cons _ (List.Sublist.cons_cons _ (List.Sublist.cons_cons _ (List.Sublist.cons_cons _ (List.Sublist.cons_cons _ (List.Sublist.cons_cons _ (List.Sublist.cons_cons _ (List.Sublist.cons_cons _ (List.Sublist.cons_cons _ (List.Sublist.cons_cons _ (List.Sublist.cons_cons _ (List.Sublist.cons_cons _ (List.Sublist.cons_cons _ (List.Sublist.cons_cons _ (List.Sublist.cons_cons _ (List.Sublist.cons_cons _ (List.Sublist.refl _))))))))))))))))))))))))))) ?_
        refine HdJ.done (by kernel_rfl) ?_
        exact At.meetN (s207, r192.Hands, s208, r192.Way) hF210 ⟨rfl, rfl, rfl, rfl, rfl, rfl, rfl, rfl, rfl, rfl, rfl, trivial⟩ rfl h206
      exact trivial
    rintro F211 ⟨s201, l202, s203, l204⟩ hF212 hy
    subst hy
    refine Lst.as (e' := [(2, .int .i64 a2), (3, .int .i64 a3), (5, .pointer (some ⟨b1, 0, none⟩)), (12, .pointer (some ⟨b9, 0, none⟩)), (15, .pointer (some ⟨b33, 0, none⟩)), (16, .int .i64 r23.2), (18, .int .i64 r35.2), (19, .pointer (some ⟨b57, 0, none⟩)), (20, .int .i64 r47.2), (170, .agg (enc (OverR.mk r35.1 s37 s39)).toArray), (173, .agg (enc (OverR.mk ({ r192 with Hands := l202, Way := l204 } : Over) s201 s203)).toArray)]) (L' := (.own s201 135 3 (encs l202)) :: (.own s203 209 3 (encs l204)) :: (.blk b57 (enc (OverR.mk r47.1 s49 s51)) 124) :: (.own Sl.nil 209 3 (encs ([] : List Word))) :: (.own Sl.nil 135 3 (encs ([] : List Hand))) :: (.own s49 135 3 (encs r47.1.Hands)) :: (.own s51 209 3 (encs r47.1.Way)) :: (.blk b45 (enc (OverR.mk r35.1 s37 s39)) 124) :: (.own Sl.nil 209 3 (encs ([] : List Word))) :: (.own Sl.nil 135 3 (encs ([] : List Hand))) :: (.own s37 135 3 (encs r35.1.Hands)) :: (.own s39 209 3 (encs r35.1.Way)) :: (.blk b33 (enc (OverR.mk r23.1 s25 s27)) 124) :: (.own Sl.nil 209 3 (encs ([] : List Word))) :: (.own Sl.nil 135 3 (encs ([] : List Hand))) :: (.own s25 135 3 (encs r23.1.Hands)) :: (.own s27 209 3 (encs r23.1.Way)) :: (.blk b21 (enc (OverR.mk r11.1 s13 s15)) 124) :: (.own Sl.nil 209 3 (encs ([] : List Word))) :: (.own Sl.nil 135 3 (encs ([] : List Hand))) :: (.own s13 135 3 (encs r11.1.Hands)) :: (.blk b9 (enc (OverR.mk Over.zero Sl.nil Sl.nil)) 124) :: (.own Sl.nil 209 3 (encs ([] : List Word))) :: (.own Sl.nil 135 3 (encs ([] : List Hand))) :: (.blk b1 (enc (OverR.mk a0 s_a0_0 s_a0_1)) 124) :: L) ⟨rfl, rfl, rfl, rfl, rfl, rfl, rfl, rfl, rfl, rfl, rfl, trivial⟩ rfl ?_
    obtain ⟨r213, h214, H⟩ := bind_some H
    refine Lst.call1 rfl rfl (by decide) (vs := [.agg (enc (OverR.mk r35.1 s37 s39)).toArray, .agg (enc (OverR.mk ({ r192 with Hands := l202, Way := l204 } : Over) s201 s203)).toArray]) ⟨rfl, rfl, trivial⟩ Try.call79 (partref_SameOver_sim h214 w0 _ _ _ (List.Sublist.refl _) (Rd.own (i := 10) rfl rfl rfl) (Rd.own (i := 11) rfl rfl rfl) (Rd.own (i := 0) rfl rfl rfl) (Rd.own (i := 1) rfl rfl rfl)) ?_
    refine Lst.run rfl rfl (by decide) (Ev.not rfl) ?_
    refine Lst.run rfl rfl (by decide) (Ev.move rfl) ?_
    obtain ⟨o217, H, HKo217⟩ := bind_some H
    refine Lst.join (σ := Bool) 3 (fun y218 => [(2, .int .i64 a2), (3, .int .i64 a3), (5, .pointer (some ⟨b1, 0, none⟩)), (12, .pointer (some ⟨b9, 0, none⟩)), (15, .pointer (some ⟨b33, 0, none⟩)), (16, .int .i64 r23.2), (19, .pointer (some ⟨b57, 0, none⟩)), (20, .int .i64 r47.2), (179, .bool y218)]) (fun y218 => (.own s201 135 3 (encs l202)) :: (.own s203 209 3 (encs l204)) :: (.blk b57 (enc (OverR.mk r47.1 s49 s51)) 124) :: (.own Sl.nil 209 3 (encs ([] : List Word))) :: (.own Sl.nil 135 3 (encs ([] : List Hand))) :: (.own s49 135 3 (encs r47.1.Hands)) :: (.own s51 209 3 (encs r47.1.Way)) :: (.blk b45 (enc (OverR.mk r35.1 s37 s39)) 124) :: (.own Sl.nil 209 3 (encs ([] : List Word))) :: (.own Sl.nil 135 3 (encs ([] : List Hand))) :: (.own s37 135 3 (encs r35.1.Hands)) :: (.own s39 209 3 (encs r35.1.Way)) :: (.blk b33 (enc (OverR.mk r23.1 s25 s27)) 124) :: (.own Sl.nil 209 3 (encs ([] : List Word))) :: (.own Sl.nil 135 3 (encs ([] : List Hand))) :: (.own s25 135 3 (encs r23.1.Hands)) :: (.own s27 209 3 (encs r23.1.Way)) :: (.blk b21 (enc (OverR.mk r11.1 s13 s15)) 124) :: (.own Sl.nil 209 3 (encs ([] : List Word))) :: (.own Sl.nil 135 3 (encs ([] : List Hand))) :: (.own s13 135 3 (encs r11.1.Hands)) :: (.blk b9 (enc (OverR.mk Over.zero Sl.nil Sl.nil)) 124) :: (.own Sl.nil 209 3 (encs ([] : List Word))) :: (.own Sl.nil 135 3 (encs ([] : List Hand))) :: (.blk b1 (enc (OverR.mk a0 s_a0_0 s_a0_1)) 124) :: L) (fun _ y218 => y218 = o217) ?_ ?_
    · rcases Bool.eq_false_or_eq_true (!r213) with hb219 | hb219
      · replace H := ite_t hb219 H
        refine Lst.skip rfl rfl rfl hb219 rfl (by decide) ?_
        refine Lst.skip rfl rfl rfl hb219 rfl (by decide) ?_
        refine Lst.run rfl rfl (by decide) (Ev.pickT rfl hb219 rfl) ?_
        refine Lst.nil ?_
        exact At.meet true (FLe.refl _) ⟨rfl, rfl, rfl, rfl, rfl, rfl, rfl, rfl, rfl, trivial⟩ rfl (some_inj H)
      replace H := ite_f hb219 H
      refine Lst.runG rfl rfl rfl hb219 rfl (by decide) (Ev.move rfl) ?_
      refine Lst.runG rfl rfl rfl hb219 rfl (by decide) (Ev.neq rfl rfl) ?_
      refine Lst.run rfl rfl (by decide) (Ev.pickF rfl hb219 rfl) ?_
      refine Lst.nil ?_
      exact At.meet (r35.2 != (0 : Int)) (FLe.refl _) ⟨rfl, rfl, rfl, rfl, rfl, rfl, rfl, rfl, rfl, trivial⟩ rfl (some_inj H)
    rintro F220 y218 hF221 hy
    subst hy
    refine Lst.as (e' := [(2, .int .i64 a2), (3, .int .i64 a3), (5, .pointer (some ⟨b1, 0, none⟩)), (12, .pointer (some ⟨b9, 0, none⟩)), (15, .pointer (some ⟨b33, 0, none⟩)), (16, .int .i64 r23.2), (19, .pointer (some ⟨b57, 0, none⟩)), (20, .int .i64 r47.2), (179, .bool y218)]) (L' := (.own s201 135 3 (encs l202)) :: (.own s203 209 3 (encs l204)) :: (.blk b57 (enc (OverR.mk r47.1 s49 s51)) 124) :: (.own Sl.nil 209 3 (encs ([] : List Word))) :: (.own Sl.nil 135 3 (encs ([] : List Hand))) :: (.own s49 135 3 (encs r47.1.Hands)) :: (.own s51 209 3 (encs r47.1.Way)) :: (.blk b45 (enc (OverR.mk r35.1 s37 s39)) 124) :: (.own Sl.nil 209 3 (encs ([] : List Word))) :: (.own Sl.nil 135 3 (encs ([] : List Hand))) :: (.own s37 135 3 (encs r35.1.Hands)) :: (.own s39 209 3 (encs r35.1.Way)) :: (.blk b33 (enc (OverR.mk r23.1 s25 s27)) 124) :: (.own Sl.nil 209 3 (encs ([] : List Word))) :: (.own Sl.nil 135 3 (encs ([] : List Hand))) :: (.own s25 135 3 (encs r23.1.Hands)) :: (.own s27 209 3 (encs r23.1.Way)) :: (.blk b21 (enc (OverR.mk r11.1 s13 s15)) 124) :: (.own Sl.nil 209 3 (encs ([] : List Word))) :: (.own Sl.nil 135 3 (encs ([] : List Hand))) :: (.own s13 135 3 (encs r11.1.Hands)) :: (.blk b9 (enc (OverR.mk Over.zero Sl.nil Sl.nil)) 124) :: (.own Sl.nil 209 3 (encs ([] : List Word))) :: (.own Sl.nil 135 3 (encs ([] : List Hand))) :: (.blk b1 (enc (OverR.mk a0 s_a0_0 s_a0_1)) 124) :: L) ⟨rfl, rfl, rfl, rfl, rfl, rfl, rfl, rfl, rfl, trivial⟩ rfl ?_
    replace H := HKo217
    refine Lst.nil ?_
    refine At.then ?_
    rcases Bool.eq_false_or_eq_true y218 with hb222 | hb222
    · replace H := ite_t hb222 H
      refine Cd.condT rfl hb222 ?_
      refine Cd.seq ?_
      refine Cd.region ?_
      refine Lst.run rfl rfl (by decide) (Ev.assign rfl) ?_
      refine Lst.nil ?_
      refine At.then ?_
      obtain rfl := some_inj H
      replace H := HKo175
      obtain rfl := some_inj H
      refine Cd.ret ?_
      refine At.then_ret ?_
      exact At.ret1 rfl (Res.tmp rfl) (FLe.trans (FLe.trans (FLe.trans (FLe.trans (FLe.trans (FLe.trans (FLe.trans (FLe.trans (FLe.trans hF18 hF30) hF42) hF54) hF104) hF168) hF173) hF180) hF212) hF221) (List.Sublist.cons _ (List.Sublist.cons _ (List.Sublist.cons _ (List.Sublist.cons _ (List.Sublist.cons _ (List.Sublist.cons _ (List.Sublist.cons _ (List.Sublist.cons _ (List.Sublist.cons _ (List.Sublist.cons _ (List.Sublist.cons _ (List.Sublist.cons _ (List.Sublist.cons _ (List.Sublist.cons _ (List.Sublist.cons _ (List.Sublist.cons _ (List.Sublist.cons _ (List.Sublist.cons _ (List.Sublist.cons _ (List.Sublist.cons _ (List.Sublist.cons _ (List.Sublist.cons _ (List.Sublist.cons _ (List.Sublist.cons _ (List.Sublist.cons _ (List.Sublist.refl _)))))))))))))))))))))))))) ⟨rfl, rfl⟩
    replace H := ite_f hb222 H
    refine Cd.condF rfl hb222 ?_
    refine Cd.skip ?_
    refine At.less (L' := (.blk b57 (enc (OverR.mk r47.1 s49 s51)) 124) :: (.own Sl.nil 209 3 (encs ([] : List Word))) :: (.own Sl.nil 135 3 (encs ([] : List Hand))) :: (.own s49 135 3 (encs r47.1.Hands)) :: (.own s51 209 3 (encs r47.1.Way)) :: (.blk b45 (enc (OverR.mk r35.1 s37 s39)) 124) :: (.own Sl.nil 209 3 (encs ([] : List Word))) :: (.own Sl.nil 135 3 (encs ([] : List Hand))) :: (.own s37 135 3 (encs r35.1.Hands)) :: (.own s39 209 3 (encs r35.1.Way)) :: (.blk b33 (enc (OverR.mk r23.1 s25 s27)) 124) :: (.own Sl.nil 209 3 (encs ([] : List Word))) :: (.own Sl.nil 135 3 (encs ([] : List Hand))) :: (.own s25 135 3 (encs r23.1.Hands)) :: (.own s27 209 3 (encs r23.1.Way)) :: (.blk b21 (enc (OverR.mk r11.1 s13 s15)) 124) :: (.own Sl.nil 209 3 (encs ([] : List Word))) :: (.own Sl.nil 135 3 (encs ([] : List Hand))) :: (.own s13 135 3 (encs r11.1.Hands)) :: (.blk b9 (enc (OverR.mk Over.zero Sl.nil Sl.nil)) 124) :: (.own Sl.nil 209 3 (encs ([] : List Word))) :: (.own Sl.nil 135 3 (encs ([] : List Hand))) :: (.blk b1 (enc (OverR.mk a0 s_a0_0 s_a0_1)) 124) :: L) (List.Sublist.cons _ (List.Sublist.cons _ (List.Sublist.cons_cons _ (List.Sublist.cons_cons _ (List.Sublist.cons_cons _ (List.Sublist.cons_cons _ (List.Sublist.cons_cons _ (List.Sublist.cons_cons _ (List.Sublist.cons_cons _ (List.Sublist.cons_cons _ (List.Sublist.cons_cons _ (List.Sublist.cons_cons _ (List.Sublist.cons_cons _ (List.Sublist.cons_cons _ (List.Sublist.cons_cons _ (List.Sublist.cons_cons _ (List.Sublist.cons_cons _ (List.Sublist.cons_cons _ (List.Sublist.cons_cons _ (List.Sublist.cons_cons _ (List.Sublist.cons_cons _ (List.Sublist.cons_cons _ (List.Sublist.cons_cons _ (List.Sublist.cons_cons _ (List.Sublist.cons_cons _ (List.Sublist.refl _)))))))))))))))))))))))))) ?_
    exact At.meet () (FLe.trans (FLe.trans hF180 hF212) hF221) ⟨rfl, rfl, rfl, rfl, rfl, rfl, rfl, rfl, trivial⟩ rfl (some_inj H)
  rintro F223 _u hF224 hy
  subst hy
  refine Cd.as (e' := [(2, .int .i64 a2), (3, .int .i64 a3), (5, .pointer (some ⟨b1, 0, none⟩)), (12, .pointer (some ⟨b9, 0, none⟩)), (15, .pointer (some ⟨b33, 0, none⟩)), (16, .int .i64 r23.2), (19, .pointer (some ⟨b57, 0, none⟩)), (20, .int .i64 r47.2)]) (L' := (.blk b57 (enc (OverR.mk r47.1 s49 s51)) 124) :: (.own Sl.nil 209 3 (encs ([] : List Word))) :: (.own Sl.nil 135 3 (encs ([] : List Hand))) :: (.own s49 135 3 (encs r47.1.Hands)) :: (.own s51 209 3 (encs r47.1.Way)) :: (.blk b45 (enc (OverR.mk r35.1 s37 s39)) 124) :: (.own Sl.nil 209 3 (encs ([] : List Word))) :: (.own Sl.nil 135 3 (encs ([] : List Hand))) :: (.own s37 135 3 (encs r35.1.Hands)) :: (.own s39 209 3 (encs r35.1.Way)) :: (.blk b33 (enc (OverR.mk r23.1 s25 s27)) 124) :: (.own Sl.nil 209 3 (encs ([] : List Word))) :: (.own Sl.nil 135 3 (encs ([] : List Hand))) :: (.own s25 135 3 (encs r23.1.Hands)) :: (.own s27 209 3 (encs r23.1.Way)) :: (.blk b21 (enc (OverR.mk r11.1 s13 s15)) 124) :: (.own Sl.nil 209 3 (encs ([] : List Word))) :: (.own Sl.nil 135 3 (encs ([] : List Hand))) :: (.own s13 135 3 (encs r11.1.Hands)) :: (.blk b9 (enc (OverR.mk Over.zero Sl.nil Sl.nil)) 124) :: (.own Sl.nil 209 3 (encs ([] : List Word))) :: (.own Sl.nil 135 3 (encs ([] : List Hand))) :: (.blk b1 (enc (OverR.mk a0 s_a0_0 s_a0_1)) 124) :: L) ⟨rfl, rfl, rfl, rfl, rfl, rfl, rfl, rfl, trivial⟩ rfl ?_
  replace H := HKo175
  refine Cd.seq ?_
  refine Cd.seq ?_
  refine Cd.region ?_
  refine Lst.run rfl rfl (by decide) (Ev.move rfl) ?_
  refine Lst.run rfl rfl (by decide) (Ev.lss rfl rfl) ?_
  refine Lst.run rfl rfl (by decide) (Ev.move rfl) ?_
  obtain ⟨o225, H, HKo225⟩ := bind_some H
  refine Lst.join (σ := Bool) 6 (fun y226 => [(2, .int .i64 a2), (3, .int .i64 a3), (5, .pointer (some ⟨b1, 0, none⟩)), (12, .pointer (some ⟨b9, 0, none⟩)), (15, .pointer (some ⟨b33, 0, none⟩)), (16, .int .i64 r23.2), (19, .pointer (some ⟨b57, 0, none⟩)), (20, .int .i64 r47.2), (188, .bool y226)]) (fun y226 => (.blk b57 (enc (OverR.mk r47.1 s49 s51)) 124) :: (.own Sl.nil 209 3 (encs ([] : List Word))) :: (.own Sl.nil 135 3 (encs ([] : List Hand))) :: (.own s49 135 3 (encs r47.1.Hands)) :: (.own s51 209 3 (encs r47.1.Way)) :: (.blk b45 (enc (OverR.mk r35.1 s37 s39)) 124) :: (.own Sl.nil 209 3 (encs ([] : List Word))) :: (.own Sl.nil 135 3 (encs ([] : List Hand))) :: (.own s37 135 3 (encs r35.1.Hands)) :: (.own s39 209 3 (encs r35.1.Way)) :: (.blk b33 (enc (OverR.mk r23.1 s25 s27)) 124) :: (.own Sl.nil 209 3 (encs ([] : List Word))) :: (.own Sl.nil 135 3 (encs ([] : List Hand))) :: (.own s25 135 3 (encs r23.1.Hands)) :: (.own s27 209 3 (encs r23.1.Way)) :: (.blk b21 (enc (OverR.mk r11.1 s13 s15)) 124) :: (.own Sl.nil 209 3 (encs ([] : List Word))) :: (.own Sl.nil 135 3 (encs ([] : List Hand))) :: (.own s13 135 3 (encs r11.1.Hands)) :: (.blk b9 (enc (OverR.mk Over.zero Sl.nil Sl.nil)) 124) :: (.own Sl.nil 209 3 (encs ([] : List Word))) :: (.own Sl.nil 135 3 (encs ([] : List Hand))) :: (.blk b1 (enc (OverR.mk a0 s_a0_0 s_a0_1)) 124) :: L) (fun _ y226 => y226 = o225) ?_ ?_
  · rcases Bool.eq_false_or_eq_true (decide (a2 < (0 : Int))) with hb227 | hb227
    · replace H := ite_t hb227 H
      refine Lst.skip rfl rfl rfl hb227 rfl (by decide) ?_
      refine Lst.skip rfl rfl rfl hb227 rfl (by decide) ?_
      refine Lst.skip rfl rfl rfl hb227 rfl (by decide) ?_
      refine Lst.skip rfl rfl rfl hb227 rfl (by decide) ?_
      refine Lst.skip rfl rfl rfl hb227 rfl (by decide) ?_
      refine Lst.run rfl rfl (by decide) (Ev.pickT rfl hb227 rfl) ?_
      refine Lst.nil ?_
      exact At.meet true (FLe.refl _) ⟨rfl, rfl, rfl, rfl, rfl, rfl, rfl, rfl, rfl, trivial⟩ rfl (some_inj H)
    replace H := ite_f hb227 H
    refine Lst.runG rfl rfl rfl hb227 rfl (by decide) (Ev.move rfl) ?_
    refine Lst.runG rfl rfl rfl hb227 rfl (by decide) (Ev.fieldAddr (off' := 0) rfl Try.runUnderlying124 rfl Try.sizeOf122 rfl rfl) ?_
    refine Lst.runG rfl rfl rfl hb227 rfl (by decide) (Ev.load (i := 22) rfl rfl Try.isAgg122 (v := Sl.v s_a0_0) ((OverR.get_Hands (Get.here _)).off (by rfl))) ?_
    refine Lst.runG rfl rfl rfl hb227 rfl (by decide) (Ev.lenS (α := Hand) (xs := a0.Hands) (by decide) rfl rfl Try.runUnderlying122 (hs_a0_0.mono (FLe.trans (FLe.trans (FLe.trans (FLe.trans (FLe.trans (FLe.trans (FLe.trans hF18 hF30) hF42) hF54) hF104) hF168) hF173) hF224) (List.Sublist.cons _ (List.Sublist.cons _ (List.Sublist.cons _ (List.Sublist.cons _ (List.Sublist.cons _ (List.Sublist.cons _ (List.Sublist.cons _ (List.Sublist.cons _ (List.Sublist.cons _ (List.Sublist.cons _ (List.Sublist.cons _ (List.Sublist.cons _ (List.Sublist.cons _ (List.Sublist.cons _ (List.Sublist.cons _ (List.Sublist.cons _ (List.Sublist.cons _ (List.Sublist.cons _ (List.Sublist.cons _ (List.Sublist.cons _ (List.Sublist.cons _ (List.Sublist.cons _ (List.Sublist.cons _ hM))))))))))))))))))))))))) ?_
    refine Lst.runG rfl rfl rfl hb227 rfl (by decide) (Ev.geq rfl rfl) ?_
    refine Lst.run rfl rfl (by decide) (Ev.pickF rfl hb227 rfl) ?_
    refine Lst.nil ?_
    exact At.meet (decide (a2 ≥ (a0.Hands.length : Int))) (FLe.refl _) ⟨rfl, rfl, rfl, rfl, rfl, rfl, rfl, rfl, rfl, trivial⟩ rfl (some_inj H)
  rintro F228 y226 hF229 hy
  subst hy
  refine Lst.as (e' := [(2, .int .i64 a2), (3, .int .i64 a3), (5, .pointer (some ⟨b1, 0, none⟩)), (12, .pointer (some ⟨b9, 0, none⟩)), (15, .pointer (some ⟨b33, 0, none⟩)), (16, .int .i64 r23.2), (19, .pointer (some ⟨b57, 0, none⟩)), (20, .int .i64 r47.2), (188, .bool y226)]) (L' := (.blk b57 (enc (OverR.mk r47.1 s49 s51)) 124) :: (.own Sl.nil 209 3 (encs ([] : List Word))) :: (.own Sl.nil 135 3 (encs ([] : List Hand))) :: (.own s49 135 3 (encs r47.1.Hands)) :: (.own s51 209 3 (encs r47.1.Way)) :: (.blk b45 (enc (OverR.mk r35.1 s37 s39)) 124) :: (.own Sl.nil 209 3 (encs ([] : List Word))) :: (.own Sl.nil 135 3 (encs ([] : List Hand))) :: (.own s37 135 3 (encs r35.1.Hands)) :: (.own s39 209 3 (encs r35.1.Way)) :: (.blk b33 (enc (OverR.mk r23.1 s25 s27)) 124) :: (.own Sl.nil 209 3 (encs ([] : List Word))) :: (.own Sl.nil 135 3 (encs ([] : List Hand))) :: (.own s25 135 3 (encs r23.1.Hands)) :: (.own s27 209 3 (encs r23.1.Way)) :: (.blk b21 (enc (OverR.mk r11.1 s13 s15)) 124) :: (.own Sl.nil 209 3 (encs ([] : List Word))) :: (.own Sl.nil 135 3 (encs ([] : List Hand))) :: (.own s13 135 3 (encs r11.1.Hands)) :: (.blk b9 (enc (OverR.mk Over.zero Sl.nil Sl.nil)) 124) :: (.own Sl.nil 209 3 (encs ([] : List Word))) :: (.own Sl.nil 135 3 (encs ([] : List Hand))) :: (.blk b1 (enc (OverR.mk a0 s_a0_0 s_a0_1)) 124) :: L) ⟨rfl, rfl, rfl, rfl, rfl, rfl, rfl, rfl, rfl, trivial⟩ rfl ?_
  replace H := HKo225
  refine Lst.nil ?_
  refine At.then ?_
  rcases Bool.eq_false_or_eq_true y226 with hb230 | hb230
  · replace H := ite_t hb230 H
    refine Cd.condT rfl hb230 ?_
    refine Cd.seq ?_
    refine Cd.region ?_
    refine Lst.run rfl rfl (by decide) (Ev.loadA (i := 10) rfl rfl Try.isAgg124 Try.sizeOf124 (ch := enc (OverR.mk r23.1 s25 s27)) (Enc.len _) (Get.here _)) ?_
    refine Lst.run rfl rfl (by decide) (Ev.loadA (i := 19) rfl rfl Try.isAgg124 Try.sizeOf124 (ch := enc (OverR.mk Over.zero Sl.nil Sl.nil)) (Enc.len _) (Get.here _)) ?_
    obtain ⟨r231, h232, H⟩ := bind_some H
    refine Lst.call1 rfl rfl (by decide) (vs := [.agg (enc (OverR.mk r23.1 s25 s27)).toArray, .agg (enc (OverR.mk Over.zero Sl.nil Sl.nil)).toArray]) ⟨rfl, rfl, trivial⟩ Try.call79 (partref_SameOver_sim h232 w0 _ _ _ (List.Sublist.refl _) (Rd.own (i := 13) rfl rfl rfl) (Rd.own (i := 14) rfl rfl rfl) Rd.nil Rd.nil) ?_
    refine Lst.run rfl rfl (by decide) (Ev.move rfl) ?_
    obtain ⟨o235, H, HKo235⟩ := bind_some H
    refine Lst.join (σ := Bool) 3 (fun y236 => [(12, .pointer (some ⟨b9, 0, none⟩)), (19, .pointer (some ⟨b57, 0, none⟩)), (20, .int .i64 r47.2), (195, .bool y236)]) (fun y236 => (.blk b57 (enc (OverR.mk r47.1 s49 s51)) 124) :: (.own Sl.nil 209 3 (encs ([] : List Word))) :: (.own Sl.nil 135 3 (encs ([] : List Hand))) :: (.own s49 135 3 (encs r47.1.Hands)) :: (.own s51 209 3 (encs r47.1.Way)) :: (.blk b45 (enc (OverR.mk r35.1 s37 s39)) 124) :: (.own Sl.nil 209 3 (encs ([] : List Word))) :: (.own Sl.nil 135 3 (encs ([] : List Hand))) :: (.own s37 135 3 (encs r35.1.Hands)) :: (.own s39 209 3 (encs r35.1.Way)) :: (.blk b33 (enc (OverR.mk r23.1 s25 s27)) 124) :: (.own Sl.nil 209 3 (encs ([] : List Word))) :: (.own Sl.nil 135 3 (encs ([] : List Hand))) :: (.own s25 135 3 (encs r23.1.Hands)) :: (.own s27 209 3 (encs r23.1.Way)) :: (.blk b21 (enc (OverR.mk r11.1 s13 s15)) 124) :: (.own Sl.nil 209 3 (encs ([] : List Word))) :: (.own Sl.nil 135 3 (encs ([] : List Hand))) :: (.own s13 135 3 (encs r11.1.Hands)) :: (.blk b9 (enc (OverR.mk Over.zero Sl.nil Sl.nil)) 124) :: (.own Sl.nil 209 3 (encs ([] : List Word))) :: (.own Sl.nil 135 3 (encs ([] : List Hand))) :: (.blk b1 (enc (OverR.mk a0 s_a0_0 s_a0_1)) 124) :: L) (fun _ y236 => y236 = o235) ?_ ?_
    · rcases (Bool.eq_false_or_eq_true r231).symm with hb237 | hb237
      · replace H := ite_f hb237 H
        refine Lst.skip rfl rfl rfl hb237 rfl (by decide) ?_
        refine Lst.skip rfl rfl rfl hb237 rfl (by decide) ?_
        refine Lst.run rfl rfl (by decide) (Ev.pickF rfl hb237 rfl) ?_
        refine Lst.nil ?_
        exact At.meet false (FLe.refl _) ⟨rfl, rfl, rfl, rfl, trivial⟩ rfl (some_inj H)
      replace H := ite_t hb237 H
      refine Lst.runG rfl rfl rfl hb237 rfl (by decide) (Ev.move rfl) ?_
      refine Lst.runG rfl rfl rfl hb237 rfl (by decide) (Ev.eql rfl rfl) ?_
      refine Lst.run rfl rfl (by decide) (Ev.pickT rfl hb237 rfl) ?_
      refine Lst.nil ?_
      exact At.meet (r23.2 == (1 : Int)) (FLe.refl _) ⟨rfl, rfl, rfl, rfl, trivial⟩ rfl (some_inj H)
    rintro F238 y236 hF239 hy
    subst hy
    refine Lst.as (e' := [(12, .pointer (some ⟨b9, 0, none⟩)), (19, .pointer (some ⟨b57, 0, none⟩)), (20, .int .i64 r47.2), (195, .bool y236)]) (L' := (.blk b57 (enc (OverR.mk r47.1 s49 s51)) 124) :: (.own Sl.nil 209 3 (encs ([] : List Word))) :: (.own Sl.nil 135 3 (encs ([] : List Hand))) :: (.own s49 135 3 (encs r47.1.Hands)) :: (.own s51 209 3 (encs r47.1.Way)) :: (.blk b45 (enc (OverR.mk r35.1 s37 s39)) 124) :: (.own Sl.nil 209 3 (encs ([] : List Word))) :: (.own Sl.nil 135 3 (encs ([] : List Hand))) :: (.own s37 135 3 (encs r35.1.Hands)) :: (.own s39 209 3 (encs r35.1.Way)) :: (.blk b33 (enc (OverR.mk r23.1 s25 s27)) 124) :: (.own Sl.nil 209 3 (encs ([] : List Word))) :: (.own Sl.nil 135 3 (encs ([] : List Hand))) :: (.own s25 135 3 (encs r23.1.Hands)) :: (.own s27 209 3 (encs r23.1.Way)) :: (.blk b21 (enc (OverR.mk r11.1 s13 s15)) 124) :: (.own Sl.nil 209 3 (encs ([] : List Word))) :: (.own Sl.nil 135 3 (encs ([] : List Hand))) :: (.own s13 135 3 (encs r11.1.Hands)) :: (.blk b9 (enc (OverR.mk Over.zero Sl.nil Sl.nil)) 124) :: (.own Sl.nil 209 3 (encs ([] : List Word))) :: (.own Sl.nil 135 3 (encs ([] : List Hand))) :: (.blk b1 (enc (OverR.mk a0 s_a0_0 s_a0_1)) 124) :: L) ⟨rfl, rfl, rfl, rfl, trivial⟩ rfl ?_
    replace H := HKo235
    refine Lst.run rfl rfl (by decide) (Ev.move rfl) ?_
    obtain ⟨o240, H, HKo240⟩ := bind_some H
    refine Lst.join (σ := Bool) 4 (fun y241 => [(20, .int .i64 r47.2), (200, .bool y241)]) (fun y241 => (.blk b57 (enc (OverR.mk r47.1 s49 s51)) 124) :: (.own Sl.nil 209 3 (encs ([] : List Word))) :: (.own Sl.nil 135 3 (encs ([] : List Hand))) :: (.own s49 135 3 (encs r47.1.Hands)) :: (.own s51 209 3 (encs r47.1.Way)) :: (.blk b45 (enc (OverR.mk r35.1 s37 s39)) 124) :: (.own Sl.nil 209 3 (encs ([] : List Word))) :: (.own Sl.nil 135 3 (encs ([] : List Hand))) :: (.own s37 135 3 (encs r35.1.Hands)) :: (.own s39 209 3 (encs r35.1.Way)) :: (.blk b33 (enc (OverR.mk r23.1 s25 s27)) 124) :: (.own Sl.nil 209 3 (encs ([] : List Word))) :: (.own Sl.nil 135 3 (encs ([] : List Hand))) :: (.own s25 135 3 (encs r23.1.Hands)) :: (.own s27 209 3 (encs r23.1.Way)) :: (.blk b21 (enc (OverR.mk r11.1 s13 s15)) 124) :: (.own Sl.nil 209 3 (encs ([] : List Word))) :: (.own Sl.nil 135 3 (encs ([] : List Hand))) :: (.own s13 135 3 (encs r11.1.Hands)) :: (.blk b9 (enc (OverR.mk Over.zero Sl.nil Sl.nil)) 124) :: (.own Sl.nil 209 3 (encs ([] : List Word))) :: (.own Sl.nil 135 3 (encs ([] : List Hand))) :: (.blk b1 (enc (OverR.mk a0 s_a0_0 s_a0_1)) 124) :: L) (fun _ y241 => y241 = o240) ?_ ?_
    · rcases (Bool.eq_false_or_eq_true y236).symm with hb242 | hb242
      · replace H := ite_f hb242 H
        refine Lst.skip rfl rfl rfl hb242 rfl (by decide) ?_
        refine Lst.skip rfl rfl rfl hb242 rfl (by decide) ?_
        refine Lst.skip rfl rfl rfl hb242 rfl (by decide) ?_
        refine Lst.run rfl rfl (by decide) (Ev.pickF rfl hb242 rfl) ?_
        refine Lst.nil ?_
        exact At.meet false (FLe.refl _) ⟨rfl, rfl, trivial⟩ rfl (some_inj H)
      replace H := ite_t hb242 H
      refine Lst.runG rfl rfl rfl hb242 rfl (by decide) (Ev.loadA (i := 0) rfl rfl Try.isAgg124 Try.sizeOf124 (ch := enc (OverR.mk r47.1 s49 s51)) (Enc.len _) (Get.here _)) ?_
      refine Lst.runG rfl rfl rfl hb242 rfl (by decide) (Ev.loadA (i := 19) rfl rfl Try.isAgg124 Try.sizeOf124 (ch := enc (OverR.mk Over.zero Sl.nil Sl.nil)) (Enc.len _) (Get.here _)) ?_
      obtain ⟨r243, h244, H⟩ := bind_some H
      refine Lst.call1G rfl rfl rfl hb242 rfl (by decide) (vs := [.agg (enc (OverR.mk r47.1 s49 s51)).toArray, .agg (enc (OverR.mk Over.zero Sl.nil Sl.nil)).toArray]) ⟨rfl, rfl, trivial⟩ Try.call79 (partref_SameOver_sim h244 w0 _ _ _ (List.Sublist.refl _) (Rd.own (i := 3) rfl rfl rfl) (Rd.own (i := 4) rfl rfl rfl) Rd.nil Rd.nil) ?_
      refine Lst.run rfl rfl (by decide) (Ev.pickT rfl hb242 rfl) ?_
      refine Lst.nil ?_
      exact At.meet r243 (FLe.refl _) ⟨rfl, rfl, trivial⟩ rfl (some_inj H)
    rintro F247 y241 hF248 hy
    subst hy
    refine Lst.as (e' := [(20, .int .i64 r47.2), (200, .bool y241)]) (L' := (.blk b57 (enc (OverR.mk r47.1 s49 s51)) 124) :: (.own Sl.nil 209 3 (encs ([] : List Word))) :: (.own Sl.nil 135 3 (encs ([] : List Hand))) :: (.own s49 135 3 (encs r47.1.Hands)) :: (.own s51 209 3 (encs r47.1.Way)) :: (.blk b45 (enc (OverR.mk r35.1 s37 s39)) 124) :: (.own Sl.nil 209 3 (encs ([] : List Word))) :: (.own Sl.nil 135 3 (encs ([] : List Hand))) :: (.own s37 135 3 (encs r35.1.Hands)) :: (.own s39 209 3 (encs r35.1.Way)) :: (.blk b33 (enc (OverR.mk r23.1 s25 s27)) 124) :: (.own Sl.nil 209 3 (encs ([] : List Word))) :: (.own Sl.nil 135 3 (encs ([] : List Hand))) :: (.own s25 135 3 (encs r23.1.Hands)) :: (.own s27 209 3 (encs r23.1.Way)) :: (.blk b21 (enc (OverR.mk r11.1 s13 s15)) 124) :: (.own Sl.nil 209 3 (encs ([] : List Word))) :: (.own Sl.nil 135 3 (encs ([] : List Hand))) :: (.own s13 135 3 (encs r11.1.Hands)) :: (.blk b9 (enc (OverR.mk Over.zero Sl.nil Sl.nil)) 124) :: (.own Sl.nil 209 3 (encs ([] : List Word))) :: (.own Sl.nil 135 3 (encs ([] : List Hand))) :: (.blk b1 (enc (OverR.mk a0 s_a0_0 s_a0_1)) 124) :: L) ⟨rfl, rfl, trivial⟩ rfl ?_
    replace H := HKo240
    refine Lst.run rfl rfl (by decide) (Ev.move rfl) ?_
    obtain ⟨o249, H, HKo249⟩ := bind_some H
    refine Lst.join (σ := Bool) 3 (fun y250 => [(204, .bool y250)]) (fun y250 => (.blk b57 (enc (OverR.mk r47.1 s49 s51)) 124) :: (.own Sl.nil 209 3 (encs ([] : List Word))) :: (.own Sl.nil 135 3 (encs ([] : List Hand))) :: (.own s49 135 3 (encs r47.1.Hands)) :: (.own s51 209 3 (encs r47.1.Way)) :: (.blk b45 (enc (OverR.mk r35.1 s37 s39)) 124) :: (.own Sl.nil 209 3 (encs ([] : List Word))) :: (.own Sl.nil 135 3 (encs ([] : List Hand))) :: (.own s37 135 3 (encs r35.1.Hands)) :: (.own s39 209 3 (encs r35.1.Way)) :: (.blk b33 (enc (OverR.mk r23.1 s25 s27)) 124) :: (.own Sl.nil 209 3 (encs ([] : List Word))) :: (.own Sl.nil 135 3 (encs ([] : List Hand))) :: (.own s25 135 3 (encs r23.1.Hands)) :: (.own s27 209 3 (encs r23.1.Way)) :: (.blk b21 (enc (OverR.mk r11.1 s13 s15)) 124) :: (.own Sl.nil 209 3 (encs ([] : List Word))) :: (.own Sl.nil 135 3 (encs ([] : List Hand))) :: (.own s13 135 3 (encs r11.1.Hands)) :: (.blk b9 (enc (OverR.mk Over.zero Sl.nil Sl.nil)) 124) :: (.own Sl.nil 209 3 (encs ([] : List Word))) :: (.own Sl.nil 135 3 (encs ([] : List Hand))) :: (.blk b1 (enc (OverR.mk a0 s_a0_0 s_a0_1)) 124) :: L) (fun _ y250 => y250 = o249) ?_ ?_
    · rcases (Bool.eq_false_or_eq_true y241).symm with hb251 | hb251
      · replace H := ite_f hb251 H
        refine Lst.skip rfl rfl rfl hb251 rfl (by decide) ?_
        refine Lst.skip rfl rfl rfl hb251 rfl (by decide) ?_
        refine Lst.run rfl rfl (by decide) (Ev.pickF rfl hb251 rfl) ?_
        refine Lst.nil ?_
        exact At.meet false (FLe.refl _) ⟨rfl, trivial⟩ rfl (some_inj H)
      replace H := ite_t hb251 H
      refine Lst.runG rfl rfl rfl hb251 rfl (by decide) (Ev.move rfl) ?_
      refine Lst.runG rfl rfl rfl hb251 rfl (by decide) (Ev.eql rfl rfl) ?_
      refine Lst.run rfl rfl (by decide) (Ev.pickT rfl hb251 rfl) ?_
      refine Lst.nil ?_
      exact At.meet (r47.2 == (1 : Int)) (FLe.refl _) ⟨rfl, trivial⟩ rfl (some_inj H)
    rintro F252 y250 hF253 hy
    subst hy
    refine Lst.as (e' := [(204, .bool y250)]) (L' := (.blk b57 (enc (OverR.mk r47.1 s49 s51)) 124) :: (.own Sl.nil 209 3 (encs ([] : List Word))) :: (.own Sl.nil 135 3 (encs ([] : List Hand))) :: (.own s49 135 3 (encs r47.1.Hands)) :: (.own s51 209 3 (encs r47.1.Way)) :: (.blk b45 (enc (OverR.mk r35.1 s37 s39)) 124) :: (.own Sl.nil 209 3 (encs ([] : List Word))) :: (.own Sl.nil 135 3 (encs ([] : List Hand))) :: (.own s37 135 3 (encs r35.1.Hands)) :: (.own s39 209 3 (encs r35.1.Way)) :: (.blk b33 (enc (OverR.mk r23.1 s25 s27)) 124) :: (.own Sl.nil 209 3 (encs ([] : List Word))) :: (.own Sl.nil 135 3 (encs ([] : List Hand))) :: (.own s25 135 3 (encs r23.1.Hands)) :: (.own s27 209 3 (encs r23.1.Way)) :: (.blk b21 (enc (OverR.mk r11.1 s13 s15)) 124) :: (.own Sl.nil 209 3 (encs ([] : List Word))) :: (.own Sl.nil 135 3 (encs ([] : List Hand))) :: (.own s13 135 3 (encs r11.1.Hands)) :: (.blk b9 (enc (OverR.mk Over.zero Sl.nil Sl.nil)) 124) :: (.own Sl.nil 209 3 (encs ([] : List Word))) :: (.own Sl.nil 135 3 (encs ([] : List Hand))) :: (.blk b1 (enc (OverR.mk a0 s_a0_0 s_a0_1)) 124) :: L) ⟨rfl, trivial⟩ rfl ?_
    replace H := HKo249
    refine Lst.run rfl rfl (by decide) (Ev.assign rfl) ?_
    refine Lst.nil ?_
    refine At.then ?_
    obtain rfl := some_inj H
    refine Cd.ret ?_
    refine At.then_ret ?_
    exact At.ret1 rfl (Res.tmp rfl) (FLe.trans (FLe.trans (FLe.trans (FLe.trans (FLe.trans (FLe.trans (FLe.trans (FLe.trans (FLe.trans (FLe.trans (FLe.trans hF18 hF30) hF42) hF54) hF104) hF168) hF173) hF224) hF229) hF239) hF248) hF253) (List.Sublist.cons _ (List.Sublist.cons _ (List.Sublist.cons _ (List.Sublist.cons _ (List.Sublist.cons _ (List.Sublist.cons _ (List.Sublist.cons _ (List.Sublist.cons _ (List.Sublist.cons _ (List.Sublist.cons _ (List.Sublist.cons _ (List.Sublist.cons _ (List.Sublist.cons _ (List.Sublist.cons _ (List.Sublist.cons _ (List.Sublist.cons _ (List.Sublist.cons _ (List.Sublist.cons _ (List.Sublist.cons _ (List.Sublist.cons _ (List.Sublist.cons _ (List.Sublist.cons _ (List.Sublist.cons _ (List.Sublist.refl _)))))))))))))))))))))))) ⟨rfl, rfl⟩
  replace H := ite_f hb230 H
  refine Cd.condF rfl hb230 ?_
  refine Cd.skip ?_
  refine At.then ?_
  refine Cd.seq ?_
  refine Cd.region ?_
  refine Lst.run rfl rfl (by decide) (Ev.loadA (i := 22) rfl rfl Try.isAgg124 Try.sizeOf124 (ch := enc (OverR.mk a0 s_a0_0 s_a0_1)) (Enc.len _) (Get.here _)) ?_
  refine Lst.run rfl rfl (by decide) (Ev.move rfl) ?_
  obtain ⟨r254, h255, H⟩ := bind_some H
  refine Lst.call rfl rfl (by decide) (vs := [.agg (enc (OverR.mk a0 s_a0_0 s_a0_1)).toArray, .int .i64 a2]) ⟨rfl, rfl, trivial⟩ Try.call83 (partref_OverRest_sim h255 w0 _ M _ (List.Sublist.cons _ (List.Sublist.cons _ (List.Sublist.cons _ (List.Sublist.cons _ (List.Sublist.cons _ (List.Sublist.cons _ (List.Sublist.cons _ (List.Sublist.cons _ (List.Sublist.cons _ (List.Sublist.cons _ (List.Sublist.cons _ (List.Sublist.cons _ (List.Sublist.cons _ (List.Sublist.cons _ (List.Sublist.cons _ (List.Sublist.cons _ (List.Sublist.cons _ (List.Sublist.cons _ (List.Sublist.cons _ (List.Sublist.cons _ (List.Sublist.cons _ (List.Sublist.cons _ (List.Sublist.cons _ hM))))))))))))))))))))))) (hs_a0_0.mono (FLe.trans (FLe.trans (FLe.trans (FLe.trans (FLe.trans (FLe.trans (FLe.trans (FLe.trans hF18 hF30) hF42) hF54) hF104) hF168) hF173) hF224) hF229) (List.Sublist.refl _)) (hs_a0_1.mono (FLe.trans (FLe.trans (FLe.trans (FLe.trans (FLe.trans (FLe.trans (FLe.trans (FLe.trans hF18 hF30) hF42) hF54) hF104) hF168) hF173) hF224) hF229) (List.Sublist.refl _))) (fun F260 L' v hF261 hv => ?_)
  obtain ⟨s256, s258, rfl, rfl⟩ := hv
  refine Lst.run rfl rfl (by decide) (Ev.move rfl) ?_
  refine Lst.run rfl rfl (by decide) (Ev.extract rfl rfl) ?_
  refine Lst.run rfl rfl (by decide) (Ev.extract rfl rfl) ?_
  refine Lst.addNil 135 3 ?_
  refine Lst.addNil 209 3 ?_
  refine Lst.alloc (cs := enc (OverR.mk ({ Over.zero with Hands := ([] : List Hand), Way := ([] : List Word) } : Over) Sl.nil Sl.nil)) rfl rfl (by decide) Try.zeroValue124 rfl (fun b264 => ?_)
  refine Lst.store (i := 0) rfl rfl rfl rfl rfl Try.sizeOf124 (vs := enc (OverR.mk r254.1 s256 s258)) rfl (Enc.len _) (Enc.one _) (cs' := enc (OverR.mk r254.1 s256 s258)) (Put.here ((Enc.len _).trans (Enc.len _).symm)) (L' := (.blk b264 (enc (OverR.mk r254.1 s256 s258)) 124) :: (.own Sl.nil 209 3 (encs ([] : List Word))) :: (.own Sl.nil 135 3 (encs ([] : List Hand))) :: (.own s256 135 3 (encs r254.1.Hands)) :: (.own s258 209 3 (encs r254.1.Way)) :: (.blk b57 (enc (OverR.mk r47.1 s49 s51)) 124) :: (.own Sl.nil 209 3 (encs ([] : List Word))) :: (.own Sl.nil 135 3 (encs ([] : List Hand))) :: (.own s49 135 3 (encs r47.1.Hands)) :: (.own s51 209 3 (encs r47.1.Way)) :: (.blk b45 (enc (OverR.mk r35.1 s37 s39)) 124) :: (.own Sl.nil 209 3 (encs ([] : List Word))) :: (.own Sl.nil 135 3 (encs ([] : List Hand))) :: (.own s37 135 3 (encs r35.1.Hands)) :: (.own s39 209 3 (encs r35.1.Way)) :: (.blk b33 (enc (OverR.mk r23.1 s25 s27)) 124) :: (.own Sl.nil 209 3 (encs ([] : List Word))) :: (.own Sl.nil 135 3 (encs ([] : List Hand))) :: (.own s25 135 3 (encs r23.1.Hands)) :: (.own s27 209 3 (encs r23.1.Way)) :: (.blk b21 (enc (OverR.mk r11.1 s13 s15)) 124) :: (.own Sl.nil 209 3 (encs ([] : List Word))) :: (.own Sl.nil 135 3 (encs ([] : List Hand))) :: (.own s13 135 3 (encs r11.1.Hands)) :: (.blk b9 (enc (OverR.mk Over.zero Sl.nil Sl.nil)) 124) :: (.own Sl.nil 209 3 (encs ([] : List Word))) :: (.own Sl.nil 135 3 (encs ([] : List Hand))) :: (.blk b1 (enc (OverR.mk a0 s_a0_0 s_a0_1)) 124) :: L) rfl ?_
  refine Lst.run rfl rfl (by decide) (Ev.assign rfl) ?_
  refine Lst.nil ?_
  refine At.then ?_
  refine Cd.seq ?_
  refine Cd.seq ?_
  refine Cd.region ?_
  refine Lst.run rfl rfl (by decide) (Ev.loadA (i := 5) rfl rfl Try.isAgg124 Try.sizeOf124 (ch := enc (OverR.mk r47.1 s49 s51)) (Enc.len _) (Get.here _)) ?_
  refine Lst.run rfl rfl (by decide) (Ev.loadA (i := 0) rfl rfl Try.isAgg124 Try.sizeOf124 (ch := enc (OverR.mk r254.1 s256 s258)) (Enc.len _) (Get.here _)) ?_
  obtain ⟨r266, h267, H⟩ := bind_some H
  refine Lst.call1 rfl rfl (by decide) (vs := [.agg (enc (OverR.mk r47.1 s49 s51)).toArray, .agg (enc (OverR.mk r254.1 s256 s258)).toArray]) ⟨rfl, rfl, trivial⟩ Try.call79 (partref_SameOver_sim h267 w0 _ _ _ (List.Sublist.refl _) (Rd.own (i := 8) rfl rfl rfl) (Rd.own (i := 9) rfl rfl rfl) (Rd.own (i := 3) rfl rfl rfl) (Rd.own (i := 4) rfl rfl rfl)) ?_
  refine Lst.run rfl rfl (by decide) (Ev.not rfl) ?_
  refine Lst.run rfl rfl (by decide) (Ev.move rfl) ?_
  obtain ⟨o270, H, HKo270⟩ := bind_some H
  refine Lst.join (σ := Bool) 4 (fun y271 => [(2, .int .i64 a2), (3, .int .i64 a3), (5, .pointer (some ⟨b1, 0, none⟩)), (12, .pointer (some ⟨b9, 0, none⟩)), (15, .pointer (some ⟨b33, 0, none⟩)), (16, .int .i64 r23.2), (219, .bool y271)]) (fun y271 => (.blk b264 (enc (OverR.mk r254.1 s256 s258)) 124) :: (.own Sl.nil 209 3 (encs ([] : List Word))) :: (.own Sl.nil 135 3 (encs ([] : List Hand))) :: (.own s256 135 3 (encs r254.1.Hands)) :: (.own s258 209 3 (encs r254.1.Way)) :: (.blk b57 (enc (OverR.mk r47.1 s49 s51)) 124) :: (.own Sl.nil 209 3 (encs ([] : List Word))) :: (.own Sl.nil 135 3 (encs ([] : List Hand))) :: (.own s49 135 3 (encs r47.1.Hands)) :: (.own s51 209 3 (encs r47.1.Way)) :: (.blk b45 (enc (OverR.mk r35.1 s37 s39)) 124) :: (.own Sl.nil 209 3 (encs ([] : List Word))) :: (.own Sl.nil 135 3 (encs ([] : List Hand))) :: (.own s37 135 3 (encs r35.1.Hands)) :: (.own s39 209 3 (encs r35.1.Way)) :: (.blk b33 (enc (OverR.mk r23.1 s25 s27)) 124) :: (.own Sl.nil 209 3 (encs ([] : List Word))) :: (.own Sl.nil 135 3 (encs ([] : List Hand))) :: (.own s25 135 3 (encs r23.1.Hands)) :: (.own s27 209 3 (encs r23.1.Way)) :: (.blk b21 (enc (OverR.mk r11.1 s13 s15)) 124) :: (.own Sl.nil 209 3 (encs ([] : List Word))) :: (.own Sl.nil 135 3 (encs ([] : List Hand))) :: (.own s13 135 3 (encs r11.1.Hands)) :: (.blk b9 (enc (OverR.mk Over.zero Sl.nil Sl.nil)) 124) :: (.own Sl.nil 209 3 (encs ([] : List Word))) :: (.own Sl.nil 135 3 (encs ([] : List Hand))) :: (.blk b1 (enc (OverR.mk a0 s_a0_0 s_a0_1)) 124) :: L) (fun _ y271 => y271 = o270) ?_ ?_
  · rcases Bool.eq_false_or_eq_true (!r266) with hb272 | hb272
    · replace H := ite_t hb272 H
      refine Lst.skip rfl rfl rfl hb272 rfl (by decide) ?_
      refine Lst.skip rfl rfl rfl hb272 rfl (by decide) ?_
      refine Lst.skip rfl rfl rfl hb272 rfl (by decide) ?_
      refine Lst.run rfl rfl (by decide) (Ev.pickT rfl hb272 rfl) ?_
      refine Lst.nil ?_
      exact At.meet true (FLe.refl _) ⟨rfl, rfl, rfl, rfl, rfl, rfl, rfl, trivial⟩ rfl (some_inj H)
    replace H := ite_f hb272 H
    refine Lst.runG rfl rfl rfl hb272 rfl (by decide) (Ev.move rfl) ?_
    refine Lst.runG rfl rfl rfl hb272 rfl (by decide) (Ev.move rfl) ?_
    refine Lst.runG rfl rfl rfl hb272 rfl (by decide) (Ev.neq rfl rfl) ?_
    refine Lst.run rfl rfl (by decide) (Ev.pickF rfl hb272 rfl) ?_
    refine Lst.nil ?_
    exact At.meet (r47.2 != r254.2) (FLe.refl _) ⟨rfl, rfl, rfl, rfl, rfl, rfl, rfl, trivial⟩ rfl (some_inj H)
  rintro F273 y271 hF274 hy
  subst hy
  refine Lst.as (e' := [(2, .int .i64 a2), (3, .int .i64 a3), (5, .pointer (some ⟨b1, 0, none⟩)), (12, .pointer (some ⟨b9, 0, none⟩)), (15, .pointer (some ⟨b33, 0, none⟩)), (16, .int .i64 r23.2), (219, .bool y271)]) (L' := (.blk b264 (enc (OverR.mk r254.1 s256 s258)) 124) :: (.own Sl.nil 209 3 (encs ([] : List Word))) :: (.own Sl.nil 135 3 (encs ([] : List Hand))) :: (.own s256 135 3 (encs r254.1.Hands)) :: (.own s258 209 3 (encs r254.1.Way)) :: (.blk b57 (enc (OverR.mk r47.1 s49 s51)) 124) :: (.own Sl.nil 209 3 (encs ([] : List Word))) :: (.own Sl.nil 135 3 (encs ([] : List Hand))) :: (.own s49 135 3 (encs r47.1.Hands)) :: (.own s51 209 3 (encs r47.1.Way)) :: (.blk b45 (enc (OverR.mk r35.1 s37 s39)) 124) :: (.own Sl.nil 209 3 (encs ([] : List Word))) :: (.own Sl.nil 135 3 (encs ([] : List Hand))) :: (.own s37 135 3 (encs r35.1.Hands)) :: (.own s39 209 3 (encs r35.1.Way)) :: (.blk b33 (enc (OverR.mk r23.1 s25 s27)) 124) :: (.own Sl.nil 209 3 (encs ([] : List Word))) :: (.own Sl.nil 135 3 (encs ([] : List Hand))) :: (.own s25 135 3 (encs r23.1.Hands)) :: (.own s27 209 3 (encs r23.1.Way)) :: (.blk b21 (enc (OverR.mk r11.1 s13 s15)) 124) :: (.own Sl.nil 209 3 (encs ([] : List Word))) :: (.own Sl.nil 135 3 (encs ([] : List Hand))) :: (.own s13 135 3 (encs r11.1.Hands)) :: (.blk b9 (enc (OverR.mk Over.zero Sl.nil Sl.nil)) 124) :: (.own Sl.nil 209 3 (encs ([] : List Word))) :: (.own Sl.nil 135 3 (encs ([] : List Hand))) :: (.blk b1 (enc (OverR.mk a0 s_a0_0 s_a0_1)) 124) :: L) ⟨rfl, rfl, rfl, rfl, rfl, rfl, rfl, trivial⟩ rfl ?_
  replace H := HKo270
  refine Lst.nil ?_
  refine At.then ?_
  rcases Bool.eq_false_or_eq_true y271 with hb275 | hb275
  · replace H := ite_t hb275 H
    refine Cd.condT rfl hb275 ?_
    refine Cd.seq ?_
    refine Cd.region ?_
    refine Lst.run rfl rfl (by decide) (Ev.assign rfl) ?_
    refine Lst.nil ?_
    refine At.then ?_
    obtain rfl := some_inj H
    refine Cd.ret ?_
    refine At.then_ret ?_
    exact At.ret1 rfl (Res.tmp rfl) (FLe.trans (FLe.trans (FLe.trans (FLe.trans (FLe.trans (FLe.trans (FLe.trans (FLe.trans (FLe.trans (FLe.trans hF18 hF30) hF42) hF54) hF104) hF168) hF173) hF224) hF229) hF261) hF274) (List.Sublist.cons _ (List.Sublist.cons _ (List.Sublist.cons _ (List.Sublist.cons _ (List.Sublist.cons _ (List.Sublist.cons _ (List.Sublist.cons _ (List.Sublist.cons _ (List.Sublist.cons _ (List.Sublist.cons _ (List.Sublist.cons _ (List.Sublist.cons _ (List.Sublist.cons _ (List.Sublist.cons _ (List.Sublist.cons _ (List.Sublist.cons _ (List.Sublist.cons _ (List.Sublist.cons _ (List.Sublist.cons _ (List.Sublist.cons _ (List.Sublist.cons _ (List.Sublist.cons _ (List.Sublist.cons _ (List.Sublist.cons _ (List.Sublist.cons _ (List.Sublist.cons _ (List.Sublist.cons _ (List.Sublist.cons _ (List.Sublist.refl _))))))))))))))))))))))))))))) ⟨rfl, rfl⟩
  replace H := ite_f hb275 H
  refine Cd.condF rfl hb275 ?_
  refine Cd.skip ?_
  refine At.then ?_
  refine Cd.seq ?_
  refine Cd.seq ?_
  refine Cd.region ?_
  refine Lst.run rfl rfl (by decide) (Ev.move rfl) ?_
  refine Lst.run rfl rfl (by decide) (Ev.lss rfl rfl) ?_
  refine Lst.run rfl rfl (by decide) (Ev.move rfl) ?_
  obtain ⟨o276, H, HKo276⟩ := bind_some H
  refine Lst.join (σ := Bool) 6 (fun y277 => [(2, .int .i64 a2), (3, .int .i64 a3), (5, .pointer (some ⟨b1, 0, none⟩)), (12, .pointer (some ⟨b9, 0, none⟩)), (15, .pointer (some ⟨b33, 0, none⟩)), (16, .int .i64 r23.2), (228, .bool y277)]) (fun y277 => (.blk b264 (enc (OverR.mk r254.1 s256 s258)) 124) :: (.own Sl.nil 209 3 (encs ([] : List Word))) :: (.own Sl.nil 135 3 (encs ([] : List Hand))) :: (.own s256 135 3 (encs r254.1.Hands)) :: (.own s258 209 3 (encs r254.1.Way)) :: (.blk b57 (enc (OverR.mk r47.1 s49 s51)) 124) :: (.own Sl.nil 209 3 (encs ([] : List Word))) :: (.own Sl.nil 135 3 (encs ([] : List Hand))) :: (.own s49 135 3 (encs r47.1.Hands)) :: (.own s51 209 3 (encs r47.1.Way)) :: (.blk b45 (enc (OverR.mk r35.1 s37 s39)) 124) :: (.own Sl.nil 209 3 (encs ([] : List Word))) :: (.own Sl.nil 135 3 (encs ([] : List Hand))) :: (.own s37 135 3 (encs r35.1.Hands)) :: (.own s39 209 3 (encs r35.1.Way)) :: (.blk b33 (enc (OverR.mk r23.1 s25 s27)) 124) :: (.own Sl.nil 209 3 (encs ([] : List Word))) :: (.own Sl.nil 135 3 (encs ([] : List Hand))) :: (.own s25 135 3 (encs r23.1.Hands)) :: (.own s27 209 3 (encs r23.1.Way)) :: (.blk b21 (enc (OverR.mk r11.1 s13 s15)) 124) :: (.own Sl.nil 209 3 (encs ([] : List Word))) :: (.own Sl.nil 135 3 (encs ([] : List Hand))) :: (.own s13 135 3 (encs r11.1.Hands)) :: (.blk b9 (enc (OverR.mk Over.zero Sl.nil Sl.nil)) 124) :: (.own Sl.nil 209 3 (encs ([] : List Word))) :: (.own Sl.nil 135 3 (encs ([] : List Hand))) :: (.blk b1 (enc (OverR.mk a0 s_a0_0 s_a0_1)) 124) :: L) (fun _ y277 => y277 = o276) ?_ ?_
  · rcases Bool.eq_false_or_eq_true (decide (a3 < (0 : Int))) with hb278 | hb278
    · replace H := ite_t hb278 H
      refine Lst.skip rfl rfl rfl hb278 rfl (by decide) ?_
      refine Lst.skip rfl rfl rfl hb278 rfl (by decide) ?_
      refine Lst.skip rfl rfl rfl hb278 rfl (by decide) ?_
      refine Lst.skip rfl rfl rfl hb278 rfl (by decide) ?_
      refine Lst.skip rfl rfl rfl hb278 rfl (by decide) ?_
      refine Lst.run rfl rfl (by decide) (Ev.pickT rfl hb278 rfl) ?_
      refine Lst.nil ?_
      exact At.meet true (FLe.refl _) ⟨rfl, rfl, rfl, rfl, rfl, rfl, rfl, trivial⟩ rfl (some_inj H)
    replace H := ite_f hb278 H
    refine Lst.runG rfl rfl rfl hb278 rfl (by decide) (Ev.move rfl) ?_
    refine Lst.runG rfl rfl rfl hb278 rfl (by decide) (Ev.fieldAddr (off' := 0) rfl Try.runUnderlying124 rfl Try.sizeOf122 rfl rfl) ?_
    refine Lst.runG rfl rfl rfl hb278 rfl (by decide) (Ev.load (i := 27) rfl rfl Try.isAgg122 (v := Sl.v s_a0_0) ((OverR.get_Hands (Get.here _)).off (by rfl))) ?_
    refine Lst.runG rfl rfl rfl hb278 rfl (by decide) (Ev.lenS (α := Hand) (xs := a0.Hands) (by decide) rfl rfl Try.runUnderlying122 (hs_a0_0.mono (FLe.trans (FLe.trans (FLe.trans (FLe.trans (FLe.trans (FLe.trans (FLe.trans (FLe.trans (FLe.trans (FLe.trans hF18 hF30) hF42) hF54) hF104) hF168) hF173) hF224) hF229) hF261) hF274) (List.Sublist.cons _ (List.Sublist.cons _ (List.Sublist.cons _ (List.Sublist.cons _ (List.Sublist.cons _ (List.Sublist.cons _ (List.Sublist.cons _ (List.Sublist.cons _ (List.Sublist.cons _ (List.Sublist.cons _ (List.Sublist.cons _ (List.Sublist.cons _ (List.Sublist.cons _ (List.Sublist.cons _ (List.Sublist.cons _ (List.Sublist.cons _ (List.Sublist.cons _ (List.Sublist.cons _ (List.Sublist.cons _ (List.Sublist.cons _ (List.Sublist.cons _ (List.Sublist.cons _ (List.Sublist.cons _ (List.Sublist.cons _ (List.Sublist.cons _ (List.Sublist.cons _ (List.Sublist.cons _ (List.Sublist.cons _ hM)))))))))))))))))))))))))))))) ?_
    refine Lst.runG rfl rfl rfl hb278 rfl (by decide) (Ev.geq rfl rfl) ?_
    refine Lst.run rfl rfl (by decide) (Ev.pickF rfl hb278 rfl) ?_
    refine Lst.nil ?_
    exact At.meet (decide (a3 ≥ (a0.Hands.length : Int))) (FLe.refl _) ⟨rfl, rfl, rfl, rfl, rfl, rfl, rfl, trivial⟩ rfl (some_inj H)
  rintro F279 y277 hF280 hy
  subst hy
  refine Lst.as (e' := [(2, .int .i64 a2), (3, .int .i64 a3), (5, .pointer (some ⟨b1, 0, none⟩)), (12, .pointer (some ⟨b9, 0, none⟩)), (15, .pointer (some ⟨b33, 0, none⟩)), (16, .int .i64 r23.2), (228, .bool y277)]) (L' := (.blk b264 (enc (OverR.mk r254.1 s256 s258)) 124) :: (.own Sl.nil 209 3 (encs ([] : List Word))) :: (.own Sl.nil 135 3 (encs ([] : List Hand))) :: (.own s256 135 3 (encs r254.1.Hands)) :: (.own s258 209 3 (encs r254.1.Way)) :: (.blk b57 (enc (OverR.mk r47.1 s49 s51)) 124) :: (.own Sl.nil 209 3 (encs ([] : List Word))) :: (.own Sl.nil 135 3 (encs ([] : List Hand))) :: (.own s49 135 3 (encs r47.1.Hands)) :: (.own s51 209 3 (encs r47.1.Way)) :: (.blk b45 (enc (OverR.mk r35.1 s37 s39)) 124) :: (.own Sl.nil 209 3 (encs ([] : List Word))) :: (.own Sl.nil 135 3 (encs ([] : List Hand))) :: (.own s37 135 3 (encs r35.1.Hands)) :: (.own s39 209 3 (encs r35.1.Way)) :: (.blk b33 (enc (OverR.mk r23.1 s25 s27)) 124) :: (.own Sl.nil 209 3 (encs ([] : List Word))) :: (.own Sl.nil 135 3 (encs ([] : List Hand))) :: (.own s25 135 3 (encs r23.1.Hands)) :: (.own s27 209 3 (encs r23.1.Way)) :: (.blk b21 (enc (OverR.mk r11.1 s13 s15)) 124) :: (.own Sl.nil 209 3 (encs ([] : List Word))) :: (.own Sl.nil 135 3 (encs ([] : List Hand))) :: (.own s13 135 3 (encs r11.1.Hands)) :: (.blk b9 (enc (OverR.mk Over.zero Sl.nil Sl.nil)) 124) :: (.own Sl.nil 209 3 (encs ([] : List Word))) :: (.own Sl.nil 135 3 (encs ([] : List Hand))) :: (.blk b1 (enc (OverR.mk a0 s_a0_0 s_a0_1)) 124) :: L) ⟨rfl, rfl, rfl, rfl, rfl, rfl, rfl, trivial⟩ rfl ?_
  replace H := HKo276
  refine Lst.run rfl rfl (by decide) (Ev.move rfl) ?_
  obtain ⟨o281, H, HKo281⟩ := bind_some H
  refine Lst.join (σ := Bool) 4 (fun y282 => [(2, .int .i64 a2), (3, .int .i64 a3), (5, .pointer (some ⟨b1, 0, none⟩)), (12, .pointer (some ⟨b9, 0, none⟩)), (15, .pointer (some ⟨b33, 0, none⟩)), (16, .int .i64 r23.2), (233, .bool y282)]) (fun y282 => (.blk b264 (enc (OverR.mk r254.1 s256 s258)) 124) :: (.own Sl.nil 209 3 (encs ([] : List Word))) :: (.own Sl.nil 135 3 (encs ([] : List Hand))) :: (.own s256 135 3 (encs r254.1.Hands)) :: (.own s258 209 3 (encs r254.1.Way)) :: (.blk b57 (enc (OverR.mk r47.1 s49 s51)) 124) :: (.own Sl.nil 209 3 (encs ([] : List Word))) :: (.own Sl.nil 135 3 (encs ([] : List Hand))) :: (.own s49 135 3 (encs r47.1.Hands)) :: (.own s51 209 3 (encs r47.1.Way)) :: (.blk b45 (enc (OverR.mk r35.1 s37 s39)) 124) :: (.own Sl.nil 209 3 (encs ([] : List Word))) :: (.own Sl.nil 135 3 (encs ([] : List Hand))) :: (.own s37 135 3 (encs r35.1.Hands)) :: (.own s39 209 3 (encs r35.1.Way)) :: (.blk b33 (enc (OverR.mk r23.1 s25 s27)) 124) :: (.own Sl.nil 209 3 (encs ([] : List Word))) :: (.own Sl.nil 135 3 (encs ([] : List Hand))) :: (.own s25 135 3 (encs r23.1.Hands)) :: (.own s27 209 3 (encs r23.1.Way)) :: (.blk b21 (enc (OverR.mk r11.1 s13 s15)) 124) :: (.own Sl.nil 209 3 (encs ([] : List Word))) :: (.own Sl.nil 135 3 (encs ([] : List Hand))) :: (.own s13 135 3 (encs r11.1.Hands)) :: (.blk b9 (enc (OverR.mk Over.zero Sl.nil Sl.nil)) 124) :: (.own Sl.nil 209 3 (encs ([] : List Word))) :: (.own Sl.nil 135 3 (encs ([] : List Hand))) :: (.blk b1 (enc (OverR.mk a0 s_a0_0 s_a0_1)) 124) :: L) (fun _ y282 => y282 = o281) ?_ ?_
  · rcases Bool.eq_false_or_eq_true y277 with hb283 | hb283
    · replace H := ite_t hb283 H
      refine Lst.skip rfl rfl rfl hb283 rfl (by decide) ?_
      refine Lst.skip rfl rfl rfl hb283 rfl (by decide) ?_
      refine Lst.skip rfl rfl rfl hb283 rfl (by decide) ?_
      refine Lst.run rfl rfl (by decide) (Ev.pickT rfl hb283 rfl) ?_
      refine Lst.nil ?_
      exact At.meet true (FLe.refl _) ⟨rfl, rfl, rfl, rfl, rfl, rfl, rfl, trivial⟩ rfl (some_inj H)
    replace H := ite_f hb283 H
    refine Lst.runG rfl rfl rfl hb283 rfl (by decide) (Ev.move rfl) ?_
    refine Lst.runG rfl rfl rfl hb283 rfl (by decide) (Ev.move rfl) ?_
    refine Lst.runG rfl rfl rfl hb283 rfl (by decide) (Ev.eql rfl rfl) ?_
    refine Lst.run rfl rfl (by decide) (Ev.pickF rfl hb283 rfl) ?_
    refine Lst.nil ?_
    exact At.meet (a2 == a3) (FLe.refl _) ⟨rfl, rfl, rfl, rfl, rfl, rfl, rfl, trivial⟩ rfl (some_inj H)
  rintro F284 y282 hF285 hy
  subst hy
  refine Lst.as (e' := [(2, .int .i64 a2), (3, .int .i64 a3), (5, .pointer (some ⟨b1, 0, none⟩)), (12, .pointer (some ⟨b9, 0, none⟩)), (15, .pointer (some ⟨b33, 0, none⟩)), (16, .int .i64 r23.2), (233, .bool y282)]) (L' := (.blk b264 (enc (OverR.mk r254.1 s256 s258)) 124) :: (.own Sl.nil 209 3 (encs ([] : List Word))) :: (.own Sl.nil 135 3 (encs ([] : List Hand))) :: (.own s256 135 3 (encs r254.1.Hands)) :: (.own s258 209 3 (encs r254.1.Way)) :: (.blk b57 (enc (OverR.mk r47.1 s49 s51)) 124) :: (.own Sl.nil 209 3 (encs ([] : List Word))) :: (.own Sl.nil 135 3 (encs ([] : List Hand))) :: (.own s49 135 3 (encs r47.1.Hands)) :: (.own s51 209 3 (encs r47.1.Way)) :: (.blk b45 (enc (OverR.mk r35.1 s37 s39)) 124) :: (.own Sl.nil 209 3 (encs ([] : List Word))) :: (.own Sl.nil 135 3 (encs ([] : List Hand))) :: (.own s37 135 3 (encs r35.1.Hands)) :: (.own s39 209 3 (encs r35.1.Way)) :: (.blk b33 (enc (OverR.mk r23.1 s25 s27)) 124) :: (.own Sl.nil 209 3 (encs ([] : List Word))) :: (.own Sl.nil 135 3 (encs ([] : List Hand))) :: (.own s25 135 3 (encs r23.1.Hands)) :: (.own s27 209 3 (encs r23.1.Way)) :: (.blk b21 (enc (OverR.mk r11.1 s13 s15)) 124) :: (.own Sl.nil 209 3 (encs ([] : List Word))) :: (.own Sl.nil 135 3 (encs ([] : List Hand))) :: (.own s13 135 3 (encs r11.1.Hands)) :: (.blk b9 (enc (OverR.mk Over.zero Sl.nil Sl.nil)) 124) :: (.own Sl.nil 209 3 (encs ([] : List Word))) :: (.own Sl.nil 135 3 (encs ([] : List Hand))) :: (.blk b1 (enc (OverR.mk a0 s_a0_0 s_a0_1)) 124) :: L) ⟨rfl, rfl, rfl, rfl, rfl, rfl, rfl, trivial⟩ rfl ?_
  replace H := HKo281
  refine Lst.nil ?_
  refine At.then ?_
  rcases Bool.eq_false_or_eq_true y282 with hb286 | hb286
  · replace H := ite_t hb286 H
    refine Cd.condT rfl hb286 ?_
    refine Cd.seq ?_
    refine Cd.region ?_
    refine Lst.run rfl rfl (by decide) (Ev.loadA (i := 15) rfl rfl Try.isAgg124 Try.sizeOf124 (ch := enc (OverR.mk r23.1 s25 s27)) (Enc.len _) (Get.here _)) ?_
    refine Lst.run rfl rfl (by decide) (Ev.loadA (i := 24) rfl rfl Try.isAgg124 Try.sizeOf124 (ch := enc (OverR.mk Over.zero Sl.nil Sl.nil)) (Enc.len _) (Get.here _)) ?_
    obtain ⟨r287, h288, H⟩ := bind_some H
    refine Lst.call1 rfl rfl (by decide) (vs := [.agg (enc (OverR.mk r23.1 s25 s27)).toArray, .agg (enc (OverR.mk Over.zero Sl.nil Sl.nil)).toArray]) ⟨rfl, rfl, trivial⟩ Try.call79 (partref_SameOver_sim h288 w0 _ _ _ (List.Sublist.refl _) (Rd.own (i := 18) rfl rfl rfl) (Rd.own (i := 19) rfl rfl rfl) Rd.nil Rd.nil) ?_
    refine Lst.run rfl rfl (by decide) (Ev.move rfl) ?_
    obtain ⟨o291, H, HKo291⟩ := bind_some H
    refine Lst.join (σ := Bool) 3 (fun y292 => [(240, .bool y292)]) (fun y292 => (.blk b264 (enc (OverR.mk r254.1 s256 s258)) 124) :: (.own Sl.nil 209 3 (encs ([] : List Word))) :: (.own Sl.nil 135 3 (encs ([] : List Hand))) :: (.own s256 135 3 (encs r254.1.Hands)) :: (.own s258 209 3 (encs r254.1.Way)) :: (.blk b57 (enc (OverR.mk r47.1 s49 s51)) 124) :: (.own Sl.nil 209 3 (encs ([] : List Word))) :: (.own Sl.nil 135 3 (encs ([] : List Hand))) :: (.own s49 135 3 (encs r47.1.Hands)) :: (.own s51 209 3 (encs r47.1.Way)) :: (.blk b45 (enc (OverR.mk r35.1 s37 s39)) 124) :: (.own Sl.nil 209 3 (encs ([] : List Word))) :: (.own Sl.nil 135 3 (encs ([] : List Hand))) :: (.own s37 135 3 (encs r35.1.Hands)) :: (.own s39 209 3 (encs r35.1.Way)) :: (.blk b33 (enc (OverR.mk r23.1 s25 s27)) 124) :: (.own Sl.nil 209 3 (encs ([] : List Word))) :: (.own Sl.nil 135 3 (encs ([] : List Hand))) :: (.own s25 135 3 (encs r23.1.Hands)) :: (.own s27 209 3 (encs r23.1.Way)) :: (.blk b21 (enc (OverR.mk r11.1 s13 s15)) 124) :: (.own Sl.nil 209 3 (encs ([] : List Word))) :: (.own Sl.nil 135 3 (encs ([] : List Hand))) :: (.own s13 135 3 (encs r11.1.Hands)) :: (.blk b9 (enc (OverR.mk Over.zero Sl.nil Sl.nil)) 124) :: (.own Sl.nil 209 3 (encs ([] : List Word))) :: (.own Sl.nil 135 3 (encs ([] : List Hand))) :: (.blk b1 (enc (OverR.mk a0 s_a0_0 s_a0_1)) 124) :: L) (fun _ y292 => y292 = o291) ?_ ?_
    · rcases (Bool.eq_false_or_eq_true r287).symm with hb293 | hb293
      · replace H := ite_f hb293 H
        refine Lst.skip rfl rfl rfl hb293 rfl (by decide) ?_
        refine Lst.skip rfl rfl rfl hb293 rfl (by decide) ?_
        refine Lst.run rfl rfl (by decide) (Ev.pickF rfl hb293 rfl) ?_
        refine Lst.nil ?_
        exact At.meet false (FLe.refl _) ⟨rfl, trivial⟩ rfl (some_inj H)
      replace H := ite_t hb293 H
      refine Lst.runG rfl rfl rfl hb293 rfl (by decide) (Ev.move rfl) ?_
      refine Lst.runG rfl rfl rfl hb293 rfl (by decide) (Ev.eql rfl rfl) ?_
      refine Lst.run rfl rfl (by decide) (Ev.pickT rfl hb293 rfl) ?_
      refine Lst.nil ?_
      exact At.meet (r23.2 == (1 : Int)) (FLe.refl _) ⟨rfl, trivial⟩ rfl (some_inj H)
    rintro F294 y292 hF295 hy
    subst hy
    refine Lst.as (e' := [(240, .bool y292)]) (L' := (.blk b264 (enc (OverR.mk r254.1 s256 s258)) 124) :: (.own Sl.nil 209 3 (encs ([] : List Word))) :: (.own Sl.nil 135 3 (encs ([] : List Hand))) :: (.own s256 135 3 (encs r254.1.Hands)) :: (.own s258 209 3 (encs r254.1.Way)) :: (.blk b57 (enc (OverR.mk r47.1 s49 s51)) 124) :: (.own Sl.nil 209 3 (encs ([] : List Word))) :: (.own Sl.nil 135 3 (encs ([] : List Hand))) :: (.own s49 135 3 (encs r47.1.Hands)) :: (.own s51 209 3 (encs r47.1.Way)) :: (.blk b45 (enc (OverR.mk r35.1 s37 s39)) 124) :: (.own Sl.nil 209 3 (encs ([] : List Word))) :: (.own Sl.nil 135 3 (encs ([] : List Hand))) :: (.own s37 135 3 (encs r35.1.Hands)) :: (.own s39 209 3 (encs r35.1.Way)) :: (.blk b33 (enc (OverR.mk r23.1 s25 s27)) 124) :: (.own Sl.nil 209 3 (encs ([] : List Word))) :: (.own Sl.nil 135 3 (encs ([] : List Hand))) :: (.own s25 135 3 (encs r23.1.Hands)) :: (.own s27 209 3 (encs r23.1.Way)) :: (.blk b21 (enc (OverR.mk r11.1 s13 s15)) 124) :: (.own Sl.nil 209 3 (encs ([] : List Word))) :: (.own Sl.nil 135 3 (encs ([] : List Hand))) :: (.own s13 135 3 (encs r11.1.Hands)) :: (.blk b9 (enc (OverR.mk Over.zero Sl.nil Sl.nil)) 124) :: (.own Sl.nil 209 3 (encs ([] : List Word))) :: (.own Sl.nil 135 3 (encs ([] : List Hand))) :: (.blk b1 (enc (OverR.mk a0 s_a0_0 s_a0_1)) 124) :: L) ⟨rfl, trivial⟩ rfl ?_
    replace H := HKo291
    refine Lst.run rfl rfl (by decide) (Ev.assign rfl) ?_
    refine Lst.nil ?_
    refine At.then ?_
    obtain rfl := some_inj H
    refine Cd.ret ?_
    refine At.then_ret ?_
    exact At.ret1 rfl (Res.tmp rfl) (FLe.trans (FLe.trans (FLe.trans (FLe.trans (FLe.trans (FLe.trans (FLe.trans (FLe.trans (FLe.trans (FLe.trans (FLe.trans (FLe.trans (FLe.trans hF18 hF30) hF42) hF54) hF104) hF168) hF173) hF224) hF229) hF261) hF274) hF280) hF285) hF295) (List.Sublist.cons _ (List.Sublist.cons _ (List.Sublist.cons _ (List.Sublist.cons _ (List.Sublist.cons _ (List.Sublist.cons _ (List.Sublist.cons _ (List.Sublist.cons _ (List.Sublist.cons _ (List.Sublist.cons _ (List.Sublist.cons _ (List.Sublist.cons _ (List.Sublist.cons _ (List.Sublist.cons _ (List.Sublist.cons _ (List.Sublist.cons _ (List.Sublist.cons _ (List.Sublist.cons _ (List.Sublist.cons _ (List.Sublist.cons _ (List.Sublist.cons _ (List.Sublist.cons _ (List.Sublist.cons _ (List.Sublist.cons _ (List.Sublist.cons _ (List.Sublist.cons _ (List.Sublist.cons _ (List.Sublist.cons _ (List.Sublist.refl _))))))))))))))))))))))))))))) ⟨rfl, rfl⟩
  replace H := ite_f hb286 H
  refine Cd.condF rfl hb286 ?_
  refine Cd.skip ?_
  refine At.then ?_
  refine Cd.seq ?_
  refine Cd.region ?_
  refine Lst.run rfl rfl (by decide) (Ev.loadA (i := 27) rfl rfl Try.isAgg124 Try.sizeOf124 (ch := enc (OverR.mk a0 s_a0_0 s_a0_1)) (Enc.len _) (Get.here _)) ?_
  refine Lst.run rfl rfl (by decide) (Ev.move rfl) ?_
  refine Lst.run rfl rfl (by decide) (Ev.move rfl) ?_
  obtain ⟨r296, h297, H⟩ := bind_some H
  refine Lst.call rfl rfl (by decide) (vs := [.agg (enc (OverR.mk a0 s_a0_0 s_a0_1)).toArray, .int .i64 a2, .int .i64 a3]) ⟨rfl, rfl, rfl, trivial⟩ Try.call84 (partref_OverGive_sim h297 w0 _ M _ (List.Sublist.cons _ (List.Sublist.cons _ (List.Sublist.cons _ (List.Sublist.cons _ (List.Sublist.cons _ (List.Sublist.cons _ (List.Sublist.cons _ (List.Sublist.cons _ (List.Sublist.cons _ (List.Sublist.cons _ (List.Sublist.cons _ (List.Sublist.cons _ (List.Sublist.cons _ (List.Sublist.cons _ (List.Sublist.cons _ (List.Sublist.cons _ (List.Sublist.cons _ (List.Sublist.cons _ (List.Sublist.cons _ (List.Sublist.cons _ (List.Sublist.cons _ (List.Sublist.cons _ (List.Sublist.cons _ (List.Sublist.cons _ (List.Sublist.cons _ (List.Sublist.cons _ (List.Sublist.cons _ (List.Sublist.cons _ hM)))))))))))))))))))))))))))) (hs_a0_0.mono (FLe.trans (FLe.trans (FLe.trans (FLe.trans (FLe.trans (FLe.trans (FLe.trans (FLe.trans (FLe.trans (FLe.trans (FLe.trans (FLe.trans hF18 hF30) hF42) hF54) hF104) hF168) hF173) hF224) hF229) hF261) hF274) hF280) hF285) (List.Sublist.refl _)) (hs_a0_1.mono (FLe.trans (FLe.trans (FLe.trans (FLe.trans (FLe.trans (FLe.trans (FLe.trans (FLe.trans (FLe.trans (FLe.trans (FLe.trans (FLe.trans hF18 hF30) hF42) hF54) hF104) hF168) hF173) hF224) hF229) hF261) hF274) hF280) hF285) (List.Sublist.refl _))) (fun F302 L' v hF303 hv => ?_)
  obtain ⟨s298, s300, rfl, rfl⟩ := hv
  refine Lst.run rfl rfl (by decide) (Ev.move rfl) ?_
  refine Lst.run rfl rfl (by decide) (Ev.extract rfl rfl) ?_
  refine Lst.run rfl rfl (by decide) (Ev.extract rfl rfl) ?_
  refine Lst.addNil 135 3 ?_
  refine Lst.addNil 209 3 ?_
  refine Lst.alloc (cs := enc (OverR.mk ({ Over.zero with Hands := ([] : List Hand), Way := ([] : List Word) } : Over) Sl.nil Sl.nil)) rfl rfl (by decide) Try.zeroValue124 rfl (fun b306 => ?_)
  refine Lst.store (i := 0) rfl rfl rfl rfl rfl Try.sizeOf124 (vs := enc (OverR.mk r296.1 s298 s300)) rfl (Enc.len _) (Enc.one _) (cs' := enc (OverR.mk r296.1 s298 s300)) (Put.here ((Enc.len _).trans (Enc.len _).symm)) (L' := (.blk b306 (enc (OverR.mk r296.1 s298 s300)) 124) :: (.own Sl.nil 209 3 (encs ([] : List Word))) :: (.own Sl.nil 135 3 (encs ([] : List Hand))) :: (.own s298 135 3 (encs r296.1.Hands)) :: (.own s300 209 3 (encs r296.1.Way)) :: (.blk b264 (enc (OverR.mk r254.1 s256 s258)) 124) :: (.own Sl.nil 209 3 (encs ([] : List Word))) :: (.own Sl.nil 135 3 (encs ([] : List Hand))) :: (.own s256 135 3 (encs r254.1.Hands)) :: (.own s258 209 3 (encs r254.1.Way)) :: (.blk b57 (enc (OverR.mk r47.1 s49 s51)) 124) :: (.own Sl.nil 209 3 (encs ([] : List Word))) :: (.own Sl.nil 135 3 (encs ([] : List Hand))) :: (.own s49 135 3 (encs r47.1.Hands)) :: (.own s51 209 3 (encs r47.1.Way)) :: (.blk b45 (enc (OverR.mk r35.1 s37 s39)) 124) :: (.own Sl.nil 209 3 (encs ([] : List Word))) :: (.own Sl.nil 135 3 (encs ([] : List Hand))) :: (.own s37 135 3 (encs r35.1.Hands)) :: (.own s39 209 3 (encs r35.1.Way)) :: (.blk b33 (enc (OverR.mk r23.1 s25 s27)) 124) :: (.own Sl.nil 209 3 (encs ([] : List Word))) :: (.own Sl.nil 135 3 (encs ([] : List Hand))) :: (.own s25 135 3 (encs r23.1.Hands)) :: (.own s27 209 3 (encs r23.1.Way)) :: (.blk b21 (enc (OverR.mk r11.1 s13 s15)) 124) :: (.own Sl.nil 209 3 (encs ([] : List Word))) :: (.own Sl.nil 135 3 (encs ([] : List Hand))) :: (.own s13 135 3 (encs r11.1.Hands)) :: (.blk b9 (enc (OverR.mk Over.zero Sl.nil Sl.nil)) 124) :: (.own Sl.nil 209 3 (encs ([] : List Word))) :: (.own Sl.nil 135 3 (encs ([] : List Hand))) :: (.blk b1 (enc (OverR.mk a0 s_a0_0 s_a0_1)) 124) :: L) rfl ?_
  refine Lst.run rfl rfl (by decide) (Ev.assign rfl) ?_
  refine Lst.nil ?_
  refine At.then ?_
  refine Cd.seq ?_
  refine Cd.region ?_
  refine Lst.run rfl rfl (by decide) (Ev.loadA (i := 20) rfl rfl Try.isAgg124 Try.sizeOf124 (ch := enc (OverR.mk r23.1 s25 s27)) (Enc.len _) (Get.here _)) ?_
  refine Lst.run rfl rfl (by decide) (Ev.loadA (i := 0) rfl rfl Try.isAgg124 Try.sizeOf124 (ch := enc (OverR.mk r296.1 s298 s300)) (Enc.len _) (Get.here _)) ?_
  obtain ⟨r308, h309, H⟩ := bind_some H
  refine Lst.call1 rfl rfl (by decide) (vs := [.agg (enc (OverR.mk r23.1 s25 s27)).toArray, .agg (enc (OverR.mk r296.1 s298 s300)).toArray]) ⟨rfl, rfl, trivial⟩ Try.call79 (partref_SameOver_sim h309 w0 _ _ _ (List.Sublist.refl _) (Rd.own (i := 23) rfl rfl rfl) (Rd.own (i := 24) rfl rfl rfl) (Rd.own (i := 3) rfl rfl rfl) (Rd.own (i := 4) rfl rfl rfl)) ?_
  refine Lst.run rfl rfl (by decide) (Ev.move rfl) ?_
  obtain ⟨o312, H, HKo312⟩ := bind_some H
  refine Lst.join (σ := Bool) 4 (fun y313 => [(255, .bool y313)]) (fun y313 => (.blk b306 (enc (OverR.mk r296.1 s298 s300)) 124) :: (.own Sl.nil 209 3 (encs ([] : List Word))) :: (.own Sl.nil 135 3 (encs ([] : List Hand))) :: (.own s298 135 3 (encs r296.1.Hands)) :: (.own s300 209 3 (encs r296.1.Way)) :: (.blk b264 (enc (OverR.mk r254.1 s256 s258)) 124) :: (.own Sl.nil 209 3 (encs ([] : List Word))) :: (.own Sl.nil 135 3 (encs ([] : List Hand))) :: (.own s256 135 3 (encs r254.1.Hands)) :: (.own s258 209 3 (encs r254.1.Way)) :: (.blk b57 (enc (OverR.mk r47.1 s49 s51)) 124) :: (.own Sl.nil 209 3 (encs ([] : List Word))) :: (.own Sl.nil 135 3 (encs ([] : List Hand))) :: (.own s49 135 3 (encs r47.1.Hands)) :: (.own s51 209 3 (encs r47.1.Way)) :: (.blk b45 (enc (OverR.mk r35.1 s37 s39)) 124) :: (.own Sl.nil 209 3 (encs ([] : List Word))) :: (.own Sl.nil 135 3 (encs ([] : List Hand))) :: (.own s37 135 3 (encs r35.1.Hands)) :: (.own s39 209 3 (encs r35.1.Way)) :: (.blk b33 (enc (OverR.mk r23.1 s25 s27)) 124) :: (.own Sl.nil 209 3 (encs ([] : List Word))) :: (.own Sl.nil 135 3 (encs ([] : List Hand))) :: (.own s25 135 3 (encs r23.1.Hands)) :: (.own s27 209 3 (encs r23.1.Way)) :: (.blk b21 (enc (OverR.mk r11.1 s13 s15)) 124) :: (.own Sl.nil 209 3 (encs ([] : List Word))) :: (.own Sl.nil 135 3 (encs ([] : List Hand))) :: (.own s13 135 3 (encs r11.1.Hands)) :: (.blk b9 (enc (OverR.mk Over.zero Sl.nil Sl.nil)) 124) :: (.own Sl.nil 209 3 (encs ([] : List Word))) :: (.own Sl.nil 135 3 (encs ([] : List Hand))) :: (.blk b1 (enc (OverR.mk a0 s_a0_0 s_a0_1)) 124) :: L) (fun _ y313 => y313 = o312) ?_ ?_
  · rcases (Bool.eq_false_or_eq_true r308).symm with hb314 | hb314
    · replace H := ite_f hb314 H
      refine Lst.skip rfl rfl rfl hb314 rfl (by decide) ?_
      refine Lst.skip rfl rfl rfl hb314 rfl (by decide) ?_
      refine Lst.skip rfl rfl rfl hb314 rfl (by decide) ?_
      refine Lst.run rfl rfl (by decide) (Ev.pickF rfl hb314 rfl) ?_
      refine Lst.nil ?_
      exact At.meet false (FLe.refl _) ⟨rfl, trivial⟩ rfl (some_inj H)
    replace H := ite_t hb314 H
    refine Lst.runG rfl rfl rfl hb314 rfl (by decide) (Ev.move rfl) ?_
    refine Lst.runG rfl rfl rfl hb314 rfl (by decide) (Ev.move rfl) ?_
    refine Lst.runG rfl rfl rfl hb314 rfl (by decide) (Ev.eql rfl rfl) ?_
    refine Lst.run rfl rfl (by decide) (Ev.pickT rfl hb314 rfl) ?_
    refine Lst.nil ?_
    exact At.meet (r23.2 == r296.2) (FLe.refl _) ⟨rfl, trivial⟩ rfl (some_inj H)
  rintro F315 y313 hF316 hy
  subst hy
  refine Lst.as (e' := [(255, .bool y313)]) (L' := (.blk b306 (enc (OverR.mk r296.1 s298 s300)) 124) :: (.own Sl.nil 209 3 (encs ([] : List Word))) :: (.own Sl.nil 135 3 (encs ([] : List Hand))) :: (.own s298 135 3 (encs r296.1.Hands)) :: (.own s300 209 3 (encs r296.1.Way)) :: (.blk b264 (enc (OverR.mk r254.1 s256 s258)) 124) :: (.own Sl.nil 209 3 (encs ([] : List Word))) :: (.own Sl.nil 135 3 (encs ([] : List Hand))) :: (.own s256 135 3 (encs r254.1.Hands)) :: (.own s258 209 3 (encs r254.1.Way)) :: (.blk b57 (enc (OverR.mk r47.1 s49 s51)) 124) :: (.own Sl.nil 209 3 (encs ([] : List Word))) :: (.own Sl.nil 135 3 (encs ([] : List Hand))) :: (.own s49 135 3 (encs r47.1.Hands)) :: (.own s51 209 3 (encs r47.1.Way)) :: (.blk b45 (enc (OverR.mk r35.1 s37 s39)) 124) :: (.own Sl.nil 209 3 (encs ([] : List Word))) :: (.own Sl.nil 135 3 (encs ([] : List Hand))) :: (.own s37 135 3 (encs r35.1.Hands)) :: (.own s39 209 3 (encs r35.1.Way)) :: (.blk b33 (enc (OverR.mk r23.1 s25 s27)) 124) :: (.own Sl.nil 209 3 (encs ([] : List Word))) :: (.own Sl.nil 135 3 (encs ([] : List Hand))) :: (.own s25 135 3 (encs r23.1.Hands)) :: (.own s27 209 3 (encs r23.1.Way)) :: (.blk b21 (enc (OverR.mk r11.1 s13 s15)) 124) :: (.own Sl.nil 209 3 (encs ([] : List Word))) :: (.own Sl.nil 135 3 (encs ([] : List Hand))) :: (.own s13 135 3 (encs r11.1.Hands)) :: (.blk b9 (enc (OverR.mk Over.zero Sl.nil Sl.nil)) 124) :: (.own Sl.nil 209 3 (encs ([] : List Word))) :: (.own Sl.nil 135 3 (encs ([] : List Hand))) :: (.blk b1 (enc (OverR.mk a0 s_a0_0 s_a0_1)) 124) :: L) ⟨rfl, trivial⟩ rfl ?_
  replace H := HKo312
  refine Lst.run rfl rfl (by decide) (Ev.assign rfl) ?_
  refine Lst.nil ?_
  refine At.then ?_
  obtain rfl := some_inj H
  refine Cd.ret ?_
  exact At.ret1 rfl (Res.tmp rfl) (FLe.trans (FLe.trans (FLe.trans (FLe.trans (FLe.trans (FLe.trans (FLe.trans (FLe.trans (FLe.trans (FLe.trans (FLe.trans (FLe.trans (FLe.trans (FLe.trans hF18 hF30) hF42) hF54) hF104) hF168) hF173) hF224) hF229) hF261) hF274) hF280) hF285) hF303) hF316) (List.Sublist.cons _ (List.Sublist.cons _ (List.Sublist.cons _ (List.Sublist.cons _ (List.Sublist.cons _ (List.Sublist.cons _ (List.Sublist.cons _ (List.Sublist.cons _ (List.Sublist.cons _ (List.Sublist.cons _ (List.Sublist.cons _ (List.Sublist.cons _ (List.Sublist.cons _ (List.Sublist.cons _ (List.Sublist.cons _ (List.Sublist.cons _ (List.Sublist.cons _ (List.Sublist.cons _ (List.Sublist.cons _ (List.Sublist.cons _ (List.Sublist.cons _ (List.Sublist.cons _ (List.Sublist.cons _ (List.Sublist.cons _ (List.Sublist.cons _ (List.Sublist.cons _ (List.Sublist.cons _ (List.Sublist.cons _ (List.Sublist.cons _ (List.Sublist.cons _ (List.Sublist.cons _ (List.Sublist.cons _ (List.Sublist.cons _ (List.Sublist.refl _)))))))))))))))))))))))))))))))))) ⟨rfl, rfl⟩
end Go.Proofs.Ytobikknjaomalaa
