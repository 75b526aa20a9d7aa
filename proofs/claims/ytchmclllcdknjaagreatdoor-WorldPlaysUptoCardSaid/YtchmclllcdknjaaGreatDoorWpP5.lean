/-
  The functions compute their specs; printed by a program.
-/
import Derived.Test.YtchmclllcdknjaaGreatDoorWpP4
namespace Go.Proofs.YtchmclllcdknjaaGreatDoor
open Go.RowKit Enc
set_option linter.unusedVariables false
set_option linter.unusedSimpArgs false
set_option maxRecDepth 20000
abbrev U22 := @Tryz.runUnderlying22
abbrev U23 := @Tryz.runUnderlying23
abbrev U138 := @Tryz.runUnderlying138
abbrev Z30 := @Tryz.sizeOf30
abbrev Z138 := @Tryz.sizeOf138
abbrev I30 := @Tryz.isAgg30
abbrev I138 := @Tryz.isAgg138
theorem strings_Trim_sim {fu:Nat} {a0:Str} {a1:Str} {r:Str} (H:strings_Trim fu a0 a1=some r) (w0:World) (F:Frz) (M L:List Item) (hM:M.Sublist L):Ok Tryz.prog w0 181 [Str.v a0,Str.v a1] F (L) (Is (Str.v r) (L)):=by
 unfold strings_Trim at H
 refine Ok.enter (m:=2) (n:=43) Tryz.func181 rfl rfl rfl (by decide)<|Cd.env (e':=[(0,Str.v a0),(1,Str.v a1)]) rfl<|sr0<|as1 rfl<|nt0<|Cd.seq<|sr0<|mv1 rfl<|lr (Ev.eqlStr (s:=a0) (m:=([]:Str)) rfl rfl)<|mv1 rfl ?_
 obtain ⟨o1,H,HKo1⟩:=bs H
 refine Lst.join (σ:=Bool) 3 (fun y2=>[(0,Str.v a0),(1,Str.v a1),(12,.bool y2)]) (fun y2=>L) (fun _ y2=>y2=o1) ?_ ?_
 ·rcases ic H with ⟨hb3,H⟩|⟨hb3,H⟩
  ·refine lsk rfl hb3<|lsk rfl hb3<|lr (Ev.pickT rfl hb3 rfl)<|Lst.nil ?_
   exact At.meet true fl ⟨rfl,rfl,rfl,trivial⟩ rfl (si H)
  refine lg hb3 (Ev.move rfl)<|lg hb3 (Ev.eqlStr (s:=a1) (m:=([]:Str)) rfl rfl)<|lr (Ev.pickF rfl hb3 rfl)<|Lst.nil ?_
  exact At.meet (decide (a1=([]:Str))) fl ⟨rfl,rfl,rfl,trivial⟩ rfl (si H)
 rintro F4 y2 hF5 hy
 subst hy
 replace H:=HKo1
 refine nt0 ?_
 rcases ic H with ⟨hb6,H⟩|⟨hb6,H⟩
 ·refine Cd.condT rfl hb6<|sr0<|mv1 rfl<|as1 rfl<|nt0 ?_
  obtain rfl:=si H
  refine Cd.ret<|At.then_ret ?_
  exact At.ret1 rfl (Res.tmp rfl) hF5 rl ⟨rfl,rfl⟩
 refine Cd.condF rfl hb6<|Cd.skip<|At.then<|Cd.seq<|sr0<|mv1 rfl<|lr (Ev.lenStr rfl rfl U9)<|lr (Ev.eql rfl rfl)<|mv1 rfl ?_
 obtain ⟨o7,H,HKo7⟩:=bs H
 refine Lst.join (σ:=Bool) 4 (fun y8=>[(0,Str.v a0),(1,Str.v a1),(21,.bool y8)]) (fun y8=>L) (fun _ y8=>y8=o7) ?_ ?_
 ·rcases ic2 H with ⟨hb9,H⟩|⟨hb9,H⟩
  ·refine lsk rfl hb9<|lsk rfl hb9<|lsk rfl hb9<|lr (Ev.pickF rfl hb9 rfl)<|Lst.nil ?_
   exact At.meet false fl ⟨rfl,rfl,rfl,trivial⟩ rfl (si H)
  refine lg hb9 (Ev.move rfl) ?_
  obtain ⟨x10,h11,H⟩:=bs H
  refine lg hb9 (Ev.indexStr rfl rfl U9 h11)<|lg hb9 (Ev.lss rfl rfl)<|lr (Ev.pickT rfl hb9 rfl)<|Lst.nil ?_
  exact At.meet (decide ((x10.toBitVec.toNat:Int) < ((128:BitVec 8).toNat:Int))) fl ⟨rfl,rfl,rfl,trivial⟩ rfl (si H)
 rintro F12 y8 hF13 hy
 subst hy
 replace H:=HKo7
 refine nt0 ?_
 rcases ic H with ⟨hb14,H⟩|⟨hb14,H⟩
 ·cases H
 refine Cd.condF rfl hb14<|Cd.skip<|At.then<|Cd.seq<|sr0<|mv1 rfl ?_
 obtain ⟨r15,h16,H⟩:=bs H
 refine cl1 rfl (vs:=[Str.v a1]) ⟨rfl,trivial⟩ Tryz.call226 (strings_makeASCIISet_sim h16 w0 _ M _ hM)<|mv1 rfl<|lr (Ev.extract rfl rfl)<|lr (Ev.extract rfl rfl) ?_
 refine Lst.alloc (z:=.agg (enc (Vector.replicate 256 false)).toArray) (cs:=enc (Vector.replicate 256 false)) rfl rfl (by decide) (fun _=>by kernel_rfl) rfl (fun b19=>?_)
 refine lst 0 rfl rfl rfl Z299 (vs:=enc r15.1) rfl el (Enc.one _) (cs':=enc r15.1) phl rfl<|as1 rfl<|nsr<|mv1 rfl<|nt0 ?_
 rcases ic H with ⟨hb21,H⟩|⟨hb21,H⟩
 ·refine Cd.condT rfl hb21<|sr0<|mv1 rfl ?_
  obtain ⟨r22,h23,H⟩:=bs H
  refine cl1 rfl (vs:=[Str.v a0,pv b19 0]) ⟨rfl,rfl,trivial⟩ Tryz.call228 (strings_trimRightASCII_sim h23 w0 _ M _ hM) ?_
  obtain ⟨r26,h27,H⟩:=bs H
  refine cl1 rfl (vs:=[Str.v r22,pv b19 0]) ⟨rfl,rfl,trivial⟩ Tryz.call227 (strings_trimLeftASCII_sim h27 w0 _ M _ hM)<|as1 rfl<|nt0 ?_
  obtain rfl:=si H
  refine Cd.ret<|At.then_ret ?_
  exact At.ret1 rfl (Res.tmp rfl) (ft hF5 hF13) (sc1 rl) ⟨rfl,rfl⟩
 cases H
theorem same_number_sim {fu:Nat} {a0:Str} {r:Int×Bool} (H:same_number fu a0=some r) (w0:World) (F:Frz) (M L:List Item) (hM:M.Sublist L):Ok Tryz.prog w0 122 [Str.v a0] F (L) (Is (.tuple #[iv r.1,.bool r.2]) (L)):=by
 unfold same_number at H
 refine Ok.enter (m:=1) (n:=26) Tryz.func122 rfl rfl rfl (by decide)<|Cd.env (e':=[(0,Str.v a0)]) rfl<|sr0<|as1 rfl<|as1 rfl<|nsr<|mv1 rfl ?_
 obtain ⟨r1,h2,H⟩:=bs H
 refine cl1 rfl (vs:=[Str.v a0,Str.v ([45]:Str)]) ⟨rfl,rfl,trivial⟩ Tryz.call180 (strings_TrimPrefix_sim h2 w0 _ M _ hM)<|as1 rfl<|nt0<|Cd.seq<|sr0<|mv1 rfl<|lr (Ev.lenStr rfl rfl U9) ?_
 obtain ⟨r5,h6,H⟩:=bs H
 refine cl1 rfl (vs:=[iv (r1.length:Int),iv (1:Int),iv (9:Int)]) ⟨rfl,rfl,rfl,trivial⟩ Tryz.call123 (same_in_sim h6 w0 _ M _ hM)<|lr (Ev.not rfl)<|mv1 rfl ?_
 obtain ⟨o9,H,HKo9⟩:=bs H
 refine Lst.join (σ:=Bool) 4 (fun y10=>[(0,Str.v a0),(17,.bool y10)]) (fun y10=>L) (fun _ y10=>y10=o9) ?_ ?_
 ·rcases ic H with ⟨hb11,H⟩|⟨hb11,H⟩
  ·refine lsk rfl hb11<|lsk rfl hb11<|lsk rfl hb11<|lr (Ev.pickT rfl hb11 rfl)<|Lst.nil ?_
   exact At.meet true fl ⟨rfl,rfl,trivial⟩ rfl (si H)
  refine lg hb11 (Ev.move rfl) ?_
  obtain ⟨r12,h13,H⟩:=bs H
  refine Lst.call1G rfl rfl rfl hb11 rfl (by decide) (vs:=[Str.v r1,Str.v ([48,49,50,51,52,53,54,55,56,57]:Str)]) ⟨rfl,rfl,trivial⟩ Tryz.call181 (strings_Trim_sim h13 w0 _ M _ hM)<|lg hb11 (Ev.neqStr (s:=r12) (m:=([]:Str)) rfl rfl)<|lr (Ev.pickF rfl hb11 rfl)<|Lst.nil ?_
  exact At.meet (!(decide (r12=([]:Str)))) fl ⟨rfl,rfl,trivial⟩ rfl (si H)
 rintro F16 y10 hF17 hy
 subst hy
 replace H:=HKo9
 refine nt0 ?_
 rcases ic H with ⟨hb18,H⟩|⟨hb18,H⟩
 ·refine Cd.condT rfl hb18<|sr0<|as1 rfl<|as1 rfl<|nt0 ?_
  obtain rfl:=si H
  refine Cd.ret<|At.then_ret ?_
  exact At.ret2 rfl (Res.tmp rfl) (Res.tmp rfl) hF17 rl ⟨rfl,rfl⟩
 refine Cd.condF rfl hb18<|Cd.skip<|At.then<|sr0<|mv1 rfl ?_
 obtain ⟨r19,h20,H⟩:=bs H
 refine cl1 rfl (vs:=[Str.v a0]) ⟨rfl,trivial⟩ Tryz.call178 (strconv_Atoi_sim h20 w0 _ M _ hM)<|mv1 rfl<|lr (Ev.extract rfl rfl)<|lr (Ev.extract rfl rfl)<|as1 rfl<|as1 rfl<|nt0<|Cd.seq<|Cd.quiet (by kernel_rfl) (by kernel_rfl)<|qr (Ev.move rfl)<|qr (Ev.move rfl) ?_
 refine qr (Ev.eqlErr rfl U254)<|qr (Ev.assign rfl)<|qr (Ev.assign rfl)<|Qt.done<|At.then ?_
 obtain rfl:=si H
 refine Cd.ret ?_
 exact At.ret2 rfl (Res.tmp rfl) (Res.tmp rfl) hF17 rl ⟨rfl,rfl⟩
theorem same_Read_sim {fu:Nat} {a0:Str} {r:Cmd×Int} (H:same_Read fu a0=some r) (w0:World) (F:Frz) (M L:List Item) (hM:M.Sublist L):Ok Tryz.prog w0 67 [Str.v a0] F (L) (Is (.tuple #[.agg (enc r.1).toArray,iv r.2]) (L)):=by
 unfold same_Read at H
 refine Ok.enter (m:=1) (n:=66) Tryz.func67 rfl rfl rfl (by decide)<|Cd.env (e':=[(0,Str.v a0)]) rfl<|sr0 ?_
 refine Lst.alloc (cs:=enc Cmd.zero) rfl rfl (by decide) Tryz.zeroValue138 rfl (fun b1=>?_)
 refine as1 rfl<|nsr<|mv1 rfl ?_
 obtain ⟨r3,h4,H⟩:=bs H
 refine cl rfl (vs:=[Str.v a0,Str.v ([32]:Str)]) ⟨rfl,rfl,trivial⟩ Tryz.call52 (strings_Split_sim h4 w0 _ M _ (sc1 hM)) (fun F7 L' v hF8 hv=>?_)
 obtain ⟨s5,rfl,rfl⟩:=hv
 refine as1 rfl<|nt0<|Cd.seq<|sr0<|mv1 rfl<|lr (Ev.lenS (α:=Str) (xs:=r3) (by decide) rfl rfl U43 (rdo 0 rfl rfl rfl))<|lr (Ev.neq rfl rfl)<|nt0 ?_
 rcases ic H with ⟨hb9,H⟩|⟨hb9,H⟩
 ·refine Cd.condT rfl hb9<|sr0<|lr (Ev.build (v:=.agg (enc Cmd.zero).toArray) (pv:=[]) trivial (fun w=>by kernel_rfl))<|lst 1 rfl rfl rfl Z138 (vs:=enc Cmd.zero) rfl el (Enc.one _) (cs':=enc Cmd.zero) phl rfl<|as1 rfl<|nt0 ?_
  obtain rfl:=si H
  refine Cd.ret<|At.then_ret ?_
  exact At.ret2 rfl (Res.cellA (i:=1) rfl rfl I138 Z138 el) (Res.tmp rfl) hF8 (sc2 rl) ⟨rfl,rfl⟩
 refine Cd.condF rfl hb9<|Cd.skip<|At.then<|sr0 ?_
 refine Lst.buildSlice (α:=Str) (xs:=([([115,101,116]:Str),([97,100,100]:Str),([109,111,115,116]:Str),([99,111,112,121]:Str)]:List Str)) (pv:=[(0,Str.v ([115,101,116]:Str)),(1,Str.v ([97,100,100]:Str)),(2,Str.v ([109,111,115,116]:Str)),(3,Str.v ([99,111,112,121]:Str))]) rfl rfl (by decide) ⟨rfl,rfl,⟨rfl,rfl,⟨rfl,rfl,⟨rfl,rfl,trivial⟩⟩⟩⟩ (run_buildSlice (α:=Str) (z0:=([]:Str)) (xs:=([([115,101,116]:Str),([97,100,100]:Str),([109,111,115,116]:Str),([99,111,112,121]:Str)]:List Str)) U43 Z9 Tryz.zeroValue9 rfl rfl rfl (by decide) rfl (fill_cons (cs:=encs (List.replicate 4 ([]:Str))) (cs':=encs ((List.replicate 4 ([]:Str)).set 0 ([115,101,116]:Str))) (vs:=[Str.v ([115,101,116]:Str)]) rfl rfl rfl ((Put.elemN (s:=1) (i:=0) (x:=([]:Str)) (y:=([115,101,116]:Str)) rfl rfl (Put.here (vs:=[Str.v ([115,101,116]:Str)]) rfl)).off rfl) (fill_cons (cs:=encs ((List.replicate 4 ([]:Str)).set 0 ([115,101,116]:Str))) (cs':=encs (((List.replicate 4 ([]:Str)).set 0 ([115,101,116]:Str)).set 1 ([97,100,100]:Str))) (vs:=[Str.v ([97,100,100]:Str)]) rfl rfl rfl ((Put.elemN (s:=1) (i:=1) (x:=([]:Str)) (y:=([97,100,100]:Str)) rfl rfl (Put.here (vs:=[Str.v ([97,100,100]:Str)]) rfl)).off rfl) (fill_cons (cs:=encs (((List.replicate 4 ([]:Str)).set 0 ([115,101,116]:Str)).set 1 ([97,100,100]:Str))) (cs':=encs ((((List.replicate 4 ([]:Str)).set 0 ([115,101,116]:Str)).set 1 ([97,100,100]:Str)).set 2 ([109,111,115,116]:Str))) (vs:=[Str.v ([109,111,115,116]:Str)]) rfl rfl rfl ((Put.elemN (s:=1) (i:=2) (x:=([]:Str)) (y:=([109,111,115,116]:Str)) rfl rfl (Put.here (vs:=[Str.v ([109,111,115,116]:Str)]) rfl)).off rfl) (fill_cons (cs:=encs ((((List.replicate 4 ([]:Str)).set 0 ([115,101,116]:Str)).set 1 ([97,100,100]:Str)).set 2 ([109,111,115,116]:Str))) (cs':=encs (((((List.replicate 4 ([]:Str)).set 0 ([115,101,116]:Str)).set 1 ([97,100,100]:Str)).set 2 ([109,111,115,116]:Str)).set 3 ([99,111,112,121]:Str))) (vs:=[Str.v ([99,111,112,121]:Str)]) rfl rfl rfl ((Put.elemN (s:=1) (i:=3) (x:=([]:Str)) (y:=([99,111,112,121]:Str)) rfl rfl (Put.here (vs:=[Str.v ([99,111,112,121]:Str)]) rfl)).off rfl) fill_nil))))) rfl rfl (by decide) (fun s10 _=>?_)
 let T0:Item:=.own s10 9 1 (encs ([([115,101,116]:Str),([97,100,100]:Str),([109,111,115,116]:Str),([99,111,112,121]:Str)]:List Str))
 refine mv1 rfl ?_
 obtain ⟨x12,h13,H⟩:=bs H
 have g14:=lat_some h13
 refine lr (Ev.indexS (α:=Str) (xs:=r3) rfl rfl U43 Z9 rfl (by decide) (rdo 1 rfl rfl rfl) g14.1 g14.2.1)<|lr (Ev.loadS (α:=Str) rfl (rdo 1 rfl rfl rfl) I9 (v:=Str.v x12) ((Get.elemN (s:=1) (x:=x12) rfl g14.2.2 gh0).off (by omega))) ?_
 obtain ⟨r15,h16,H⟩:=bs H
 refine cl1 rfl (vs:=[Sl.v s10,Str.v x12]) ⟨rfl,rfl,trivial⟩ Tryz.call121 (slices_Index_string_string_sim h16 w0 _ _ _ rl (rdo 0 rfl rfl rfl))<|lr (Ev.add rfl rfl)<|as1 rfl<|nsr<|mv1 rfl ?_
 obtain ⟨x19,h20,H⟩:=bs H
 have g21:=lat_some h20
 refine lr (Ev.indexS (α:=Str) (xs:=r3) rfl rfl U43 Z9 rfl (by decide) (rdo 1 rfl rfl rfl) g21.1 g21.2.1)<|lr (Ev.loadS (α:=Str) rfl (rdo 1 rfl rfl rfl) I9 (v:=Str.v x19) ((Get.elemN (s:=1) (x:=x19) rfl g21.2.2 gh0).off (by omega))) ?_
 obtain ⟨r22,h23,H⟩:=bs H
 refine cl1 rfl (vs:=[Str.v x19]) ⟨rfl,trivial⟩ Tryz.call122 (same_number_sim h23 w0 _ M _ (sc2 (sc1 hM)))<|mv1 rfl<|lr (Ev.extract rfl rfl)<|lr (Ev.extract rfl rfl)<|as1 rfl<|as1 rfl<|nsr<|mv1 rfl ?_
 obtain ⟨x26,h27,H⟩:=bs H
 have g28:=lat_some h27
 refine lr (Ev.indexS (α:=Str) (xs:=r3) rfl rfl U43 Z9 rfl (by decide) (rdo 1 rfl rfl rfl) g28.1 g28.2.1)<|lr (Ev.loadS (α:=Str) rfl (rdo 1 rfl rfl rfl) I9 (v:=Str.v x26) ((Get.elemN (s:=1) (x:=x26) rfl g28.2.2 gh0).off (by omega))) ?_
 obtain ⟨r29,h30,H⟩:=bs H
 let T1:=({Cmd.zero with Kind:=w64 (r15+(1:Int)),Key:=r22.1,N:=r29.1}:Cmd)
 refine cl1 rfl (vs:=[Str.v x26]) ⟨rfl,trivial⟩ Tryz.call122 (same_number_sim h30 w0 _ M _ (sc2 (sc1 hM)))<|mv1 rfl<|lr (Ev.extract rfl rfl)<|lr (Ev.extract rfl rfl)<|as1 rfl<|as1 rfl<|nt0<|Cd.seq<|Cd.block<|sr0<|mv1 rfl ?_
 refine lr (Ev.eql rfl rfl)<|mv1 rfl ?_
 obtain ⟨o33,H,HKo33⟩:=bs H
 refine Lst.join (σ:=Bool) 3 (fun y34=>[(2,pv b1 0),(5,iv (w64 (r15+(1:Int)))),(6,iv r22.1),(8,iv r29.1),(9,.bool r29.2),(42,.bool y34)]) (fun y34=>T0::(.own s5 9 1 (encs r3))::(.blk b1 (enc Cmd.zero) 138)::L) (fun _ y34=>y34=o33) ?_ ?_
 ·rcases ic H with ⟨hb35,H⟩|⟨hb35,H⟩
  ·refine lsk rfl hb35<|lsk rfl hb35<|lr (Ev.pickT rfl hb35 rfl)<|Lst.nil ?_
   exact At.meet true fl ⟨rfl,rfl,rfl,rfl,rfl,rfl,trivial⟩ rfl (si H)
  refine lg hb35 (Ev.move rfl)<|lg hb35 (Ev.not rfl)<|lr (Ev.pickF rfl hb35 rfl)<|Lst.nil ?_
  exact At.meet (!r22.2) fl ⟨rfl,rfl,rfl,rfl,rfl,rfl,trivial⟩ rfl (si H)
 rintro F36 y34 hF37 hy
 subst hy
 replace H:=HKo33
 refine mv1 rfl ?_
 obtain ⟨o38,H,HKo38⟩:=bs H
 refine Lst.join (σ:=Bool) 3 (fun y39=>[(2,pv b1 0),(5,iv (w64 (r15+(1:Int)))),(6,iv r22.1),(8,iv r29.1),(46,.bool y39)]) (fun y39=>T0::(.own s5 9 1 (encs r3))::(.blk b1 (enc Cmd.zero) 138)::L) (fun _ y39=>y39=o38) ?_ ?_
 ·rcases ic H with ⟨hb40,H⟩|⟨hb40,H⟩
  ·refine lsk rfl hb40<|lsk rfl hb40<|lr (Ev.pickT rfl hb40 rfl)<|Lst.nil ?_
   exact At.meet true fl ⟨rfl,rfl,rfl,rfl,rfl,trivial⟩ rfl (si H)
  refine lg hb40 (Ev.move rfl)<|lg hb40 (Ev.not rfl)<|lr (Ev.pickF rfl hb40 rfl)<|Lst.nil ?_
  exact At.meet (!r29.2) fl ⟨rfl,rfl,rfl,rfl,rfl,trivial⟩ rfl (si H)
 rintro F41 y39 hF42 hy
 let T2:=ft (ft hF8 hF37) hF42
 subst hy
 replace H:=HKo38
 refine as1 rfl<|nt0 ?_
 rcases ic H with ⟨hb43,H⟩|⟨hb43,H⟩
 ·refine Cd.condT rfl hb43<|sr0<|lr (Ev.build (v:=.agg (enc Cmd.zero).toArray) (pv:=[]) trivial (fun w=>by kernel_rfl))<|lst 2 rfl rfl rfl Z138 (vs:=enc Cmd.zero) rfl el (Enc.one _) (cs':=enc Cmd.zero) phl rfl<|as1 rfl<|nt0 ?_
  obtain rfl:=si H
  refine Cd.ret<|At.in_ret<|At.then_ret ?_
  exact At.ret2 rfl (Res.cellA (i:=2) rfl rfl I138 Z138 el) (Res.tmp rfl) T2 (sc1 (sc2 rl)) ⟨rfl,rfl⟩
 refine Cd.condF rfl hb43<|sr0<|mv1 rfl ?_
 obtain ⟨r44,h45,H⟩:=bs H
 refine cl1 rfl (vs:=[iv r22.1,iv (0:Int),iv (9:Int)]) ⟨rfl,rfl,rfl,trivial⟩ Tryz.call123 (same_in_sim h45 w0 _ M _ (sc2 (sc1 hM)))<|lr (Ev.not rfl)<|mv1 rfl ?_
 rcases ic H with ⟨hb48,H⟩|⟨hb48,H⟩
 ·refine lsk rfl hb48<|lsk rfl hb48<|lsk rfl hb48<|Lst.skipU rfl rfl rfl rfl (by decide)<|Lst.skipU rfl rfl rfl rfl (by decide)<|Lst.skipU rfl rfl rfl rfl (by decide)<|lsk rfl hb48<|lr (Ev.pickT rfl hb48 rfl)<|as1 rfl<|nt0<|Cd.condT rfl rfl ?_
  refine sr0<|lr (Ev.build (v:=.agg (enc Cmd.zero).toArray) (pv:=[]) trivial (fun w=>by kernel_rfl))<|lst 2 rfl rfl rfl Z138 (vs:=enc Cmd.zero) rfl el (Enc.one _) (cs':=enc Cmd.zero) phl rfl<|as1 rfl<|nt0 ?_
  obtain rfl:=si H
  refine Cd.ret<|At.in_ret<|At.then_ret ?_
  exact At.ret2 rfl (Res.cellA (i:=2) rfl rfl I138 Z138 el) (Res.tmp rfl) T2 (sc1 (sc2 rl)) ⟨rfl,rfl⟩
 refine lg hb48 (Ev.move rfl)<|lg hb48 (Ev.eql rfl rfl)<|lg hb48 (Ev.move rfl) ?_
 obtain ⟨o49,H,HKo49⟩:=bs H
 refine Lst.join (σ:=Bool) 4 (fun y50=>[(2,pv b1 0),(5,iv (w64 (r15+(1:Int)))),(6,iv r22.1),(8,iv r29.1),(52,.bool (!r44)),(59,.bool y50)]) (fun y50=>T0::(.own s5 9 1 (encs r3))::(.blk b1 (enc Cmd.zero) 138)::L) (fun _ y50=>y50=o49) ?_ ?_
 ·rcases ic2 H with ⟨hb51,H⟩|⟨hb51,H⟩
  ·refine lsk rfl hb51<|lsk rfl hb51<|lsk rfl hb51<|lg hb48 (Ev.pickF rfl hb51 rfl)<|Lst.nil ?_
   exact At.meet false fl ⟨rfl,rfl,rfl,rfl,rfl,rfl,trivial⟩ rfl (si H)
  refine lg hb51 (Ev.move rfl) ?_
  obtain ⟨r52,h53,H⟩:=bs H
  refine Lst.call1G rfl rfl rfl hb51 rfl (by decide) (vs:=[iv r29.1,iv (0:Int),iv (9:Int)]) ⟨rfl,rfl,rfl,trivial⟩ Tryz.call123 (same_in_sim h53 w0 _ M _ (sc2 (sc1 hM)))<|lg hb51 (Ev.not rfl)<|lg hb48 (Ev.pickT rfl hb51 rfl)<|Lst.nil ?_
  exact At.meet (!r52) fl ⟨rfl,rfl,rfl,rfl,rfl,rfl,trivial⟩ rfl (si H)
 rintro F56 y50 hF57 hy
 subst hy
 replace H:=HKo49
 refine lr (Ev.pickF rfl hb48 rfl)<|as1 rfl<|nt0 ?_
 rcases ic H with ⟨hb58,H⟩|⟨hb58,H⟩
 ·refine Cd.condT rfl hb58<|sr0<|lr (Ev.build (v:=.agg (enc Cmd.zero).toArray) (pv:=[]) trivial (fun w=>by kernel_rfl))<|lst 2 rfl rfl rfl Z138 (vs:=enc Cmd.zero) rfl el (Enc.one _) (cs':=enc Cmd.zero) phl rfl<|as1 rfl<|nt0 ?_
  obtain rfl:=si H
  refine Cd.ret<|At.in_ret<|At.then_ret ?_
  exact At.ret2 rfl (Res.cellA (i:=2) rfl rfl I138 Z138 el) (Res.tmp rfl) (ft T2 hF57) (sc1 (sc2 rl)) ⟨rfl,rfl⟩
 refine Cd.condF rfl hb58<|Cd.skip<|At.in_normal<|At.then<|sr0<|mv1 rfl<|mv1 rfl<|mv1 rfl<|lr (Ev.build (v:=.agg (enc T1).toArray) (pv:=[(0,iv (w64 (r15+(1:Int)))),(1,iv r22.1),(2,iv r29.1)]) ⟨rfl,rfl,⟨rfl,rfl,⟨rfl,rfl,trivial⟩⟩⟩ (fun w=>by kernel_rfl))<|lst 2 rfl rfl rfl Z138 (vs:=enc T1) rfl el (Enc.one _) (cs':=enc T1) phl rfl<|as1 rfl ?_
 refine nt0 ?_
 obtain rfl:=si H
 refine Cd.ret ?_
 exact At.ret2 rfl (Res.cellA (i:=2) rfl rfl I138 Z138 el) (Res.tmp rfl) (ft T2 hF57) (sc1 (sc2 rl)) ⟨rfl,rfl⟩
theorem same_clamp_sim {a0:Int} {r:Int} (H:same_clamp a0=some r) (w0:World) (F:Frz) (M L:List Item) (hM:M.Sublist L):Ok Tryz.prog w0 124 [iv a0] F (L) (Is (iv r) (L)):=by
 unfold same_clamp at H
 refine Ok.enter (m:=1) (n:=6) Tryz.func124 rfl rfl rfl (by decide)<|Cd.env (e':=[(0,iv a0)]) rfl<|sr0<|as1 rfl<|nsr<|mv1 rfl<|lr (Ev.max2 rfl rfl)<|lr (Ev.min2 rfl rfl)<|as1 rfl<|nt0 ?_
 obtain rfl:=si H
 refine Cd.ret ?_
 exact At.ret1 rfl (Res.tmp rfl) fl rl ⟨rfl,rfl⟩
theorem same_run_sim {a0:Vector Int 10} {a1:Cmd} {ba0:Nat} {r:(Vector Int 10)} (H:same_run a0 a1=some r) (w0:World) (F:Frz) (M L:List Item) (hM:M.Sublist L):Ok Tryz.prog w0 68 [pv ba0 0,.agg (enc a1).toArray] F ((.blk ba0 (enc a0) 57)::L) (fun _ L' v=>v=.tuple #[]∧L'=(.blk ba0 (enc r) 57)::L):=by
 unfold same_run at H
 refine Ok.enter (m:=2) (n:=54) Tryz.func68 rfl rfl rfl (by decide)<|Cd.env (e':=[(0,pv ba0 0),(1,.agg (enc a1).toArray)]) rfl<|sr0 ?_
 refine Lst.box rfl rfl (by decide) rfl (cs:=enc a1) rfl (fun b2=>?_)
 refine nt0<|Cd.seq<|Cd.quiet (by kernel_rfl) (by kernel_rfl)<|qr (Ev.move rfl)<|qr (Ev.fo 1 rfl U138 rfl Z3 rfl rfl)<|qr (Ev.load (i:=0) rfl rfl I3 (v:=iv a1.Key) ((Cmd.get_Key gh0).off rfl))<|qr (Ev.nilCheck rfl) ?_
 obtain ⟨x4,h5,H⟩:=bs H
 have g6:=vat_some h5
 refine qr (Ev.indexAddr (off':=0+a1.Key.toNat * 1) rfl rfl U57 Z3 g6.1 g6.2.1 rfl)<|qr (Ev.assign rfl)<|Qt.done<|At.then<|sr0<|lr (Ev.fo 0 rfl U138 rfl Z3 rfl rfl)<|lr (Ev.load (i:=0) rfl rfl I3 (v:=iv a1.Kind) ((Cmd.get_Kind gh0).off rfl))<|nt0<|Cd.block<|sr0<|lr (Ev.eql rfl rfl) ?_
 refine as1 rfl<|nt0 ?_
 rcases ic H with ⟨hb7,H⟩|⟨hb7,H⟩
 ·refine Cd.condT rfl hb7<|Cd.region<|mv1 rfl<|lr (Ev.fo 2 rfl U138 rfl Z3 rfl rfl)<|lr (Ev.load (i:=0) rfl rfl I3 (v:=iv a1.N) ((Cmd.get_N gh0).off rfl)) ?_
  obtain ⟨r8,h9,H⟩:=bs H
  refine cl1 rfl (vs:=[iv a1.N]) ⟨rfl,trivial⟩ Tryz.call124 (same_clamp_sim h9 w0 _ M _ (sc2 hM))<|lr (Ev.nilCheck rfl) ?_
  obtain ⟨p12,h13,H⟩:=Let_some H
  refine lst 1 rfl rfl rfl Z3 (vs:=[iv r8]) rfl rfl rfl (cs':=enc p12) (by rw [← h13]; exact (Put.vecN (s:=1) (x:=x4) rfl g6.2.2 (Put.here (vs:=[iv r8]) rfl)).off (by omega)) rfl<|Lst.nil<|At.in_normal ?_
  obtain rfl:=si H
  exact At.ret0 (.inr rfl) rfl fl (sc1 rl) ⟨rfl,rfl⟩
 refine Cd.condF rfl hb7<|sr0<|lr (Ev.eql rfl rfl)<|as1 rfl<|nt0 ?_
 rcases ic H with ⟨hb14,H⟩|⟨hb14,H⟩
 ·refine Cd.condT rfl hb14<|Cd.tail 12 (by kernel_rfl) (by kernel_rfl)<|qr (Ev.move rfl)<|qr (Ev.move rfl)<|qr (Ev.nilCheck rfl)<|qr (Ev.load (i:=1) rfl rfl I3 (v:=iv x4) ((Get.vecN (s:=1) (x:=x4) rfl g6.2.2 gh0).off (by omega)))<|qr (Ev.max2 rfl rfl)<|qr (Ev.min2 rfl rfl)<|qr (Ev.fo 2 rfl U138 rfl Z3 rfl rfl)<|qr (Ev.load (i:=0) rfl rfl I3 (v:=iv a1.N) ((Cmd.get_N gh0).off rfl)) ?_
  obtain ⟨r15,h16,H⟩:=bs H
  refine Qt.call rfl rfl (by decide) (vs:=[iv a1.N]) ⟨rfl,trivial⟩ Tryz.call124 (same_clamp_sim h16 w0 _ M _ (sc2 hM))<|qr (Ev.add rfl rfl) ?_
  obtain ⟨r19,h20,H⟩:=bs H
  refine Qt.call rfl rfl (by decide) (vs:=[iv (w64 ((min (max x4 (-4000000000:Int)) (4000000000:Int))+r15))]) ⟨rfl,trivial⟩ Tryz.call124 (same_clamp_sim h20 w0 _ M _ (sc2 hM))<|qr (Ev.nilCheck rfl)<|Qt.tail ?_
  obtain ⟨p23,h24,H⟩:=Let_some H
  refine lst 1 rfl rfl rfl Z3 (vs:=[iv r19]) rfl rfl rfl (cs':=enc p23) (by rw [← h24]; exact (Put.vecN (s:=1) (x:=x4) rfl g6.2.2 (Put.here (vs:=[iv r19]) rfl)).off (by omega)) rfl<|Lst.nil<|At.in_normal ?_
  obtain rfl:=si H
  exact At.ret0 (.inr rfl) rfl fl (sc1 rl) ⟨rfl,rfl⟩
 refine Cd.condF rfl hb14<|sr0<|lr (Ev.eql rfl rfl)<|as1 rfl<|nt0 ?_
 rcases ic H with ⟨hb25,H⟩|⟨hb25,H⟩
 ·refine Cd.condT rfl hb25<|Cd.tail 9 (by kernel_rfl) (by kernel_rfl)<|qr (Ev.move rfl)<|qr (Ev.move rfl)<|qr (Ev.nilCheck rfl)<|qr (Ev.load (i:=1) rfl rfl I3 (v:=iv x4) ((Get.vecN (s:=1) (x:=x4) rfl g6.2.2 gh0).off (by omega)))<|qr (Ev.fo 2 rfl U138 rfl Z3 rfl rfl)<|qr (Ev.load (i:=0) rfl rfl I3 (v:=iv a1.N) ((Cmd.get_N gh0).off rfl)) ?_
  obtain ⟨r26,h27,H⟩:=bs H
  refine Qt.call rfl rfl (by decide) (vs:=[iv a1.N]) ⟨rfl,trivial⟩ Tryz.call124 (same_clamp_sim h27 w0 _ M _ (sc2 hM))<|qr (Ev.max2 rfl rfl)<|qr (Ev.nilCheck rfl)<|Qt.tail ?_
  obtain ⟨p30,h31,H⟩:=Let_some H
  refine lst 1 rfl rfl rfl Z3 (vs:=[iv (max x4 r26)]) rfl rfl rfl (cs':=enc p30) (by rw [← h31]; exact (Put.vecN (s:=1) (x:=x4) rfl g6.2.2 (Put.here (vs:=[iv (max x4 r26)]) rfl)).off (by omega)) rfl<|Lst.nil<|At.in_normal ?_
  obtain rfl:=si H
  exact At.ret0 (.inr rfl) rfl fl (sc1 rl) ⟨rfl,rfl⟩
 refine Cd.condF rfl hb25<|sr0<|lr (Ev.eql rfl rfl)<|as1 rfl<|nt0 ?_
 rcases ic2 H with ⟨hb32,H⟩|⟨hb32,H⟩
 ·refine Cd.condF rfl hb32<|Cd.skip<|At.in_normal ?_
  obtain rfl:=si H
  exact At.ret0 (.inr rfl) rfl fl (sc1 rl) ⟨rfl,rfl⟩
 refine Cd.condT rfl hb32<|Cd.tail 8 (by kernel_rfl) (by kernel_rfl)<|qr (Ev.move rfl)<|qr (Ev.move rfl)<|qr (Ev.fo 2 rfl U138 rfl Z3 rfl rfl)<|qr (Ev.load (i:=0) rfl rfl I3 (v:=iv a1.N) ((Cmd.get_N gh0).off rfl))<|qr (Ev.nilCheck rfl) ?_
 obtain ⟨x33,h34,H⟩:=bs H
 have g35:=vat_some h34
 refine qr (Ev.indexAddr (off':=0+a1.N.toNat * 1) rfl rfl U57 Z3 g35.1 g35.2.1 rfl)<|qr (Ev.load (i:=1) rfl rfl I3 (v:=iv x33) ((Get.vecN (s:=1) (x:=x33) rfl g35.2.2 gh0).off (by omega)))<|qr (Ev.nilCheck rfl)<|Qt.tail ?_
 obtain ⟨p36,h37,H⟩:=Let_some H
 refine lst 1 rfl rfl rfl Z3 (vs:=[iv x33]) rfl rfl rfl (cs':=enc p36) (by rw [← h37]; exact (Put.vecN (s:=1) (x:=x4) rfl g6.2.2 (Put.here (vs:=[iv x33]) rfl)).off (by omega)) rfl<|Lst.nil<|At.in_normal ?_
 obtain rfl:=si H
 exact At.ret0 (.inr rfl) rfl fl (sc1 rl) ⟨rfl,rfl⟩
theorem same_Run_sim {fu:Nat} {a0:Vector Int 10} {a1:List Str} {sa1:Sl} {r:(Vector Int 10)×Int} (H:same_Run fu a0 a1=some r) (w0:World) (F:Frz) (M L:List Item) (hM:M.Sublist L) (pa1:Rd w0 F M sa1 a1):Ok Tryz.prog w0 33 [.agg (enc a0).toArray,Sl.v sa1] F (L) (Is (.tuple #[.agg (enc r.1).toArray,iv r.2]) (L)):=by
 unfold same_Run at H
 refine Ok.enter (m:=2) (n:=31) Tryz.func33 rfl rfl rfl (by decide)<|Cd.env (e':=[(0,.agg (enc a0).toArray),(1,Sl.v sa1)]) rfl<|sr0 ?_
 refine Lst.box rfl rfl (by decide) rfl (cs:=enc a0) rfl (fun b1=>?_)
 refine Lst.alloc (cs:=enc (Vector.replicate 10 (0:Int))) rfl rfl (by decide) Tryz.zeroValue57 rfl (fun b3=>?_)
 refine as1 rfl<|nsr<|as1 rfl<|nt0<|Cd.seq<|sr0<|mv1 rfl<|lr (Ev.lenS (α:=Str) (xs:=a1) (by decide) rfl rfl U43 (pa1.mono fl (sc2 hM)))<|mv1 rfl<|nt0<|Cd.block ?_
 refine Cd.bound (Rd.le (α:=Str) (xs:=a1) (by decide) (pa1.mono fl (sc2 hM))) (fun hN24=>?_)
 obtain ⟨ol5,H,HKl5⟩:=bs H
 refine Cd.loop (σ:=Nat×Nat×Int×(Vector Int 10)) (fun (i5,k5,y6,y7)=>[(2,pv b1 0),(4,pv b3 0),(6,iv y6),(11,Sl.v sa1),(12,iv (a1.length:Int)),(13,iv (i5:Int))]) (fun (i5,k5,y6,y7)=>(.blk b3 (enc (Vector.replicate 10 (0:Int))) 57)::(.blk b1 (enc y7) 57)::L) (fun _=>(fun (i5,k5,y6,y7)=>rangeF (same_Run_B0 fu a1) k5 i5 (y6,y7)=some ol5∧i5+k5=a1.length)) (fun (i5,k5,y6,y7)=>k5) (0,a1.length,(0:Int),a0) ⟨rfl,rfl,rfl,rfl,rfl,rfl,trivial⟩ rfl ⟨H,by omega⟩ ?_
 rintro F8 ⟨i5,k5,y6,y7⟩ hF9 ⟨H,hik5⟩
 rcases k5 with _ | k5
 ·have hc5:decide ((i5:Int) < (a1.length:Int))=false:=decide_eq_false (by omega)
  replace H:=rangeF_end H
  refine sr0<|lr (Ev.lss rfl rfl)<|nt0<|Cd.seq<|Cd.condF rfl hc5<|Cd.exit<|At.then_exit<|At.then_exit<|At.in_exit ?_
  subst H
  replace H:=HKl5
  refine At.then<|sr0<|lr (Ev.loadA (i:=1) rfl rfl I57 Z57 (ch:=enc y7) el gh0)<|mv1 rfl<|lst 0 rfl rfl rfl Z57 (vs:=enc y7) rfl el (Enc.one _) (cs':=enc y7) phl rfl<|as1 rfl<|nt0 ?_
  obtain rfl:=si H
  refine Cd.ret ?_
  exact At.ret2 rfl (Res.cellA (i:=0) rfl rfl I57 Z57 el) (Res.tmp rfl) hF9 (sc2 rl) ⟨rfl,rfl⟩
 have hc5:decide ((i5:Int) < (a1.length:Int))=true:=decide_eq_true (by omega)
 obtain ⟨c5,H,hgo5⟩:=rangeF_go H
 unfold same_Run_B0 at H
 try dsimp only at H
 refine sr0<|lr (Ev.lss rfl rfl)<|nt0<|Cd.seq<|Cd.condT rfl hc5<|Cd.skip<|At.then<|Cd.seq<|Cd.block<|sr0 ?_
 obtain ⟨x10,h11,H⟩:=bs H
 have g12:=lat_some h11
 refine lr (Ev.indexS (α:=Str) (xs:=a1) rfl rfl U43 Z9 rfl (by decide) (pa1.mono hF9 (sc2 hM)) g12.1 g12.2.1)<|lr (Ev.loadS (α:=Str) rfl (pa1.mono hF9 (sc2 hM)) I9 (v:=Str.v x10) ((Get.elemN (s:=1) (x:=x10) rfl g12.2.2 gh0).off (by omega)))<|as1 rfl<|nsr<|mv1 rfl ?_
 obtain ⟨r13,h14,H⟩:=bs H
 refine cl1 rfl (vs:=[Str.v x10]) ⟨rfl,trivial⟩ Tryz.call67 (same_Read_sim h14 w0 _ M _ (sc2 hM))<|mv1 rfl<|lr (Ev.extract rfl rfl)<|lr (Ev.extract rfl rfl) ?_
 refine Lst.alloc (cs:=enc Cmd.zero) rfl rfl (by decide) Tryz.zeroValue138 rfl (fun b17=>?_)
 refine lst 0 rfl rfl rfl Z138 (vs:=enc r13.1) rfl el (Enc.one _) (cs':=enc r13.1) phl rfl<|as1 rfl<|nt0<|Cd.seq<|sr0<|mv1 rfl<|lr (Ev.neq rfl rfl)<|nt0 ?_
 rcases ic H with ⟨hb19,H⟩|⟨hb19,H⟩
 ·refine Cd.condT rfl hb19<|sr0<|mv1 rfl<|lr (Ev.add rfl rfl)<|as1 rfl<|nt0<|Cd.exit<|At.then_exit<|At.in_exit<|At.then<|Cd.region ?_
  refine lr (Ev.incr (by omega) rfl rfl)<|mv1 rfl<|Lst.nil<|At.less (sc1 rl) ?_
  exact At.meet (i5+1,k5,w64 (y6+(1:Int)),y7) hF9 ⟨rfl,rfl,rfl,rfl,rfl,rfl,trivial⟩ rfl ⟨⟨hgo5 _ (sj H),by omega⟩,nls⟩
 refine Cd.condF rfl hb19<|Cd.skip<|At.then<|Cd.region<|lr (Ev.loadA (i:=0) rfl rfl I138 Z138 (ch:=enc r13.1) el gh0) ?_
 obtain ⟨r20,h21,H⟩:=bs H
 refine lf 2 rfl ?_
 refine cl rfl (vs:=[pv b1 0,.agg (enc r13.1).toArray]) ⟨rfl,rfl,trivial⟩ Tryz.call68 (same_run_sim h21 w0 _ M _ (sc2 hM)) (fun F22 L' v hF23 hv=>?_)
 obtain ⟨rfl,rfl⟩:=hv
 refine Lst.nil<|At.in_normal<|At.then<|Cd.region<|lr (Ev.incr (by omega) rfl rfl)<|mv1 rfl<|Lst.nil<|af 2 rfl<|At.less (sk2 (sc1 rl)) ?_
 exact At.meet (i5+1,k5,y6,r20) (ft hF9 hF23) ⟨rfl,rfl,rfl,rfl,rfl,rfl,trivial⟩ rfl ⟨⟨hgo5 _ (sj H),by omega⟩,nls⟩
theorem world_World_Vals_sim {fu:Nat} {a0:Wld} {a1:Int} {ba0:Nat} {sa0x1:Sl} {ra0x1:List ProcessR} {sa0x2:Sl} {sa0x3:Sl} {r:(Vector Int 10)×Int} (H:world_World_Vals fu a0 a1=some r) (w0:World) (F:Frz) (M L:List Item) (hM:M.Sublist L) (ma0x1:ra0x1.map ProcessR.v=a0.all) (na0x1:All ProcessR.frel w0 F [] ra0x1):Ok Tryz.prog w0 17 [pv ba0 0,iv a1] F ((.rows (α:=Saying) 62 (List.map ProcessR.row ra0x1))::(.own sa0x1 100 8 (encs ra0x1))::(.own sa0x2 9 1 (encs a0.ordered))::(.own sa0x3 9 1 (encs a0.way))::(.blk ba0 (enc (WldR.mk a0 sa0x1 sa0x2 sa0x3)) 95)::L) (Is (.tuple #[.agg (enc r.1).toArray,iv r.2]) ((.rows (α:=Saying) 62 (List.map ProcessR.row ra0x1))::(.own sa0x1 100 8 (encs ra0x1))::(.own sa0x2 9 1 (encs a0.ordered))::(.own sa0x3 9 1 (encs a0.way))::(.blk ba0 (enc (WldR.mk a0 sa0x1 sa0x2 sa0x3)) 95)::L)):=by
 unfold world_World_Vals at H
 refine Ok.enter (m:=2) (n:=42) Tryz.func17 rfl rfl rfl (by decide)<|Cd.env (e':=[(0,pv ba0 0),(1,iv a1)]) rfl<|sr0 ?_
 refine Lst.alloc (cs:=enc (Vector.replicate 10 (0:Int))) rfl rfl (by decide) Tryz.zeroValue57 rfl (fun b6=>?_)
 refine as1 rfl<|nsr<|mv1 rfl<|mv1 rfl ?_
 obtain ⟨r8,h9,H⟩:=bs H
 refine lf 5 rfl<|lf 5 rfl<|lf 5 rfl<|lf 5 rfl<|lf 5 rfl ?_
 refine cl rfl (vs:=[pv ba0 0,iv a1]) ⟨rfl,rfl,trivial⟩ Tryz.call15 (world_World_Log_sim h9 w0 _ M _ (sc1 hM) ma0x1 (All.monoProcessF na0x1 fl nsl)) (fun F12 L' v hF13 hv=>?_)
 obtain ⟨s10,rfl,rfl⟩:=hv
 refine mv1 rfl<|lr (Ev.extract rfl rfl)<|lr (Ev.extract rfl rfl)<|as1 rfl<|as1 rfl<|nt0<|Cd.seq<|sr0<|mv1 rfl<|lr (Ev.neq rfl rfl)<|nt0 ?_
 rcases ic H with ⟨hb14,H⟩|⟨hb14,H⟩
 ·refine Cd.condT rfl hb14<|sr0<|lr (Ev.build (v:=.agg (enc ((Vector.replicate 10 (0:Int)):Vector Int 10)).toArray) (pv:=[]) trivial (fun w=>by kernel_rfl))<|mv1 rfl<|lst 6 rfl rfl rfl Z57 (vs:=enc ((Vector.replicate 10 (0:Int)):Vector Int 10)) rfl el (Enc.one _) (cs':=enc ((Vector.replicate 10 (0:Int)):Vector Int 10)) phl rfl<|as1 rfl<|nt0 ?_
  obtain rfl:=si H
  refine Cd.ret<|At.then_ret ?_
  exact At.ret2 rfl (Res.cellA (i:=6) rfl rfl I57 Z57 el) (Res.tmp rfl) hF13 (sc1 (sk1 (sk4 (sc1 rl)))) ⟨rfl,rfl⟩
 refine Cd.condF rfl hb14<|Cd.skip<|At.then<|sr0<|Lst.addNil 9 1<|as1 rfl<|nt0<|Cd.seq<|sr0<|mv1 rfl<|lr (Ev.lenS (α:=Saying) (xs:=r8.1) (by decide) rfl rfl U37 (rdo 1 rfl rfl rfl)) ?_
 refine mv1 rfl<|nt0<|Cd.block ?_
 refine Cd.bound (Rd.le (α:=Saying) (xs:=r8.1) (by decide) (rdo 1 rfl rfl rfl)) (fun hN37=>?_)
 obtain ⟨ol16,H,HKl16⟩:=bs H
 refine Cd.loop (σ:=Nat×Nat×Sl×(List Str)) (fun (i16,k16,s17,l18)=>[(4,pv b6 0),(8,Sl.v s17),(23,Sl.v s10),(24,iv (r8.1.length:Int)),(25,iv (i16:Int))]) (fun (i16,k16,s17,l18)=>(.own s17 9 1 (encs l18))::(.own s10 62 2 (encs r8.1))::(.rows (α:=Saying) 62 (List.map ProcessR.row ra0x1))::(.own sa0x1 100 8 (encs ra0x1))::(.own sa0x2 9 1 (encs a0.ordered))::(.own sa0x3 9 1 (encs a0.way))::(.blk ba0 (enc (WldR.mk a0 sa0x1 sa0x2 sa0x3)) 95)::(.blk b6 (enc (Vector.replicate 10 (0:Int))) 57)::L) (fun _=>(fun (i16,k16,s17,l18)=>rangeF (world_World_Vals_B0 r8) k16 i16 l18=some ol16∧i16+k16=r8.1.length)) (fun (i16,k16,s17,l18)=>k16) (0,r8.1.length,Sl.nil,([]:List Str)) ⟨rfl,rfl,rfl,rfl,rfl,trivial⟩ rfl ⟨H,by omega⟩ ?_
 rintro F19 ⟨i16,k16,s17,l18⟩ hF20 ⟨H,hik16⟩
 rcases k16 with _ | k16
 ·have hc16:decide ((i16:Int) < (r8.1.length:Int))=false:=decide_eq_false (by omega)
  replace H:=rangeF_end H
  refine sr0<|lr (Ev.lss rfl rfl)<|nt0<|Cd.seq<|Cd.condF rfl hc16<|Cd.exit<|At.then_exit<|At.then_exit<|At.in_exit ?_
  subst H
  replace H:=HKl16
  refine At.then<|sr0<|lr (Ev.build (v:=.agg (enc ((Vector.replicate 10 (0:Int)):Vector Int 10)).toArray) (pv:=[]) trivial (fun w=>by kernel_rfl))<|mv1 rfl ?_
  obtain ⟨r31,h32,H⟩:=bs H
  refine cl1 rfl (vs:=[.agg (enc ((Vector.replicate 10 (0:Int)):Vector Int 10)).toArray,Sl.v s17]) ⟨rfl,rfl,trivial⟩ Tryz.call33 (same_Run_sim h32 w0 _ _ _ rl (rdo 0 rfl rfl rfl))<|mv1 rfl<|lr (Ev.extract rfl rfl)<|lr (Ev.extract rfl rfl) ?_
  refine Lst.alloc (cs:=enc (Vector.replicate 10 (0:Int))) rfl rfl (by decide) Tryz.zeroValue57 rfl (fun b35=>?_)
  refine lst 0 rfl rfl rfl Z57 (vs:=enc r31.1) rfl el (Enc.one _) (cs':=enc r31.1) phl rfl<|as1 rfl<|nsr<|lr (Ev.loadA (i:=0) rfl rfl I57 Z57 (ch:=enc r31.1) el gh0)<|lst 8 rfl rfl rfl Z57 (vs:=enc r31.1) rfl el (Enc.one _) (cs':=enc r31.1) phl rfl<|as1 rfl<|nt0 ?_
  obtain rfl:=si H
  refine Cd.ret ?_
  exact At.ret2 rfl (Res.cellA (i:=8) rfl rfl I57 Z57 el) (Res.tmp rfl) (ft hF13 hF20) (sc1 (sc2 (sk1 (sk4 (sc1 rl))))) ⟨rfl,rfl⟩
 have hc16:decide ((i16:Int) < (r8.1.length:Int))=true:=decide_eq_true (by omega)
 obtain ⟨c16,H,hgo16⟩:=rangeF_go H
 unfold world_World_Vals_B0 at H
 try dsimp only at H
 refine sr0<|lr (Ev.lss rfl rfl)<|nt0<|Cd.seq<|Cd.condT rfl hc16<|Cd.skip<|At.then<|Cd.seq<|Cd.block<|sr0 ?_
 obtain ⟨x21,h22,H⟩:=bs H
 have g23:=lat_some h22
 refine lr (Ev.indexS (α:=Saying) (xs:=r8.1) rfl rfl U37 Z62 rfl (by decide) (rdo 1 rfl rfl rfl) g23.1 g23.2.1)<|lr (Ev.loadSA (α:=Saying) rfl (rdo 1 rfl rfl rfl) I62 Z62 (ch:=enc x21) el (by decide) ((Get.elemN (s:=2) (x:=x21) rfl g23.2.2 gh0).off (by omega))) ?_
 refine Lst.alloc (cs:=enc Saying.zero) rfl rfl (by decide) Tryz.zeroValue62 rfl (fun b24=>?_)
 refine lst 0 rfl rfl rfl Z62 (vs:=enc x21) rfl el (Enc.one _) (cs':=enc x21) phl rfl<|nt0<|Cd.region<|mv1 rfl<|lr (Ev.fo 1 rfl U62 rfl Z9 rfl rfl)<|lr (Ev.load (i:=0) rfl rfl I9 (v:=Str.v x21.Text) ((Saying.get_Text gh0).off rfl)) ?_
 refine Lst.buildSlice (α:=Str) (xs:=([x21.Text]:List Str)) (pv:=[(0,Str.v x21.Text)]) rfl rfl (by decide) ⟨rfl,rfl,trivial⟩ (run_buildSlice (α:=Str) (z0:=([]:Str)) (xs:=([x21.Text]:List Str)) U43 Z9 Tryz.zeroValue9 rfl rfl rfl (by decide) rfl (fill_one rfl rfl)) rfl rfl (by decide) (fun s26 _=>?_)
 obtain ⟨u28,h29,H⟩:=bs H
 refine Lst.append (i:=2) (α:=Str) (xs:=l18) (ys:=([x21.Text]:List Str)) rfl rfl (by decide) rfl rfl U43 Tryz.typeInfo9 rfl rfl rfl rfl rfl rfl (rdo 0 rfl rfl rfl) rfl (room_some h29) rfl (fun s30=>?_)
 refine as1 rfl<|Lst.nil<|At.in_normal<|At.then<|Cd.region<|lr (Ev.incr (by omega) rfl rfl)<|mv1 rfl<|Lst.nil<|At.less (sc2 rl) ?_
 exact At.meet (i16+1,k16,s30,l18++([x21.Text]:List Str)) hF20 ⟨rfl,rfl,rfl,rfl,rfl,trivial⟩ rfl ⟨⟨hgo16 _ (sj H),by omega⟩,nls⟩
theorem strings_HasPrefix_sim {a0:Str} {a1:Str} {r:Bool} (H:strings_HasPrefix a0 a1=some r) (w0:World) (F:Frz) (M L:List Item) (hM:M.Sublist L):Ok Tryz.prog w0 185 [Str.v a0,Str.v a1] F (L) (Is (.bool r) (L)):=by
 unfold strings_HasPrefix at H
 refine Ok.enter (m:=2) (n:=8) Tryz.func185 rfl rfl rfl (by decide)<|Cd.env (e':=[(0,Str.v a0),(1,Str.v a1)]) rfl<|sr0<|as1 rfl<|nsr<|mv1 rfl<|mv1 rfl ?_
 obtain ⟨r1,h2,H⟩:=bs H
 refine cl1 rfl (vs:=[Str.v a0,Str.v a1]) ⟨rfl,rfl,trivial⟩ Tryz.call231 (internal_stringslite_HasPrefix_sim h2 w0 _ M _ hM)<|as1 rfl<|nt0 ?_
 obtain rfl:=si H
 refine Cd.ret ?_
 exact At.ret1 rfl (Res.tmp rfl) fl rl ⟨rfl,rfl⟩
theorem partref_numberOf_sim {a0:Str} {r:Int×Bool} (H:partref_numberOf a0=some r) (w0:World) (F:Frz) (M L:List Item) (hM:M.Sublist L):Ok Tryz.prog w0 134 [Str.v a0] F (L) (Is (.tuple #[iv r.1,.bool r.2]) (L)):=by
 unfold partref_numberOf at H
 refine Ok.enter (m:=1) (n:=45) Tryz.func134 rfl rfl rfl (by decide)<|Cd.env (e':=[(0,Str.v a0)]) rfl<|sr0<|as1 rfl<|as1 rfl<|nsr<|mv1 rfl<|as1 rfl<|as1 rfl<|nt0 ?_
 obtain ⟨o3,H,HKo3⟩:=bs H
 refine Cd.join (σ:=Str×Int) (fun (y1,y2)=>[(4,Str.v y1),(5,iv y2)]) (fun (y1,y2)=>L) (fun _ (y1,y2)=>(y1,y2)=o3) ?_ ?_
 ·refine sr0<|mv1 rfl ?_
  obtain ⟨r4,h5,H⟩:=bs H
  refine cl1 rfl (vs:=[Str.v a0,Str.v ([45]:Str)]) ⟨rfl,rfl,trivial⟩ Tryz.call185 (strings_HasPrefix_sim h5 w0 _ M _ hM)<|nt0 ?_
  rcases ic2 H with ⟨hb8,H⟩|⟨hb8,H⟩
  ·refine Cd.condF rfl hb8<|Cd.skip ?_
   exact At.meet (a0,(1:Int)) fl ⟨rfl,rfl,trivial⟩ rfl (si H)
  refine Cd.condT rfl hb8<|Cd.region<|mv1 rfl ?_
  obtain ⟨m9,h10,H⟩:=bs H
  refine lr (Ev.sliceStrFrom rfl rfl  U9 h10)<|as1 rfl<|as1 rfl<|Lst.nil ?_
  exact At.meet (m9,(-1:Int)) fl ⟨rfl,rfl,trivial⟩ rfl (si H)
 rintro F11 ⟨y1,y2⟩ hF12 hy
 subst hy
 replace H:=HKo3
 refine Cd.seq<|sr0<|mv1 rfl<|lr (Ev.lenStr rfl rfl U9)<|lr (Ev.lss rfl rfl)<|mv1 rfl ?_
 obtain ⟨o13,H,HKo13⟩:=bs H
 refine Lst.join (σ:=Bool) 4 (fun y14=>[(4,Str.v y1),(5,iv y2),(21,.bool y14)]) (fun y14=>L) (fun _ y14=>y14=o13) ?_ ?_
 ·rcases ic H with ⟨hb15,H⟩|⟨hb15,H⟩
  ·refine lsk rfl hb15<|lsk rfl hb15<|lsk rfl hb15<|lr (Ev.pickT rfl hb15 rfl)<|Lst.nil ?_
   exact At.meet true fl ⟨rfl,rfl,rfl,trivial⟩ rfl (si H)
  refine lg hb15 (Ev.move rfl)<|lg hb15 (Ev.lenStr rfl rfl U9)<|lg hb15 (Ev.gtr rfl rfl)<|lr (Ev.pickF rfl hb15 rfl)<|Lst.nil ?_
  exact At.meet (decide ((y1.length:Int) > (9:Int))) fl ⟨rfl,rfl,rfl,trivial⟩ rfl (si H)
 rintro F16 y14 hF17 hy
 subst hy
 replace H:=HKo13
 refine nt0 ?_
 rcases ic H with ⟨hb18,H⟩|⟨hb18,H⟩
 ·refine Cd.condT rfl hb18<|sr0<|as1 rfl<|as1 rfl<|nt0 ?_
  obtain rfl:=si H
  refine Cd.ret<|At.then_ret ?_
  exact At.ret2 rfl (Res.tmp rfl) (Res.tmp rfl) (ft hF12 hF17) rl ⟨rfl,rfl⟩
 refine Cd.condF rfl hb18<|Cd.skip<|At.then<|sr0<|as1 rfl<|nt0<|Cd.seq<|sr0<|mv1 rfl ?_
 obtain ⟨u19,h20,H⟩:=bs H
 refine Lst.bytesOf (el:=5) rfl rfl (by decide) rfl (by kernel_rfl) (by kernel_rfl) (by kernel_rfl) (by have:=room_some h20; simp at this; omega) (fun s21 F22 hF23 hq24=>?_)
 refine lr (Ev.lenS (α:=BitVec 8) (xs:=(Str.bytes y1)) (by decide) rfl rfl U183 (hq24.mono fl nsl))<|mv1 rfl<|nt0<|Cd.block ?_
 refine Cd.bound (Rd.le (α:=BitVec 8) (xs:=(Str.bytes y1)) (by decide) (hq24.mono fl nsl)) (fun hN38=>?_)
 obtain ⟨ol25,H,HKl25⟩:=andThen_some H
 refine Cd.loop (σ:=Nat×Nat×Int) (fun (i25,k25,y26)=>[(5,iv y2),(6,iv y26),(23,Sl.v s21),(24,iv ((Str.bytes y1).length:Int)),(25,iv (i25:Int))]) (fun (i25,k25,y26)=>L) (fun _=>(fun (i25,k25,y26)=>rangeM (partref_numberOf_B0 y1) k25 i25 y26=some ol25∧i25+k25=(Str.bytes y1).length)) (fun (i25,k25,y26)=>k25) (0,(Str.bytes y1).length,(0:Int)) ⟨rfl,rfl,rfl,rfl,rfl,trivial⟩ rfl ⟨H,by omega⟩ ?_
 rintro F27 ⟨i25,k25,y26⟩ hF28 ⟨H,hik25⟩
 rcases k25 with _ | k25
 ·have hc25:decide ((i25:Int) < ((Str.bytes y1).length:Int))=false:=decide_eq_false (by omega)
  replace H:=rangeM_end H
  refine sr0<|lr (Ev.lss rfl rfl)<|nt0<|Cd.seq<|Cd.condF rfl hc25<|Cd.exit<|At.then_exit<|At.then_exit<|At.in_exit ?_
  subst H
  replace H:=HKl25
  refine At.then<|sr0<|mv1 rfl<|mv1 rfl<|lr (Ev.mul rfl rfl)<|as1 rfl<|as1 rfl<|nt0 ?_
  obtain rfl:=si H
  refine Cd.ret ?_
  exact At.ret2 rfl (Res.tmp rfl) (Res.tmp rfl) (ft (ft (ft hF12 hF17) hF23) hF28) rl ⟨rfl,rfl⟩
 have hc25:decide ((i25:Int) < ((Str.bytes y1).length:Int))=true:=decide_eq_true (by omega)
 obtain ⟨c25,H,hgo25,hbrk25,hret25⟩:=rangeM_go H
 unfold partref_numberOf_B0 at H
 try dsimp only at H
 refine sr0<|lr (Ev.lss rfl rfl)<|nt0<|Cd.seq<|Cd.condT rfl hc25<|Cd.skip<|At.then<|Cd.seq<|Cd.block<|sr0 ?_
 obtain ⟨x29,h30,H⟩:=bs H
 have g31:=lat_some h30
 refine lr (Ev.indexS (α:=BitVec 8) (xs:=(Str.bytes y1)) rfl rfl U183 Z5 rfl (by decide) (hq24.mono hF28 nsl) g31.1 g31.2.1)<|lr (Ev.loadS (α:=BitVec 8) rfl (hq24.mono hF28 nsl) I5 (v:=.int .u8 x29.toNat) ((Get.elemN (s:=1) (x:=x29) rfl g31.2.2 gh0).off (by omega)))<|as1 rfl<|nt0<|Cd.seq<|sr0<|mv1 rfl<|lr (Ev.lss rfl rfl)<|mv1 rfl ?_
 obtain ⟨o32,H,HKo32⟩:=bs H
 refine Lst.join (σ:=Bool) 3 (fun y33=>[(5,iv y2),(6,iv y26),(8,.int .u8 x29.toNat),(23,Sl.v s21),(24,iv ((Str.bytes y1).length:Int)),(25,iv (i25:Int)),(34,.bool y33)]) (fun y33=>L) (fun _ y33=>y33=o32) ?_ ?_
 ·rcases ic H with ⟨hb34,H⟩|⟨hb34,H⟩
  ·refine lsk rfl hb34<|lsk rfl hb34<|lr (Ev.pickT rfl hb34 rfl)<|Lst.nil ?_
   exact At.meet true fl ⟨rfl,rfl,rfl,rfl,rfl,rfl,rfl,trivial⟩ rfl (si H)
  refine lg hb34 (Ev.move rfl)<|lg hb34 (Ev.gtr rfl rfl)<|lr (Ev.pickF rfl hb34 rfl)<|Lst.nil ?_
  exact At.meet (decide ((x29.toNat:Int) > ((57:BitVec 8).toNat:Int))) fl ⟨rfl,rfl,rfl,rfl,rfl,rfl,rfl,trivial⟩ rfl (si H)
 rintro F35 y33 hF36 hy
 subst hy
 replace H:=HKo32
 refine nt0 ?_
 rcases ic H with ⟨hb37,H⟩|⟨hb37,H⟩
 ·refine Cd.condT rfl hb37<|sr0<|as1 rfl<|as1 rfl<|nt0 ?_
  have H:=hret25 _ (sj H)
  subst H
  replace H:=HKl25
  obtain rfl:=si H
  refine Cd.ret<|At.then_ret<|At.in_ret<|At.then_ret<|At.then_ret<|At.in_ret<|At.then_ret ?_
  exact At.ret2 rfl (Res.tmp rfl) (Res.tmp rfl) (ft (ft (ft (ft hF12 hF17) hF23) hF28) hF36) rl ⟨rfl,rfl⟩
 refine Cd.condF rfl hb37<|Cd.skip<|At.then<|Cd.region<|mv1 rfl<|lr (Ev.mul rfl rfl)<|mv1 rfl<|lr (Ev.convIS (j:=(x29.toNat:Int)) rfl U5 U3 (w64_id (by omega) (by omega)))<|lr (Ev.add rfl rfl)<|lr (Ev.sub rfl rfl)<|as1 rfl ?_
 refine Lst.nil<|At.in_normal<|At.then<|Cd.region<|lr (Ev.incr (by omega) rfl rfl)<|mv1 rfl<|Lst.nil ?_
 exact At.meet (i25+1,k25,w64 ((w64 ((w64 (y26 * (10:Int)))+(x29.toNat:Int))) - (48:Int))) (ft hF28 hF36) ⟨rfl,rfl,rfl,rfl,rfl,trivial⟩ rfl ⟨⟨hgo25 _ (sj H),by omega⟩,nls⟩
theorem partref_ReadCmd_sim {fu:Nat} {a0:Str} {r:Cmd×Int} (H:partref_ReadCmd fu a0=some r) (w0:World) (F:Frz) (M L:List Item) (hM:M.Sublist L):Ok Tryz.prog w0 79 [Str.v a0] F (L) (Is (.tuple #[.agg (enc r.1).toArray,iv r.2]) (L)):=by
 unfold partref_ReadCmd at H
 refine Ok.enter (m:=1) (n:=69) Tryz.func79 rfl rfl rfl (by decide)<|Cd.env (e':=[(0,Str.v a0)]) rfl<|sr0 ?_
 refine Lst.alloc (cs:=enc Cmd.zero) rfl rfl (by decide) Tryz.zeroValue138 rfl (fun b1=>?_)
 let T3:Item:=.blk b1 (enc Cmd.zero) 138
 refine as1 rfl<|nsr<|mv1 rfl ?_
 obtain ⟨r3,h4,H⟩:=bs H
 refine cl rfl (vs:=[Str.v a0,Str.v ([32]:Str)]) ⟨rfl,rfl,trivial⟩ Tryz.call52 (strings_Split_sim h4 w0 _ M _ (sc1 hM)) (fun F7 L' v hF8 hv=>?_)
 obtain ⟨s5,rfl,rfl⟩:=hv
 refine as1 rfl<|nt0<|Cd.seq<|sr0<|mv1 rfl<|lr (Ev.lenS (α:=Str) (xs:=r3) (by decide) rfl rfl U43 (rdo 0 rfl rfl rfl))<|lr (Ev.neq rfl rfl)<|nt0 ?_
 rcases ic H with ⟨hb9,H⟩|⟨hb9,H⟩
 ·refine Cd.condT rfl hb9<|sr0<|lr (Ev.build (v:=.agg (enc Cmd.zero).toArray) (pv:=[]) trivial (fun w=>by kernel_rfl))<|lst 1 rfl rfl rfl Z138 (vs:=enc Cmd.zero) rfl el (Enc.one _) (cs':=enc Cmd.zero) phl rfl<|as1 rfl<|nt0 ?_
  obtain rfl:=si H
  refine Cd.ret<|At.then_ret ?_
  exact At.ret2 rfl (Res.cellA (i:=1) rfl rfl I138 Z138 el) (Res.tmp rfl) hF8 (sc2 rl) ⟨rfl,rfl⟩
 refine Cd.condF rfl hb9<|Cd.skip<|At.then<|sr0 ?_
 refine Lst.buildSlice (α:=Str) (xs:=([([]:Str),([115,101,116]:Str),([97,100,100]:Str),([109,111,115,116]:Str),([99,111,112,121]:Str)]:List Str)) (pv:=[(0,Str.v ([]:Str)),(1,Str.v ([115,101,116]:Str)),(2,Str.v ([97,100,100]:Str)),(3,Str.v ([109,111,115,116]:Str)),(4,Str.v ([99,111,112,121]:Str))]) rfl rfl (by decide) ⟨rfl,rfl,⟨rfl,rfl,⟨rfl,rfl,⟨rfl,rfl,⟨rfl,rfl,trivial⟩⟩⟩⟩⟩ (run_buildSlice (α:=Str) (z0:=([]:Str)) (xs:=([([]:Str),([115,101,116]:Str),([97,100,100]:Str),([109,111,115,116]:Str),([99,111,112,121]:Str)]:List Str)) U43 Z9 Tryz.zeroValue9 rfl rfl rfl (by decide) rfl (fill_cons (cs:=encs (List.replicate 5 ([]:Str))) (cs':=encs ((List.replicate 5 ([]:Str)).set 0 ([]:Str))) (vs:=[Str.v ([]:Str)]) rfl rfl rfl ((Put.elemN (s:=1) (i:=0) (x:=([]:Str)) (y:=([]:Str)) rfl rfl (Put.here (vs:=[Str.v ([]:Str)]) rfl)).off rfl) (fill_cons (cs:=encs ((List.replicate 5 ([]:Str)).set 0 ([]:Str))) (cs':=encs (((List.replicate 5 ([]:Str)).set 0 ([]:Str)).set 1 ([115,101,116]:Str))) (vs:=[Str.v ([115,101,116]:Str)]) rfl rfl rfl ((Put.elemN (s:=1) (i:=1) (x:=([]:Str)) (y:=([115,101,116]:Str)) rfl rfl (Put.here (vs:=[Str.v ([115,101,116]:Str)]) rfl)).off rfl) (fill_cons (cs:=encs (((List.replicate 5 ([]:Str)).set 0 ([]:Str)).set 1 ([115,101,116]:Str))) (cs':=encs ((((List.replicate 5 ([]:Str)).set 0 ([]:Str)).set 1 ([115,101,116]:Str)).set 2 ([97,100,100]:Str))) (vs:=[Str.v ([97,100,100]:Str)]) rfl rfl rfl ((Put.elemN (s:=1) (i:=2) (x:=([]:Str)) (y:=([97,100,100]:Str)) rfl rfl (Put.here (vs:=[Str.v ([97,100,100]:Str)]) rfl)).off rfl) (fill_cons (cs:=encs ((((List.replicate 5 ([]:Str)).set 0 ([]:Str)).set 1 ([115,101,116]:Str)).set 2 ([97,100,100]:Str))) (cs':=encs (((((List.replicate 5 ([]:Str)).set 0 ([]:Str)).set 1 ([115,101,116]:Str)).set 2 ([97,100,100]:Str)).set 3 ([109,111,115,116]:Str))) (vs:=[Str.v ([109,111,115,116]:Str)]) rfl rfl rfl ((Put.elemN (s:=1) (i:=3) (x:=([]:Str)) (y:=([109,111,115,116]:Str)) rfl rfl (Put.here (vs:=[Str.v ([109,111,115,116]:Str)]) rfl)).off rfl) (fill_cons (cs:=encs (((((List.replicate 5 ([]:Str)).set 0 ([]:Str)).set 1 ([115,101,116]:Str)).set 2 ([97,100,100]:Str)).set 3 ([109,111,115,116]:Str))) (cs':=encs ((((((List.replicate 5 ([]:Str)).set 0 ([]:Str)).set 1 ([115,101,116]:Str)).set 2 ([97,100,100]:Str)).set 3 ([109,111,115,116]:Str)).set 4 ([99,111,112,121]:Str))) (vs:=[Str.v ([99,111,112,121]:Str)]) rfl rfl rfl ((Put.elemN (s:=1) (i:=4) (x:=([]:Str)) (y:=([99,111,112,121]:Str)) rfl rfl (Put.here (vs:=[Str.v ([99,111,112,121]:Str)]) rfl)).off rfl) fill_nil)))))) rfl rfl (by decide) (fun s10 _=>?_)
 let T0:Item:=.own s10 9 1 (encs ([([]:Str),([115,101,116]:Str),([97,100,100]:Str),([109,111,115,116]:Str),([99,111,112,121]:Str)]:List Str))
 refine mv1 rfl ?_
 obtain ⟨x12,h13,H⟩:=bs H
 have g14:=lat_some h13
 refine lr (Ev.indexS (α:=Str) (xs:=r3) rfl rfl U43 Z9 rfl (by decide) (rdo 1 rfl rfl rfl) g14.1 g14.2.1)<|lr (Ev.loadS (α:=Str) rfl (rdo 1 rfl rfl rfl) I9 (v:=Str.v x12) ((Get.elemN (s:=1) (x:=x12) rfl g14.2.2 gh0).off (by omega))) ?_
 obtain ⟨r15,h16,H⟩:=bs H
 refine cl1 rfl (vs:=[Sl.v s10,Str.v x12]) ⟨rfl,rfl,trivial⟩ Tryz.call121 (slices_Index_string_string_sim h16 w0 _ _ _ rl (rdo 0 rfl rfl rfl))<|as1 rfl<|nsr<|mv1 rfl ?_
 obtain ⟨x19,h20,H⟩:=bs H
 have g21:=lat_some h20
 refine lr (Ev.indexS (α:=Str) (xs:=r3) rfl rfl U43 Z9 rfl (by decide) (rdo 1 rfl rfl rfl) g21.1 g21.2.1)<|lr (Ev.loadS (α:=Str) rfl (rdo 1 rfl rfl rfl) I9 (v:=Str.v x19) ((Get.elemN (s:=1) (x:=x19) rfl g21.2.2 gh0).off (by omega))) ?_
 obtain ⟨r22,h23,H⟩:=bs H
 refine cl1 rfl (vs:=[Str.v x19]) ⟨rfl,trivial⟩ Tryz.call134 (partref_numberOf_sim h23 w0 _ M _ (sc2 (sc1 hM)))<|mv1 rfl<|lr (Ev.extract rfl rfl)<|lr (Ev.extract rfl rfl)<|as1 rfl<|as1 rfl<|nsr<|mv1 rfl ?_
 obtain ⟨x26,h27,H⟩:=bs H
 have g28:=lat_some h27
 refine lr (Ev.indexS (α:=Str) (xs:=r3) rfl rfl U43 Z9 rfl (by decide) (rdo 1 rfl rfl rfl) g28.1 g28.2.1)<|lr (Ev.loadS (α:=Str) rfl (rdo 1 rfl rfl rfl) I9 (v:=Str.v x26) ((Get.elemN (s:=1) (x:=x26) rfl g28.2.2 gh0).off (by omega))) ?_
 obtain ⟨r29,h30,H⟩:=bs H
 let T1:=({Cmd.zero with Kind:=r15,Key:=r22.1,N:=r29.1}:Cmd)
 refine cl1 rfl (vs:=[Str.v x26]) ⟨rfl,trivial⟩ Tryz.call134 (partref_numberOf_sim h30 w0 _ M _ (sc2 (sc1 hM)))<|mv1 rfl<|lr (Ev.extract rfl rfl)<|lr (Ev.extract rfl rfl)<|as1 rfl<|as1 rfl<|nt0<|Cd.seq<|sr0<|mv1 rfl<|lr (Ev.lss rfl rfl) ?_
 refine mv1 rfl ?_
 obtain ⟨o33,H,HKo33⟩:=bs H
 refine Lst.join (σ:=Bool) 3 (fun y34=>[(2,pv b1 0),(5,iv r15),(6,iv r22.1),(8,iv r29.1),(9,.bool r29.2),(40,.bool y34)]) (fun y34=>T0::(.own s5 9 1 (encs r3))::T3::L) (fun _ y34=>y34=o33) ?_ ?_
 ·rcases ic H with ⟨hb35,H⟩|⟨hb35,H⟩
  ·refine lsk rfl hb35<|lsk rfl hb35<|lr (Ev.pickT rfl hb35 rfl)<|Lst.nil ?_
   exact At.meet true fl ⟨rfl,rfl,rfl,rfl,rfl,rfl,trivial⟩ rfl (si H)
  refine lg hb35 (Ev.move rfl)<|lg hb35 (Ev.not rfl)<|lr (Ev.pickF rfl hb35 rfl)<|Lst.nil ?_
  exact At.meet (!r22.2) fl ⟨rfl,rfl,rfl,rfl,rfl,rfl,trivial⟩ rfl (si H)
 rintro F36 y34 hF37 hy
 subst hy
 replace H:=HKo33
 refine mv1 rfl ?_
 obtain ⟨o38,H,HKo38⟩:=bs H
 refine Lst.join (σ:=Bool) 3 (fun y39=>[(2,pv b1 0),(5,iv r15),(6,iv r22.1),(8,iv r29.1),(44,.bool y39)]) (fun y39=>T0::(.own s5 9 1 (encs r3))::T3::L) (fun _ y39=>y39=o38) ?_ ?_
 ·rcases ic H with ⟨hb40,H⟩|⟨hb40,H⟩
  ·refine lsk rfl hb40<|lsk rfl hb40<|lr (Ev.pickT rfl hb40 rfl)<|Lst.nil ?_
   exact At.meet true fl ⟨rfl,rfl,rfl,rfl,rfl,trivial⟩ rfl (si H)
  refine lg hb40 (Ev.move rfl)<|lg hb40 (Ev.not rfl)<|lr (Ev.pickF rfl hb40 rfl)<|Lst.nil ?_
  exact At.meet (!r29.2) fl ⟨rfl,rfl,rfl,rfl,rfl,trivial⟩ rfl (si H)
 rintro F41 y39 hF42 hy
 subst hy
 replace H:=HKo38
 refine nt0 ?_
 rcases ic H with ⟨hb43,H⟩|⟨hb43,H⟩
 ·refine Cd.condT rfl hb43<|sr0<|lr (Ev.build (v:=.agg (enc Cmd.zero).toArray) (pv:=[]) trivial (fun w=>by kernel_rfl))<|lst 2 rfl rfl rfl Z138 (vs:=enc Cmd.zero) rfl el (Enc.one _) (cs':=enc Cmd.zero) phl rfl<|as1 rfl<|nt0 ?_
  obtain rfl:=si H
  refine Cd.ret<|At.then_ret ?_
  exact At.ret2 rfl (Res.cellA (i:=2) rfl rfl I138 Z138 el) (Res.tmp rfl) (ft (ft hF8 hF37) hF42) (sc1 (sc2 rl)) ⟨rfl,rfl⟩
 refine Cd.condF rfl hb43<|Cd.skip<|At.then<|Cd.seq<|sr0<|mv1 rfl<|lr (Ev.lss rfl rfl)<|mv1 rfl ?_
 obtain ⟨o44,H,HKo44⟩:=bs H
 refine Lst.join (σ:=Bool) 3 (fun y45=>[(2,pv b1 0),(5,iv r15),(6,iv r22.1),(8,iv r29.1),(51,.bool y45)]) (fun y45=>T0::(.own s5 9 1 (encs r3))::T3::L) (fun _ y45=>y45=o44) ?_ ?_
 ·rcases ic H with ⟨hb46,H⟩|⟨hb46,H⟩
  ·refine lsk rfl hb46<|lsk rfl hb46<|lr (Ev.pickT rfl hb46 rfl)<|Lst.nil ?_
   exact At.meet true fl ⟨rfl,rfl,rfl,rfl,rfl,trivial⟩ rfl (si H)
  refine lg hb46 (Ev.move rfl)<|lg hb46 (Ev.gtr rfl rfl)<|lr (Ev.pickF rfl hb46 rfl)<|Lst.nil ?_
  exact At.meet (decide (r22.1 > (9:Int))) fl ⟨rfl,rfl,rfl,rfl,rfl,trivial⟩ rfl (si H)
 rintro F47 y45 hF48 hy
 let T2:=ft (ft (ft hF8 hF37) hF42) hF48
 subst hy
 replace H:=HKo44
 refine mv1 rfl ?_
 rcases ic H with ⟨hb49,H⟩|⟨hb49,H⟩
 ·refine lsk rfl hb49<|lsk rfl hb49<|lsk rfl hb49<|Lst.skipU rfl rfl rfl rfl (by decide)<|Lst.skipU rfl rfl rfl rfl (by decide)<|Lst.skipU rfl rfl rfl rfl (by decide)<|Lst.skipU rfl rfl rfl rfl (by decide)<|Lst.skipU rfl rfl rfl rfl (by decide)<|Lst.skipU rfl rfl rfl rfl (by decide)<|lsk rfl hb49<|lr (Ev.pickT rfl hb49 rfl) ?_
  refine nt0<|Cd.condT rfl rfl<|sr0<|lr (Ev.build (v:=.agg (enc Cmd.zero).toArray) (pv:=[]) trivial (fun w=>by kernel_rfl))<|lst 2 rfl rfl rfl Z138 (vs:=enc Cmd.zero) rfl el (Enc.one _) (cs':=enc Cmd.zero) phl rfl<|as1 rfl<|nt0 ?_
  obtain rfl:=si H
  refine Cd.ret<|At.then_ret ?_
  exact At.ret2 rfl (Res.cellA (i:=2) rfl rfl I138 Z138 el) (Res.tmp rfl) T2 (sc1 (sc2 rl)) ⟨rfl,rfl⟩
 refine lg hb49 (Ev.move rfl)<|lg hb49 (Ev.eql rfl rfl)<|lg hb49 (Ev.move rfl) ?_
 rcases ic2 H with ⟨hb50,H⟩|⟨hb50,H⟩
 ·refine lsk rfl hb50<|lsk rfl hb50<|lsk rfl hb50<|Lst.skipU rfl rfl rfl rfl (by decide)<|Lst.skipU rfl rfl rfl rfl (by decide)<|lsk rfl hb50<|lg hb49 (Ev.pickF rfl hb50 rfl)<|lr (Ev.pickF rfl hb49 rfl)<|nt0<|Cd.condF rfl rfl<|Cd.skip ?_
  refine At.then<|sr0<|mv1 rfl<|mv1 rfl<|mv1 rfl<|lr (Ev.build (v:=.agg (enc T1).toArray) (pv:=[(0,iv r15),(1,iv r22.1),(2,iv r29.1)]) ⟨rfl,rfl,⟨rfl,rfl,⟨rfl,rfl,trivial⟩⟩⟩ (fun w=>by kernel_rfl))<|lst 2 rfl rfl rfl Z138 (vs:=enc T1) rfl el (Enc.one _) (cs':=enc T1) phl rfl<|as1 rfl<|nt0 ?_
  obtain rfl:=si H
  refine Cd.ret ?_
  exact At.ret2 rfl (Res.cellA (i:=2) rfl rfl I138 Z138 el) (Res.tmp rfl) T2 (sc1 (sc2 rl)) ⟨rfl,rfl⟩
 refine lg hb50 (Ev.move rfl)<|lg hb50 (Ev.lss rfl rfl)<|lg hb50 (Ev.move rfl) ?_
 obtain ⟨o51,H,HKo51⟩:=bs H
 refine Lst.join (σ:=Bool) 3 (fun y52=>[(2,pv b1 0),(5,iv r15),(6,iv r22.1),(8,iv r29.1),(52,.bool y45),(55,.bool (r15==(4:Int))),(61,.bool y52)]) (fun y52=>T0::(.own s5 9 1 (encs r3))::T3::L) (fun _ y52=>y52=o51) ?_ ?_
 ·rcases ic H with ⟨hb53,H⟩|⟨hb53,H⟩
  ·refine lsk rfl hb53<|lsk rfl hb53<|lg hb50 (Ev.pickT rfl hb53 rfl)<|Lst.nil ?_
   exact At.meet true fl ⟨rfl,rfl,rfl,rfl,rfl,rfl,rfl,trivial⟩ rfl (si H)
  refine lg hb53 (Ev.move rfl)<|lg hb53 (Ev.gtr rfl rfl)<|lg hb50 (Ev.pickF rfl hb53 rfl)<|Lst.nil ?_
  exact At.meet (decide (r29.1 > (9:Int))) fl ⟨rfl,rfl,rfl,rfl,rfl,rfl,rfl,trivial⟩ rfl (si H)
 rintro F54 y52 hF55 hy
 subst hy
 replace H:=HKo51
 refine lg hb49 (Ev.pickT rfl hb50 rfl)<|lr (Ev.pickF rfl hb49 rfl)<|nt0 ?_
 rcases ic H with ⟨hb56,H⟩|⟨hb56,H⟩
 ·refine Cd.condT rfl hb56<|sr0<|lr (Ev.build (v:=.agg (enc Cmd.zero).toArray) (pv:=[]) trivial (fun w=>by kernel_rfl))<|lst 2 rfl rfl rfl Z138 (vs:=enc Cmd.zero) rfl el (Enc.one _) (cs':=enc Cmd.zero) phl rfl<|as1 rfl<|nt0 ?_
  obtain rfl:=si H
  refine Cd.ret<|At.then_ret ?_
  exact At.ret2 rfl (Res.cellA (i:=2) rfl rfl I138 Z138 el) (Res.tmp rfl) (ft T2 hF55) (sc1 (sc2 rl)) ⟨rfl,rfl⟩
 refine Cd.condF rfl hb56<|Cd.skip<|At.then<|sr0<|mv1 rfl<|mv1 rfl<|mv1 rfl<|lr (Ev.build (v:=.agg (enc T1).toArray) (pv:=[(0,iv r15),(1,iv r22.1),(2,iv r29.1)]) ⟨rfl,rfl,⟨rfl,rfl,⟨rfl,rfl,trivial⟩⟩⟩ (fun w=>by kernel_rfl))<|lst 2 rfl rfl rfl Z138 (vs:=enc T1) rfl el (Enc.one _) (cs':=enc T1) phl rfl<|as1 rfl<|nt0 ?_
 obtain rfl:=si H
 refine Cd.ret ?_
 exact At.ret2 rfl (Res.cellA (i:=2) rfl rfl I138 Z138 el) (Res.tmp rfl) (ft T2 hF55) (sc1 (sc2 rl)) ⟨rfl,rfl⟩
theorem partref_RunCmds_1_sim {a0:Int} {r:Int} (H:partref_RunCmds_1 a0=some r) (w0:World) (F:Frz) (M L:List Item) (hM:M.Sublist L):Ok Tryz.prog w0 78 [iv a0] F (L) (Is (iv r) (L)):=by
 unfold partref_RunCmds_1 at H
 refine Ok.enter (m:=1) (n:=8) Tryz.func78 rfl rfl rfl (by decide)<|Cd.env (e':=[(0,iv a0)]) rfl<|sr0<|as1 rfl<|nt0<|Cd.seq<|sr0<|mv1 rfl<|lr (Ev.gtr rfl rfl)<|nt0 ?_
 rcases ic H with ⟨hb1,H⟩|⟨hb1,H⟩
 ·refine Cd.condT rfl hb1<|sr0<|as1 rfl<|nt0 ?_
  obtain rfl:=si H
  refine Cd.ret<|At.then_ret ?_
  exact At.ret1 rfl (Res.tmp rfl) fl rl ⟨rfl,rfl⟩
 refine Cd.condF rfl hb1<|Cd.skip<|At.then<|Cd.seq<|sr0<|mv1 rfl<|lr (Ev.lss rfl rfl)<|nt0 ?_
 rcases ic H with ⟨hb2,H⟩|⟨hb2,H⟩
 ·refine Cd.condT rfl hb2<|sr0<|as1 rfl<|nt0 ?_
  obtain rfl:=si H
  refine Cd.ret<|At.then_ret ?_
  exact At.ret1 rfl (Res.tmp rfl) fl rl ⟨rfl,rfl⟩
 refine Cd.condF rfl hb2<|Cd.skip<|At.then<|sr0<|mv1 rfl<|as1 rfl<|nt0 ?_
 obtain rfl:=si H
 refine Cd.ret ?_
 exact At.ret1 rfl (Res.tmp rfl) fl rl ⟨rfl,rfl⟩
theorem partref_RunCmds_sim {fu:Nat} {a0:Vector Int 10} {a1:List Str} {sa1:Sl} {r:(Vector Int 10)×Int} (H:partref_RunCmds fu a0 a1=some r) (w0:World) (F:Frz) (M L:List Item) (hM:M.Sublist L) (pa1:Rd w0 F M sa1 a1):Ok Tryz.prog w0 46 [.agg (enc a0).toArray,Sl.v sa1] F (L) (Is (.tuple #[.agg (enc r.1).toArray,iv r.2]) (L)):=by
 unfold partref_RunCmds at H
 refine Ok.enter (m:=2) (n:=67) Tryz.func46 rfl rfl rfl (by decide)<|Cd.env (e':=[(0,.agg (enc a0).toArray),(1,Sl.v sa1)]) rfl<|sr0 ?_
 refine Lst.box rfl rfl (by decide) rfl (cs:=enc a0) rfl (fun b1=>?_)
 refine Lst.alloc (cs:=enc (Vector.replicate 10 (0:Int))) rfl rfl (by decide) Tryz.zeroValue57 rfl (fun b3=>?_)
 refine as1 rfl<|nsr<|as1 rfl<|nsr<|as1 rfl<|nt0<|Cd.seq<|sr0<|mv1 rfl<|lr (Ev.lenS (α:=Str) (xs:=a1) (by decide) rfl rfl U43 (pa1.mono fl (sc2 hM)))<|mv1 rfl ?_
 refine nt0<|Cd.block ?_
 refine Cd.bound (Rd.le (α:=Str) (xs:=a1) (by decide) (pa1.mono fl (sc2 hM))) (fun hN49=>?_)
 obtain ⟨ol5,H,HKl5⟩:=bs H
 refine Cd.loop (σ:=Nat×Nat×Int×(Vector Int 10)) (fun (i5,k5,y6,y7)=>[(2,pv b1 0),(4,pv b3 0),(6,iv y6),(7,.func (.func 78) #[] #[]),(13,Sl.v sa1),(14,iv (a1.length:Int)),(15,iv (i5:Int))]) (fun (i5,k5,y6,y7)=>(.blk b3 (enc (Vector.replicate 10 (0:Int))) 57)::(.blk b1 (enc y7) 57)::L) (fun _=>(fun (i5,k5,y6,y7)=>rangeF (partref_RunCmds_B0 fu a1) k5 i5 (y6,y7)=some ol5∧i5+k5=a1.length)) (fun (i5,k5,y6,y7)=>k5) (0,a1.length,(0:Int),a0) ⟨rfl,rfl,rfl,rfl,rfl,rfl,rfl,trivial⟩ rfl ⟨H,by omega⟩ ?_
 rintro F8 ⟨i5,k5,y6,y7⟩ hF9 ⟨H,hik5⟩
 rcases k5 with _ | k5
 ·have hc5:decide ((i5:Int) < (a1.length:Int))=false:=decide_eq_false (by omega)
  replace H:=rangeF_end H
  refine sr0<|lr (Ev.lss rfl rfl)<|nt0<|Cd.seq<|Cd.condF rfl hc5<|Cd.exit<|At.then_exit<|At.then_exit<|At.in_exit ?_
  subst H
  replace H:=HKl5
  refine At.then<|sr0<|lr (Ev.loadA (i:=1) rfl rfl I57 Z57 (ch:=enc y7) el gh0)<|mv1 rfl<|lst 0 rfl rfl rfl Z57 (vs:=enc y7) rfl el (Enc.one _) (cs':=enc y7) phl rfl<|as1 rfl<|nt0 ?_
  obtain rfl:=si H
  refine Cd.ret ?_
  exact At.ret2 rfl (Res.cellA (i:=0) rfl rfl I57 Z57 el) (Res.tmp rfl) hF9 (sc2 rl) ⟨rfl,rfl⟩
 have hc5:decide ((i5:Int) < (a1.length:Int))=true:=decide_eq_true (by omega)
 obtain ⟨c5,H,hgo5⟩:=rangeF_go H
 unfold partref_RunCmds_B0 at H
 try dsimp only at H
 refine sr0<|lr (Ev.lss rfl rfl)<|nt0<|Cd.seq<|Cd.condT rfl hc5<|Cd.skip<|At.then<|Cd.seq<|Cd.block<|sr0 ?_
 obtain ⟨x10,h11,H⟩:=bs H
 have g12:=lat_some h11
 refine lr (Ev.indexS (α:=Str) (xs:=a1) rfl rfl U43 Z9 rfl (by decide) (pa1.mono hF9 (sc2 hM)) g12.1 g12.2.1)<|lr (Ev.loadS (α:=Str) rfl (pa1.mono hF9 (sc2 hM)) I9 (v:=Str.v x10) ((Get.elemN (s:=1) (x:=x10) rfl g12.2.2 gh0).off (by omega)))<|as1 rfl<|nsr<|mv1 rfl ?_
 obtain ⟨r13,h14,H⟩:=bs H
 refine cl1 rfl (vs:=[Str.v x10]) ⟨rfl,trivial⟩ Tryz.call79 (partref_ReadCmd_sim h14 w0 _ M _ (sc2 hM))<|mv1 rfl<|lr (Ev.extract rfl rfl)<|lr (Ev.extract rfl rfl) ?_
 refine Lst.alloc (cs:=enc Cmd.zero) rfl rfl (by decide) Tryz.zeroValue138 rfl (fun b17=>?_)
 refine lst 0 rfl rfl rfl Z138 (vs:=enc r13.1) rfl el (Enc.one _) (cs':=enc r13.1) phl rfl<|as1 rfl<|nt0<|Cd.seq<|sr0<|mv1 rfl<|lr (Ev.neq rfl rfl)<|nt0 ?_
 rcases ic H with ⟨hb19,H⟩|⟨hb19,H⟩
 ·refine Cd.condT rfl hb19<|sr0<|mv1 rfl<|lr (Ev.add rfl rfl)<|as1 rfl<|nt0<|Cd.exit<|At.then_exit<|At.in_exit<|At.then<|Cd.region ?_
  refine lr (Ev.incr (by omega) rfl rfl)<|mv1 rfl<|Lst.nil<|At.less (sc1 rl) ?_
  exact At.meet (i5+1,k5,w64 (y6+(1:Int)),y7) hF9 ⟨rfl,rfl,rfl,rfl,rfl,rfl,rfl,trivial⟩ rfl ⟨⟨hgo5 _ (sj H),by omega⟩,nls⟩
 refine Cd.condF rfl hb19<|Cd.skip<|At.then<|sr0<|mv1 rfl<|lr (Ev.fo 2 rfl U138 rfl Z3 rfl rfl)<|lr (Ev.load (i:=0) rfl rfl I3 (v:=iv r13.1.N) ((Cmd.get_N gh0).off rfl)) ?_
 obtain ⟨r20,h21,H⟩:=bs H
 refine Lst.callV1 rfl rfl (by decide) (vs:=[iv r13.1.N]) (cs:=[]) rfl ⟨rfl,trivial⟩ Tryz.call78 (partref_RunCmds_1_sim h21 w0 _ M _ (sc2 (sc1 hM)))<|as1 rfl<|nt0 ?_
 obtain ⟨o25,H,HKo25⟩:=bs H
 refine Cd.join (σ:=Int) (fun y24=>[(2,pv b1 0),(4,pv b3 0),(6,iv y6),(7,.func (.func 78) #[] #[]),(10,pv b17 0),(12,iv y24),(13,Sl.v sa1),(14,iv (a1.length:Int)),(15,iv (i5:Int))]) (fun y24=>(.blk b17 (enc r13.1) 138)::(.blk b3 (enc (Vector.replicate 10 (0:Int))) 57)::(.blk b1 (enc y7) 57)::L) (fun _ y24=>y24=o25) ?_ ?_
 ·refine sr0<|lr (Ev.fo 0 rfl U138 rfl Z3 rfl rfl)<|lr (Ev.load (i:=0) rfl rfl I3 (v:=iv r13.1.Kind) ((Cmd.get_Kind gh0).off rfl))<|nt0<|Cd.block<|sr0<|lr (Ev.eql rfl rfl)<|as1 rfl<|nt0 ?_
  rcases ic H with ⟨hb26,H⟩|⟨hb26,H⟩
  ·refine Cd.condT rfl hb26<|Cd.region<|mv1 rfl<|lr (Ev.fo 1 rfl U138 rfl Z3 rfl rfl)<|lr (Ev.load (i:=0) rfl rfl I3 (v:=iv r13.1.Key) ((Cmd.get_Key gh0).off rfl)) ?_
   obtain ⟨x27,h28,H⟩:=bs H
   have g29:=vat_some h28
   refine lr (Ev.indexAddr (off':=0+r13.1.Key.toNat * 1) rfl rfl U57 Z3 g29.1 g29.2.1 rfl)<|lr (Ev.load (i:=2) rfl rfl I3 (v:=iv x27) ((Get.vecN (s:=1) (x:=x27) rfl g29.2.2 gh0).off (by omega)))<|lr (Ev.min2 rfl rfl)<|lr (Ev.max2 rfl rfl)<|mv1 rfl<|lr (Ev.add rfl rfl) ?_
   obtain ⟨r30,h31,H⟩:=bs H
   refine Lst.callV1 rfl rfl (by decide) (vs:=[iv (w64 ((max (-1099511627776:Int) (min x27 (1099511627776:Int)))+r20))]) (cs:=[]) rfl ⟨rfl,trivial⟩ Tryz.call78 (partref_RunCmds_1_sim h31 w0 _ M _ (sc2 (sc1 hM)))<|as1 rfl<|Lst.nil<|At.in_normal ?_
   exact At.meet r30 fl ⟨rfl,rfl,rfl,rfl,rfl,rfl,rfl,rfl,rfl,trivial⟩ rfl (si H)
  refine Cd.condF rfl hb26<|sr0<|lr (Ev.eql rfl rfl)<|as1 rfl<|nt0 ?_
  rcases ic H with ⟨hb34,H⟩|⟨hb34,H⟩
  ·refine Cd.condT rfl hb34<|Cd.region<|mv1 rfl<|lr (Ev.fo 1 rfl U138 rfl Z3 rfl rfl)<|lr (Ev.load (i:=0) rfl rfl I3 (v:=iv r13.1.Key) ((Cmd.get_Key gh0).off rfl)) ?_
   obtain ⟨x35,h36,H⟩:=bs H
   have g37:=vat_some h36
   refine lr (Ev.indexAddr (off':=0+r13.1.Key.toNat * 1) rfl rfl U57 Z3 g37.1 g37.2.1 rfl)<|lr (Ev.load (i:=2) rfl rfl I3 (v:=iv x35) ((Get.vecN (s:=1) (x:=x35) rfl g37.2.2 gh0).off (by omega)))<|lr (Ev.max2 rfl rfl)<|as1 rfl<|Lst.nil<|At.in_normal ?_
   exact At.meet (max r20 x35) fl ⟨rfl,rfl,rfl,rfl,rfl,rfl,rfl,rfl,rfl,trivial⟩ rfl (si H)
  refine Cd.condF rfl hb34<|sr0<|lr (Ev.eql rfl rfl)<|as1 rfl<|nt0 ?_
  rcases ic2 H with ⟨hb38,H⟩|⟨hb38,H⟩
  ·refine Cd.condF rfl hb38<|Cd.skip<|At.in_normal ?_
   exact At.meet r20 fl ⟨rfl,rfl,rfl,rfl,rfl,rfl,rfl,rfl,rfl,trivial⟩ rfl (si H)
  refine Cd.condT rfl hb38<|Cd.region<|lr (Ev.fo 2 rfl U138 rfl Z3 rfl rfl)<|lr (Ev.load (i:=0) rfl rfl I3 (v:=iv r13.1.N) ((Cmd.get_N gh0).off rfl)) ?_
  obtain ⟨x39,h40,H⟩:=bs H
  have g41:=vat_some h40
  refine lr (Ev.indexAddr (off':=0+r13.1.N.toNat * 1) rfl rfl U57 Z3 g41.1 g41.2.1 rfl)<|lr (Ev.load (i:=2) rfl rfl I3 (v:=iv x39) ((Get.vecN (s:=1) (x:=x39) rfl g41.2.2 gh0).off (by omega)))<|as1 rfl<|Lst.nil<|At.in_normal ?_
  exact At.meet x39 fl ⟨rfl,rfl,rfl,rfl,rfl,rfl,rfl,rfl,rfl,trivial⟩ rfl (si H)
 rintro F42 y24 hF43 hy
 subst hy
 replace H:=HKo25
 refine Cd.region<|lr (Ev.fo 1 rfl U138 rfl Z3 rfl rfl)<|lr (Ev.load (i:=0) rfl rfl I3 (v:=iv r13.1.Key) ((Cmd.get_Key gh0).off rfl))<|mv1 rfl ?_
 obtain ⟨x44,h45,H⟩:=bs H
 have g46:=vat_some h45
 refine lr (Ev.indexAddr (off':=0+r13.1.Key.toNat * 1) rfl rfl U57 Z3 g46.1 g46.2.1 rfl) ?_
 obtain ⟨p47,h48,H⟩:=Let_some H
 refine lst 2 rfl rfl rfl Z3 (vs:=[iv y24]) rfl rfl rfl (cs':=enc p47) (by rw [← h48]; exact (Put.vecN (s:=1) (x:=x44) rfl g46.2.2 (Put.here (vs:=[iv y24]) rfl)).off (by omega)) rfl<|Lst.nil<|At.in_normal<|At.then<|Cd.region<|lr (Ev.incr (by omega) rfl rfl)<|mv1 rfl<|Lst.nil<|At.less (sc1 rl) ?_
 exact At.meet (i5+1,k5,y6,p47) (ft hF9 hF43) ⟨rfl,rfl,rfl,rfl,rfl,rfl,rfl,trivial⟩ rfl ⟨⟨hgo5 _ (sj H),by omega⟩,nls⟩
theorem partref_World_Vals_sim {fu:Nat} {a0:RWld} {a1:Int} {ba0:Nat} {qa0x2:Nat} {ra0x3:Vector (LR Saying) 6} {ra0x4:Vector ToR 6} {ra0x5:Vector FromR 6} {ra0x6:Vector ToR 6} {sa0x7:Sl} {sa0x8:Sl} {sa0x9:Sl} {r:(Vector Int 10)} (H:partref_World_Vals fu a0 a1=some r) (w0:World) (F:Frz) (M L:List Item) (hM:M.Sublist L) (ma0x3:ra0x3.toList.map LR.v=a0.Logs.toList) (na0x3:All LR.rel w0 F M ra0x3.toList) (ma0x4:ra0x4.toList.map ToR.v=a0.want.toList) (na0x4:All ToR.rel w0 F M ra0x4.toList) (ma0x5:ra0x5.toList.map FromR.v=a0.Late.toList) (na0x5:All FromR.rel w0 F M ra0x5.toList) (ma0x6:ra0x6.toList.map ToR.v=a0.in_.toList) (na0x6:All ToR.rel w0 F M ra0x6.toList):Ok Tryz.prog w0 20 [pv ba0 0,iv a1] F ((mii qa0x2 a0.gone)::(.own sa0x7 9 1 (encs a0.order))::(.own sa0x8 198 2 (encs a0.marks))::(.own sa0x9 132 12 (encs a0.WayNotes))::(.blk ba0 (enc (RWldR.mk a0 (some qa0x2) ra0x3 ra0x4 ra0x5 ra0x6 sa0x7 sa0x8 sa0x9)) 50)::L) (Is (.agg (enc r).toArray) ((mii qa0x2 a0.gone)::(.own sa0x7 9 1 (encs a0.order))::(.own sa0x8 198 2 (encs a0.marks))::(.own sa0x9 132 12 (encs a0.WayNotes))::(.blk ba0 (enc (RWldR.mk a0 (some qa0x2) ra0x3 ra0x4 ra0x5 ra0x6 sa0x7 sa0x8 sa0x9)) 50)::L)):=by
 let T0:=RWldR.mk a0 (some qa0x2) ra0x3 ra0x4 ra0x5 ra0x6 sa0x7 sa0x8 sa0x9
 unfold partref_World_Vals at H
 refine Ok.enter (m:=2) (n:=34) Tryz.func20 rfl rfl rfl (by decide)<|Cd.env (e':=[(0,pv ba0 0),(1,iv a1)]) rfl<|sr0 ?_
 refine Lst.alloc (cs:=enc (Vector.replicate 10 (0:Int))) rfl rfl (by decide) Tryz.zeroValue57 rfl (fun b6=>?_)
 refine nsr<|Lst.addNil 9 1<|as1 rfl<|nt0<|Cd.seq<|sr0<|mv1 rfl<|mv1 rfl<|lr (Ev.nilCheck rfl)<|lr (Ev.fo 4 rfl U50 rfl Z38 rfl rfl) ?_
 obtain ⟨x9,h10,H⟩:=bs H
 have g11:=vat_some h10
 obtain ⟨⟨r12v,r12h⟩,r12g,r12e,r12m,r12l⟩:=vmap_get ma0x3 g11.2.2
 obtain rfl:x9=r12v:=r12e.symm
 have r12q:Rd w0 _ _ r12h x9:=na0x3 _ r12m
 refine lr (Ev.indexAddr (off':=4+a1.toNat * 1) rfl rfl U38 Z37 g11.1 g11.2.1 rfl)<|lr (Ev.load (i:=6) rfl rfl I37 (v:=Sl.v r12h) ((RWldR.get_Logs (p:=T0) (Get.vecN (s:=1) rfl r12g gh0)).off (by omega)))<|lr (Ev.lenS (α:=Saying) (xs:=x9) (by decide) rfl rfl U37 (r12q.mono fl (sc4 (sc2 (sc1 hM)))))<|mv1 rfl<|nt0<|Cd.block ?_
 refine Cd.bound (Rd.le (α:=Saying) (xs:=x9) (by decide) (r12q.mono fl (sc4 (sc2 (sc1 hM))))) (fun hN34=>?_)
 obtain ⟨ol13,H,HKl13⟩:=bs H
 refine Cd.loop (σ:=Nat×Nat×Sl×(List Str)) (fun (i13,k13,s14,l15)=>[(4,pv b6 0),(5,Sl.v s14),(15,Sl.v r12h),(16,iv (x9.length:Int)),(17,iv (i13:Int))]) (fun (i13,k13,s14,l15)=>(.own s14 9 1 (encs l15))::(.blk b6 (enc (Vector.replicate 10 (0:Int))) 57)::(mii qa0x2 a0.gone)::(.own sa0x7 9 1 (encs a0.order))::(.own sa0x8 198 2 (encs a0.marks))::(.own sa0x9 132 12 (encs a0.WayNotes))::(.blk ba0 (enc T0) 50)::L) (fun _=>(fun (i13,k13,s14,l15)=>rangeF (partref_World_Vals_B0 x9) k13 i13 l15=some ol13∧i13+k13=x9.length)) (fun (i13,k13,s14,l15)=>k13) (0,x9.length,Sl.nil,([]:List Str)) ⟨rfl,rfl,rfl,rfl,rfl,trivial⟩ rfl ⟨H,by omega⟩ ?_
 rintro F16 ⟨i13,k13,s14,l15⟩ hF17 ⟨H,hik13⟩
 rcases k13 with _ | k13
 ·have hc13:decide ((i13:Int) < (x9.length:Int))=false:=decide_eq_false (by omega)
  replace H:=rangeF_end H
  refine sr0<|lr (Ev.lss rfl rfl)<|nt0<|Cd.seq<|Cd.condF rfl hc13<|Cd.exit<|At.then_exit<|At.then_exit<|At.in_exit ?_
  subst H
  replace H:=HKl13
  refine At.then<|sr0<|lr (Ev.build (v:=.agg (enc ((Vector.replicate 10 (0:Int)):Vector Int 10)).toArray) (pv:=[]) trivial (fun w=>by kernel_rfl))<|mv1 rfl ?_
  obtain ⟨r28,h29,H⟩:=bs H
  refine cl1 rfl (vs:=[.agg (enc ((Vector.replicate 10 (0:Int)):Vector Int 10)).toArray,Sl.v s14]) ⟨rfl,rfl,trivial⟩ Tryz.call46 (partref_RunCmds_sim h29 w0 _ _ _ rl (rdo 0 rfl rfl rfl))<|mv1 rfl<|lr (Ev.extract rfl rfl)<|lr (Ev.extract rfl rfl) ?_
  refine Lst.alloc (cs:=enc (Vector.replicate 10 (0:Int))) rfl rfl (by decide) Tryz.zeroValue57 rfl (fun b32=>?_)
  refine lst 0 rfl rfl rfl Z57 (vs:=enc r28.1) rfl el (Enc.one _) (cs':=enc r28.1) phl rfl<|as1 rfl<|nsr<|lr (Ev.loadA (i:=0) rfl rfl I57 Z57 (ch:=enc r28.1) el gh0)<|lst 2 rfl rfl rfl Z57 (vs:=enc r28.1) rfl el (Enc.one _) (cs':=enc r28.1) phl rfl<|nt0 ?_
  obtain rfl:=si H
  refine Cd.ret ?_
  exact At.ret1 rfl (Res.cellA (i:=2) rfl rfl I57 Z57 el) hF17 (sc1 (sc2 rl)) ⟨rfl,rfl⟩
 have hc13:decide ((i13:Int) < (x9.length:Int))=true:=decide_eq_true (by omega)
 obtain ⟨c13,H,hgo13⟩:=rangeF_go H
 unfold partref_World_Vals_B0 at H
 try dsimp only at H
 refine sr0<|lr (Ev.lss rfl rfl)<|nt0<|Cd.seq<|Cd.condT rfl hc13<|Cd.skip<|At.then<|Cd.seq<|Cd.block<|sr0 ?_
 obtain ⟨x18,h19,H⟩:=bs H
 have g20:=lat_some h19
 refine lr (Ev.indexS (α:=Saying) (xs:=x9) rfl rfl U37 Z62 rfl (by decide) (r12q.mono hF17 (sc4 (sc2 (sc1 hM)))) g20.1 g20.2.1)<|lr (Ev.loadSA (α:=Saying) rfl (r12q.mono hF17 (sc4 (sc2 (sc1 hM)))) I62 Z62 (ch:=enc x18) el (by decide) ((Get.elemN (s:=2) (x:=x18) rfl g20.2.2 gh0).off (by omega))) ?_
 refine Lst.alloc (cs:=enc Saying.zero) rfl rfl (by decide) Tryz.zeroValue62 rfl (fun b21=>?_)
 refine lst 0 rfl rfl rfl Z62 (vs:=enc x18) rfl el (Enc.one _) (cs':=enc x18) phl rfl<|nt0<|Cd.region<|mv1 rfl<|lr (Ev.fo 1 rfl U62 rfl Z9 rfl rfl)<|lr (Ev.load (i:=0) rfl rfl I9 (v:=Str.v x18.Text) ((Saying.get_Text gh0).off rfl)) ?_
 refine Lst.buildSlice (α:=Str) (xs:=([x18.Text]:List Str)) (pv:=[(0,Str.v x18.Text)]) rfl rfl (by decide) ⟨rfl,rfl,trivial⟩ (run_buildSlice (α:=Str) (z0:=([]:Str)) (xs:=([x18.Text]:List Str)) U43 Z9 Tryz.zeroValue9 rfl rfl rfl (by decide) rfl (fill_one rfl rfl)) rfl rfl (by decide) (fun s23 _=>?_)
 obtain ⟨u25,h26,H⟩:=bs H
 refine Lst.append (i:=2) (α:=Str) (xs:=l15) (ys:=([x18.Text]:List Str)) rfl rfl (by decide) rfl rfl U43 Tryz.typeInfo9 rfl rfl rfl rfl rfl rfl (rdo 0 rfl rfl rfl) rfl (room_some h26) rfl (fun s27=>?_)
 refine as1 rfl<|Lst.nil<|At.in_normal<|At.then<|Cd.region<|lr (Ev.incr (by omega) rfl rfl)<|mv1 rfl<|Lst.nil<|At.less (sc2 rl) ?_
 exact At.meet (i13+1,k13,s27,l15++([x18.Text]:List Str)) hF17 ⟨rfl,rfl,rfl,rfl,rfl,trivial⟩ rfl ⟨⟨hgo13 _ (sj H),by omega⟩,nls⟩
theorem slices_Equal_api_Saying_api_Saying_sim {a0:List Saying} {a1:List Saying} {sa0:Sl} {sa1:Sl} {r:Bool} (H:slices_Equal_api_Saying_api_Saying a0 a1=some r) (w0:World) (F:Frz) (M L:List Item) (hM:M.Sublist L) (pa0:Rd w0 F M sa0 a0) (pa1:Rd w0 F M sa1 a1):Ok Tryz.prog w0 18 [Sl.v sa0,Sl.v sa1] F (L) (Is (.bool r) (L)):=by
 unfold slices_Equal_api_Saying_api_Saying at H
 refine Ok.enter (m:=2) (n:=26) Tryz.func18 rfl rfl rfl (by decide)<|Cd.env (e':=[(0,Sl.v sa0),(1,Sl.v sa1)]) rfl<|sr0<|as1 rfl<|nt0<|Cd.seq<|sr0<|mv1 rfl<|lr (Ev.lenS (α:=Saying) (xs:=a0) (by decide) rfl rfl U37 (pa0.mono fl hM))<|mv1 rfl<|lr (Ev.lenS (α:=Saying) (xs:=a1) (by decide) rfl rfl U37 (pa1.mono fl hM)) ?_
 refine lr (Ev.neq rfl rfl)<|nt0 ?_
 rcases ic H with ⟨hb1,H⟩|⟨hb1,H⟩
 ·refine Cd.condT rfl hb1<|sr0<|as1 rfl<|nt0 ?_
  obtain rfl:=si H
  refine Cd.ret<|At.then_ret ?_
  exact At.ret1 rfl (Res.tmp rfl) fl rl ⟨rfl,rfl⟩
 refine Cd.condF rfl hb1<|Cd.skip<|At.then<|Cd.seq<|sr0<|mv1 rfl<|lr (Ev.lenS (α:=Saying) (xs:=a0) (by decide) rfl rfl U37 (pa0.mono fl hM))<|mv1 rfl<|nt0<|Cd.block ?_
 refine Cd.bound (Rd.le (α:=Saying) (xs:=a0) (by decide) (pa0.mono fl hM)) (fun hN12=>?_)
 obtain ⟨ol2,H,HKl2⟩:=andThen_some H
 refine Cd.loop (σ:=Nat×Nat×Unit) (fun (i2,k2,_u)=>[(0,Sl.v sa0),(1,Sl.v sa1),(12,iv (a0.length:Int)),(13,iv (i2:Int))]) (fun (i2,k2,_u)=>L) (fun _=>(fun (i2,k2,_u)=>rangeM (slices_Equal_api_Saying_api_Saying_B0 a0 a1) k2 i2 ()=some ol2∧i2+k2=a0.length)) (fun (i2,k2,_u)=>k2) (0,a0.length,()) ⟨rfl,rfl,rfl,rfl,trivial⟩ rfl ⟨H,by omega⟩ ?_
 rintro F3 ⟨i2,k2,_u⟩ hF4 ⟨H,hik2⟩
 rcases k2 with _ | k2
 ·have hc2:decide ((i2:Int) < (a0.length:Int))=false:=decide_eq_false (by omega)
  replace H:=rangeM_end H
  refine sr0<|lr (Ev.lss rfl rfl)<|nt0<|Cd.seq<|Cd.condF rfl hc2<|Cd.exit<|At.then_exit<|At.then_exit<|At.in_exit ?_
  subst H
  replace H:=HKl2
  refine At.then<|sr0<|as1 rfl<|nt0 ?_
  obtain rfl:=si H
  refine Cd.ret ?_
  exact At.ret1 rfl (Res.tmp rfl) hF4 rl ⟨rfl,rfl⟩
 have hc2:decide ((i2:Int) < (a0.length:Int))=true:=decide_eq_true (by omega)
 obtain ⟨c2,H,hgo2,hbrk2,hret2⟩:=rangeM_go H
 unfold slices_Equal_api_Saying_api_Saying_B0 at H
 try dsimp only at H
 refine sr0<|lr (Ev.lss rfl rfl)<|nt0<|Cd.seq<|Cd.condT rfl hc2<|Cd.skip<|At.then<|Cd.seq<|Cd.block<|sr0<|mv1 rfl ?_
 refine as1 rfl<|nt0<|Cd.seq<|Cd.quiet (by kernel_rfl) (by kernel_rfl)<|qr (Ev.move rfl)<|qr (Ev.move rfl) ?_
 obtain ⟨x5,h6,H⟩:=bs H
 have g7:=lat_some h6
 refine qr (Ev.indexS (α:=Saying) (xs:=a0) rfl rfl U37 Z62 rfl (by decide) (pa0.mono hF4 hM) g7.1 g7.2.1)<|qr (Ev.loadSA (α:=Saying) rfl (pa0.mono hF4 hM) I62 Z62 (ch:=enc x5) el (by decide) ((Get.elemN (s:=2) (x:=x5) rfl g7.2.2 gh0).off (by omega)))<|qr (Ev.move rfl)<|qr (Ev.move rfl) ?_
 obtain ⟨x8,h9,H⟩:=bs H
 have g10:=lat_some h9
 refine qr (Ev.indexS (α:=Saying) (xs:=a1) rfl rfl U37 Z62 rfl (by decide) (pa1.mono hF4 hM) g10.1 g10.2.1)<|qr (Ev.loadSA (α:=Saying) rfl (pa1.mono hF4 hM) I62 Z62 (ch:=enc x8) el (by decide) ((Get.elemN (s:=2) (x:=x8) rfl g10.2.2 gh0).off (by omega)))<|qr (Ev.neqA rfl rfl (by kernel_rfl) (eq62 _ _))<|Qt.done<|At.then ?_
 rcases ic H with ⟨hb11,H⟩|⟨hb11,H⟩
 ·refine Cd.condT rfl hb11<|sr0<|as1 rfl<|nt0 ?_
  have H:=hret2 _ (sj H)
  subst H
  replace H:=HKl2
  obtain rfl:=si H
  refine Cd.ret<|At.in_ret<|At.then_ret<|At.then_ret<|At.in_ret<|At.then_ret ?_
  exact At.ret1 rfl (Res.tmp rfl) hF4 rl ⟨rfl,rfl⟩
 refine Cd.condF rfl hb11<|Cd.skip<|At.in_normal<|At.then<|Cd.region<|lr (Ev.incr (by omega) rfl rfl)<|mv1 rfl<|Lst.nil ?_
 exact At.meet (i2+1,k2,()) hF4 ⟨rfl,rfl,rfl,rfl,trivial⟩ rfl ⟨⟨hgo2 _ (sj H),by omega⟩,nls⟩
theorem slices_Equal_string_string_sim {a0:List Str} {a1:List Str} {sa0:Sl} {sa1:Sl} {r:Bool} (H:slices_Equal_string_string a0 a1=some r) (w0:World) (F:Frz) (M L:List Item) (hM:M.Sublist L) (pa0:Rd w0 F M sa0 a0) (pa1:Rd w0 F M sa1 a1):Ok Tryz.prog w0 19 [Sl.v sa0,Sl.v sa1] F (L) (Is (.bool r) (L)):=by
 unfold slices_Equal_string_string at H
 refine Ok.enter (m:=2) (n:=26) Tryz.func19 rfl rfl rfl (by decide)<|Cd.env (e':=[(0,Sl.v sa0),(1,Sl.v sa1)]) rfl<|sr0<|as1 rfl<|nt0<|Cd.seq<|sr0<|mv1 rfl<|lr (Ev.lenS (α:=Str) (xs:=a0) (by decide) rfl rfl U43 (pa0.mono fl hM))<|mv1 rfl<|lr (Ev.lenS (α:=Str) (xs:=a1) (by decide) rfl rfl U43 (pa1.mono fl hM)) ?_
 refine lr (Ev.neq rfl rfl)<|nt0 ?_
 rcases ic H with ⟨hb1,H⟩|⟨hb1,H⟩
 ·refine Cd.condT rfl hb1<|sr0<|as1 rfl<|nt0 ?_
  obtain rfl:=si H
  refine Cd.ret<|At.then_ret ?_
  exact At.ret1 rfl (Res.tmp rfl) fl rl ⟨rfl,rfl⟩
 refine Cd.condF rfl hb1<|Cd.skip<|At.then<|Cd.seq<|sr0<|mv1 rfl<|lr (Ev.lenS (α:=Str) (xs:=a0) (by decide) rfl rfl U43 (pa0.mono fl hM))<|mv1 rfl<|nt0<|Cd.block ?_
 refine Cd.bound (Rd.le (α:=Str) (xs:=a0) (by decide) (pa0.mono fl hM)) (fun hN12=>?_)
 obtain ⟨ol2,H,HKl2⟩:=andThen_some H
 refine Cd.loop (σ:=Nat×Nat×Unit) (fun (i2,k2,_u)=>[(0,Sl.v sa0),(1,Sl.v sa1),(12,iv (a0.length:Int)),(13,iv (i2:Int))]) (fun (i2,k2,_u)=>L) (fun _=>(fun (i2,k2,_u)=>rangeM (slices_Equal_string_string_B0 a0 a1) k2 i2 ()=some ol2∧i2+k2=a0.length)) (fun (i2,k2,_u)=>k2) (0,a0.length,()) ⟨rfl,rfl,rfl,rfl,trivial⟩ rfl ⟨H,by omega⟩ ?_
 rintro F3 ⟨i2,k2,_u⟩ hF4 ⟨H,hik2⟩
 rcases k2 with _ | k2
 ·have hc2:decide ((i2:Int) < (a0.length:Int))=false:=decide_eq_false (by omega)
  replace H:=rangeM_end H
  refine sr0<|lr (Ev.lss rfl rfl)<|nt0<|Cd.seq<|Cd.condF rfl hc2<|Cd.exit<|At.then_exit<|At.then_exit<|At.in_exit ?_
  subst H
  replace H:=HKl2
  refine At.then<|sr0<|as1 rfl<|nt0 ?_
  obtain rfl:=si H
  refine Cd.ret ?_
  exact At.ret1 rfl (Res.tmp rfl) hF4 rl ⟨rfl,rfl⟩
 have hc2:decide ((i2:Int) < (a0.length:Int))=true:=decide_eq_true (by omega)
 obtain ⟨c2,H,hgo2,hbrk2,hret2⟩:=rangeM_go H
 unfold slices_Equal_string_string_B0 at H
 try dsimp only at H
 refine sr0<|lr (Ev.lss rfl rfl)<|nt0<|Cd.seq<|Cd.condT rfl hc2<|Cd.skip<|At.then<|Cd.seq<|Cd.block<|sr0<|mv1 rfl ?_
 refine as1 rfl<|nt0<|Cd.seq<|Cd.quiet (by kernel_rfl) (by kernel_rfl)<|qr (Ev.move rfl)<|qr (Ev.move rfl) ?_
 obtain ⟨x5,h6,H⟩:=bs H
 have g7:=lat_some h6
 refine qr (Ev.indexS (α:=Str) (xs:=a0) rfl rfl U43 Z9 rfl (by decide) (pa0.mono hF4 hM) g7.1 g7.2.1)<|qr (Ev.loadS (α:=Str) rfl (pa0.mono hF4 hM) I9 (v:=Str.v x5) ((Get.elemN (s:=1) (x:=x5) rfl g7.2.2 gh0).off (by omega)))<|qr (Ev.move rfl)<|qr (Ev.move rfl) ?_
 obtain ⟨x8,h9,H⟩:=bs H
 have g10:=lat_some h9
 refine qr (Ev.indexS (α:=Str) (xs:=a1) rfl rfl U43 Z9 rfl (by decide) (pa1.mono hF4 hM) g10.1 g10.2.1)<|qr (Ev.loadS (α:=Str) rfl (pa1.mono hF4 hM) I9 (v:=Str.v x8) ((Get.elemN (s:=1) (x:=x8) rfl g10.2.2 gh0).off (by omega)))<|qr (Ev.neqStr (s:=x5) (m:=x8) rfl rfl)<|Qt.done<|At.then ?_
 rcases ic H with ⟨hb11,H⟩|⟨hb11,H⟩
 ·refine Cd.condT rfl hb11<|sr0<|as1 rfl<|nt0 ?_
  have H:=hret2 _ (sj H)
  subst H
  replace H:=HKl2
  obtain rfl:=si H
  refine Cd.ret<|At.in_ret<|At.then_ret<|At.then_ret<|At.in_ret<|At.then_ret ?_
  exact At.ret1 rfl (Res.tmp rfl) hF4 rl ⟨rfl,rfl⟩
 refine Cd.condF rfl hb11<|Cd.skip<|At.in_normal<|At.then<|Cd.region<|lr (Ev.incr (by omega) rfl rfl)<|mv1 rfl<|Lst.nil ?_
 exact At.meet (i2+1,k2,()) hF4 ⟨rfl,rfl,rfl,rfl,trivial⟩ rfl ⟨⟨hgo2 _ (sj H),by omega⟩,nls⟩
set_option maxHeartbeats 2000000 in
theorem partlaw_WorldPlays_sim {fu:Nat} {a0:Int} {a1:List Deed} {sa1:Sl} {r:Bool} (H:partlaw_WorldPlays fu a0 a1=some r) (w0:World) (F:Frz) (M L:List Item) (hM:M.Sublist L) (hT:Tab Tryz.prog w0) (pa1:Rd w0 F M sa1 a1):Ok Tryz.prog w0 3 [iv a0,Sl.v sa1] F (L) (Is (.bool r) (L)):=by
 unfold partlaw_WorldPlays at H
 refine Ok.enter (m:=2) (n:=170) Tryz.func3 rfl rfl rfl (by decide)<|Cd.env (e':=[(0,iv a0),(1,Sl.v sa1)]) rfl<|sr0<|as1 rfl<|nsr<|mv1 rfl ?_
 rcases alt_cases H with ⟨r1,h2,H⟩|⟨_,H⟩
 ·refine cl1 rfl (vs:=[iv a0]) ⟨rfl,trivial⟩ Tryz.call9 (world_New_nil_sim h2 w0 _ M _ hM)<|mv1 rfl<|lr (Ev.extract rfl rfl)<|lr (Ev.extract rfl rfl)<|as1 rfl<|as1 rfl<|nt0<|Cd.seq<|sr0<|mv1 rfl<|lr (Ev.lss rfl rfl) ?_
  refine mv1 rfl ?_
  obtain ⟨o5,H,HKo5⟩:=bs H
  refine Lst.join (σ:=Bool) 3 (fun y6=>[(0,iv a0),(1,Sl.v sa1),(5,.pointer none),(6,iv r1),(27,.bool y6)]) (fun y6=>L) (fun _ y6=>y6=o5) ?_ ?_
  ·rcases ic H with ⟨hb7,H⟩|⟨hb7,H⟩
   ·refine lsk rfl hb7<|lsk rfl hb7<|lr (Ev.pickT rfl hb7 rfl)<|Lst.nil ?_
    exact At.meet true fl ⟨rfl,rfl,rfl,rfl,rfl,trivial⟩ rfl (si H)
   refine lg hb7 (Ev.move rfl)<|lg hb7 (Ev.gtr rfl rfl)<|lr (Ev.pickF rfl hb7 rfl)<|Lst.nil ?_
   exact At.meet (decide (a0 > (6:Int))) fl ⟨rfl,rfl,rfl,rfl,rfl,trivial⟩ rfl (si H)
  rintro F8 y6 hF9 hy
  subst hy
  replace H:=HKo5
  refine nt0 ?_
  rcases ic H with ⟨hb10,H⟩|⟨hb10,H⟩
  ·refine Cd.condT rfl hb10<|sr0<|mv1 rfl<|lr (Ev.eqlPN rfl U23)<|mv1 rfl<|lg rfl (Ev.move rfl)<|lg rfl (Ev.eql rfl rfl)<|lr (Ev.pickT rfl rfl rfl)<|as1 rfl<|nt0 ?_
   obtain rfl:=si H
   refine Cd.ret<|At.then_ret ?_
   exact At.ret1 rfl (Res.tmp rfl) hF9 rl ⟨rfl,rfl⟩
  refine Cd.condF rfl hb10<|Cd.skip<|At.then<|Cd.seq<|sr0<|mv1 rfl<|lr (Ev.neq rfl rfl)<|mv1 rfl ?_
  obtain ⟨o11,H,HKo11⟩:=bs H
  refine Lst.join (σ:=Bool) 3 (fun y12=>[(0,iv a0),(1,Sl.v sa1),(5,.pointer none),(39,.bool y12)]) (fun y12=>L) (fun _ y12=>y12=o11) ?_ ?_
  ·rcases ic H with ⟨hb13,H⟩|⟨hb13,H⟩
   ·refine lsk rfl hb13<|lsk rfl hb13<|lr (Ev.pickT rfl hb13 rfl)<|Lst.nil ?_
    exact At.meet true fl ⟨rfl,rfl,rfl,rfl,trivial⟩ rfl (si H)
   refine lg hb13 (Ev.move rfl)<|lg hb13 (Ev.eqlPN rfl U23)<|lr (Ev.pickF rfl hb13 rfl)<|Lst.nil ?_
   exact At.meet true fl ⟨rfl,rfl,rfl,rfl,trivial⟩ rfl (si H)
  rintro F14 y12 hF15 hy
  subst hy
  replace H:=HKo11
  refine nt0 ?_
  rcases ic H with ⟨hb16,H⟩|⟨hb16,H⟩
  ·refine Cd.condT rfl hb16<|sr0<|as1 rfl<|nt0 ?_
   obtain rfl:=si H
   refine Cd.ret<|At.then_ret ?_
   exact At.ret1 rfl (Res.tmp rfl) (ft hF9 hF15) rl ⟨rfl,rfl⟩
  cases H
 obtain ⟨r17,h18,H⟩:=bs H
 refine cl rfl (vs:=[iv a0]) ⟨rfl,trivial⟩ Tryz.call9 (world_New_sim h18 w0 _ M _ hM) (fun F31 L' v hF32 hv=>?_)
 obtain ⟨b19,s20,rs21,s26,s28,rfl,rfl,fm22,fa25⟩:=hv
 refine mv1 rfl<|lr (Ev.extract rfl rfl)<|lr (Ev.extract rfl rfl)<|as1 rfl<|as1 rfl<|nt0<|Cd.seq<|sr0<|mv1 rfl<|lr (Ev.lss rfl rfl)<|mv1 rfl ?_
 obtain ⟨o33,H,HKo33⟩:=bs H
 refine Lst.join (σ:=Bool) 3 (fun y34=>[(0,iv a0),(1,Sl.v sa1),(5,pv b19 0),(6,iv r17.2),(27,.bool y34)]) (fun y34=>(.rows (α:=Saying) 62 (List.map ProcessR.row rs21))::(.own s20 100 8 (encs rs21))::(.own s26 9 1 (encs r17.1.ordered))::(.own s28 9 1 (encs r17.1.way))::(.blk b19 (enc (WldR.mk r17.1 s20 s26 s28)) 95)::L) (fun _ y34=>y34=o33) ?_ ?_
 ·rcases ic H with ⟨hb35,H⟩|⟨hb35,H⟩
  ·refine lsk rfl hb35<|lsk rfl hb35<|lr (Ev.pickT rfl hb35 rfl)<|Lst.nil ?_
   exact At.meet true fl ⟨rfl,rfl,rfl,rfl,rfl,trivial⟩ rfl (si H)
  refine lg hb35 (Ev.move rfl)<|lg hb35 (Ev.gtr rfl rfl)<|lr (Ev.pickF rfl hb35 rfl)<|Lst.nil ?_
  exact At.meet (decide (a0 > (6:Int))) fl ⟨rfl,rfl,rfl,rfl,rfl,trivial⟩ rfl (si H)
 rintro F36 y34 hF37 hy
 subst hy
 replace H:=HKo33
 refine nt0 ?_
 rcases ic H with ⟨hb38,H⟩|⟨hb38,H⟩
 ·refine Cd.condT rfl hb38<|sr0<|mv1 rfl<|lr (Ev.eqlPtr rfl U23)<|mv1 rfl<|lsk rfl rfl<|lsk rfl rfl<|lr (Ev.pickF rfl rfl rfl)<|as1 rfl<|nt0 ?_
  obtain rfl:=si H
  refine Cd.ret<|At.then_ret ?_
  exact At.ret1 rfl (Res.tmp rfl) (ft hF32 hF37) (sc1 (sc4 rl)) ⟨rfl,rfl⟩
 refine Cd.condF rfl hb38<|Cd.skip<|At.then<|Cd.seq<|sr0<|mv1 rfl<|lr (Ev.neq rfl rfl)<|mv1 rfl ?_
 obtain ⟨o39,H,HKo39⟩:=bs H
 refine Lst.join (σ:=Bool) 3 (fun y40=>[(0,iv a0),(1,Sl.v sa1),(5,pv b19 0),(39,.bool y40)]) (fun y40=>(.rows (α:=Saying) 62 (List.map ProcessR.row rs21))::(.own s20 100 8 (encs rs21))::(.own s26 9 1 (encs r17.1.ordered))::(.own s28 9 1 (encs r17.1.way))::(.blk b19 (enc (WldR.mk r17.1 s20 s26 s28)) 95)::L) (fun _ y40=>y40=o39) ?_ ?_
 ·rcases ic H with ⟨hb41,H⟩|⟨hb41,H⟩
  ·refine lsk rfl hb41<|lsk rfl hb41<|lr (Ev.pickT rfl hb41 rfl)<|Lst.nil ?_
   exact At.meet true fl ⟨rfl,rfl,rfl,rfl,trivial⟩ rfl (si H)
  refine lg hb41 (Ev.move rfl)<|lg hb41 (Ev.eqlPtr rfl U23)<|lr (Ev.pickF rfl hb41 rfl)<|Lst.nil ?_
  exact At.meet false fl ⟨rfl,rfl,rfl,rfl,trivial⟩ rfl (si H)
 rintro F42 y40 hF43 hy
 let T34:=ft (ft hF32 hF37) hF43
 subst hy
 replace H:=HKo39
 refine nt0 ?_
 rcases ic H with ⟨hb44,H⟩|⟨hb44,H⟩
 ·refine Cd.condT rfl hb44<|sr0<|as1 rfl<|nt0 ?_
  obtain rfl:=si H
  refine Cd.ret<|At.then_ret ?_
  exact At.ret1 rfl (Res.tmp rfl) T34 (sc1 (sc4 rl)) ⟨rfl,rfl⟩
 refine Cd.condF rfl hb44<|Cd.skip<|At.then<|sr0<|mv1 rfl ?_
 obtain ⟨r45,h46,H⟩:=bs H
 refine cl rfl (vs:=[iv a0]) ⟨rfl,trivial⟩ Tryz.call10 (partref_NewWorld_sim h46 w0 _ M _ (sc4 (sc1 hM))) (fun F69 L' v hF70 hv=>?_)
 obtain ⟨b47,b48,rs50,rs53,rs56,rs59,s62,s64,s66,rfl,rfl,fm51,fa52,fm54,fa55,fm57,fa58,fm60,fa61⟩:=hv
 refine as1 rfl<|nt0<|Cd.seq<|sr0<|mv1 rfl<|lr (Ev.lenS (α:=Deed) (xs:=a1) (by decide) rfl rfl U22 (pa1.mono (ft T34 hF70) (sc8 (sc2 hM))))<|mv1 rfl<|nt0<|Cd.block<|Cd.front (i:=8) rfl rfl<|Cd.front (i:=8) rfl rfl ?_
 refine Cd.front (i:=5) rfl rfl<|Cd.front (i:=5) rfl rfl<|Cd.front (i:=5) rfl rfl ?_
 refine Cd.bound (Rd.le (α:=Deed) (xs:=a1) (by decide) (pa1.mono (ft T34 hF70) (sc8 (sc2 hM)))) (fun hN420=>?_)
 obtain ⟨ol71,H,HKl71⟩:=andThen_some H
 refine Cd.loop (σ:=Nat×Nat×RWld×(Vector (LR Saying) 6)×(Vector ToR 6)×(Vector FromR 6)×(Vector ToR 6)×Sl×Sl×Sl×Wld×Sl×Sl×(List (Int×Int))×(List Procs)×(List ProcessR)) (fun (i71,k71,y72,rs73,rs76,rs79,rs82,s85,s87,s89,y91,s92,s94,l96,l97,rs98)=>[(0,iv a0),(5,pv b19 0),(7,pv b47 0),(42,Sl.v sa1),(43,iv (a1.length:Int)),(44,iv (i71:Int))]) (fun (i71,k71,y72,rs73,rs76,rs79,rs82,s85,s87,s89,y91,s92,s94,l96,l97,rs98)=>(.own s85 9 1 (encs y72.order))::(.own s87 198 2 (encs y72.marks))::(.own s89 132 12 (encs y72.WayNotes))::(.own s92 9 1 (encs y91.ordered))::(.own s94 9 1 (encs y91.way))::(mii b48 l96)::(.blk b47 (enc (RWldR.mk ({y72 with gone:=l96}:RWld) (some b48) rs73 rs76 rs79 rs82 s85 s87 s89)) 50)::(.rows (α:=Saying) 62 (List.map ProcessR.row rs98))::(.own s20 100 8 (encs rs98))::(.blk b19 (enc (WldR.mk ({y91 with all:=l97}:Wld) s20 s92 s94)) 95)::L) (fun Fx=>(fun (i71,k71,y72,rs73,rs76,rs79,rs82,s85,s87,s89,y91,s92,s94,l96,l97,rs98)=>rangeM (partlaw_WorldPlays_B0 fu a1) k71 i71 (y72,y91,l96,l97)=some ol71∧i71+k71=a1.length∧rs73.toList.map LR.v=y72.Logs.toList∧All LR.rel w0 Fx M rs73.toList∧rs76.toList.map ToR.v=y72.want.toList∧All ToR.rel w0 Fx M rs76.toList∧rs79.toList.map FromR.v=y72.Late.toList∧All FromR.rel w0 Fx M rs79.toList∧rs82.toList.map ToR.v=y72.in_.toList∧All ToR.rel w0 Fx M rs82.toList∧rs98.map ProcessR.v=l97∧All ProcessR.frel w0 Fx [] rs98)) (fun (i71,k71,y72,rs73,rs76,rs79,rs82,s85,s87,s89,y91,s92,s94,l96,l97,rs98)=>k71) (0,a1.length,r45,rs50,rs53,rs56,rs59,s62,s64,s66,r17.1,s26,s28,r45.gone,r17.1.all,rs21) ⟨rfl,rfl,rfl,rfl,rfl,rfl,trivial⟩ rfl ⟨H,by omega,fm51,(All.monoLR fa52 fl nsl),fm54,(All.monoTo fa55 fl nsl),fm57,(All.monoFrom fa58 fl nsl),fm60,(All.monoTo fa61 fl nsl),fm22,(All.monoProcessF fa25 (ft (ft hF37 hF43) hF70) nsl)⟩ ?_
 rintro F101 ⟨i71,k71,y72,rs73,rs76,rs79,rs82,s85,s87,s89,y91,s92,s94,l96,l97,rs98⟩ hF102 ⟨H,hik71,fm74,fa75,fm77,fa78,fm80,fa81,fm83,fa84,fm99,fa100⟩
 let T30:Item:=.own s20 100 8 (encs rs98)
 let T28:Item:=.own s94 9 1 (encs y91.way)
 let T27:Item:=.own s85 9 1 (encs y72.order)
 let T26:Item:=.own s92 9 1 (encs y91.ordered)
 let T25:Item:=.own s87 198 2 (encs y72.marks)
 let T21:Item:=.own s89 132 12 (encs y72.WayNotes)
 let T17:Item:=.rows (α:=Saying) 62 (List.map ProcessR.row rs98)
 let T11:Item:=.blk b19 (enc (WldR.mk ({y91 with all:=l97}:Wld) s20 s92 s94)) 95
 let T6:=ft (ft T34 hF70) hF102
 let T3:=RWldR.mk ({y72 with gone:=l96}:RWld) (some b48) rs73 rs76 rs79 rs82 s85 s87 s89
 rcases k71 with _ | k71
 ·have hc71:decide ((i71:Int) < (a1.length:Int))=false:=decide_eq_false (by omega)
  replace H:=rangeM_end H
  refine sr0<|lr (Ev.lss rfl rfl)<|nt0<|Cd.seq<|Cd.condF rfl hc71<|Cd.exit<|At.then_exit<|At.then_exit<|At.in_exit ?_
  subst H
  replace H:=HKl71
  try dsimp only [Sum.elim_inl] at H
  refine At.then<|Cd.seq<|sr0<|as1 rfl<|nt0<|Cd.block ?_
  obtain ⟨ol329,H,HKl329⟩:=andThen_some H
  refine Cd.loop (σ:=Nat×Int) (fun (k329,y330)=>[(0,iv a0),(5,pv b19 0),(7,pv b47 0),(10,iv y330)]) (fun (k329,y330)=>T27::T25::T21::T26::T28::(mii b48 l96)::(.blk b47 (enc T3) 50)::T17::T30::T11::L) (fun _=>(fun (k329,y330)=>whileM (partlaw_WorldPlays_B2 fu a0 y72 y91 l96 l97) k329 y330=some ol329)) (fun (k329,y330)=>k329) (fu,(-1:Int)) ⟨rfl,rfl,rfl,rfl,trivial⟩ rfl H ?_
  rintro F331 ⟨k329,y330⟩ hF332 H
  rcases k329 with _ | k329
  ·cases H
  obtain ⟨c329,H,hgo329,hbrk329,hret329⟩:=whileM_go H
  unfold partlaw_WorldPlays_B2 at H
  try dsimp only at H
  refine Cd.seq<|sr0<|mv1 rfl<|mv1 rfl<|lr (Ev.leq rfl rfl)<|nt0 ?_
  rcases ic2 H with ⟨hb333,H⟩|⟨hb333,H⟩
  ·refine Cd.condF rfl hb333<|Cd.exit<|At.then_exit<|At.then_exit<|At.in_exit ?_
   have H:=hbrk329 _ (sj H)
   subst H
   replace H:=HKl329
   refine At.then<|sr0<|as1 rfl<|nt0 ?_
   obtain rfl:=si H
   refine Cd.ret ?_
   exact At.ret1 rfl (Res.tmp rfl) (ft T6 hF332) (sc2 (sc8 rl)) ⟨rfl,rfl⟩
  refine Cd.condT rfl hb333<|Cd.skip<|At.then<|Cd.seq<|Cd.block<|sr0<|mv1 rfl<|mv1 rfl ?_
  obtain ⟨r334,h335,H⟩:=bs H
  refine lf 9 rfl<|lf 5 rfl<|lf 5 rfl<|lf 9 rfl<|lf 9 rfl ?_
  refine cl rfl (vs:=[pv b19 0,iv y330]) ⟨rfl,rfl,trivial⟩ Tryz.call15 (world_World_Log_sim h335 w0 _ M _ (sc4 (sc1 hM)) fm99 (All.monoProcessF fa100 hF332 nsl)) (fun F338 L' v hF339 hv=>?_)
  obtain ⟨s336,rfl,rfl⟩:=hv
  let T31:Item:=.own s336 62 2 (encs r334.1)
  refine mv1 rfl<|lr (Ev.extract rfl rfl)<|lr (Ev.extract rfl rfl)<|as1 rfl<|as1 rfl<|nsr<|mv1 rfl<|mv1 rfl ?_
  obtain ⟨r340,h341,H⟩:=bs H
  refine lf 5 rfl<|lf 5 rfl<|lf 5 rfl<|lf 5 rfl<|lf 5 rfl ?_
  refine cl rfl (vs:=[pv b19 0,iv y330]) ⟨rfl,rfl,trivial⟩ Tryz.call16 (world_World_Late_sim h341 w0 _ M _ (sc4 (sc2 hM)) fm99 (All.monoProcessF fa100 (ft hF332 hF339) nsl)) (fun F344 L' v hF345 hv=>?_)
  obtain ⟨s342,rfl,rfl⟩:=hv
  let T32:Item:=.own s342 9 1 (encs r340.1)
  refine mv1 rfl<|lr (Ev.extract rfl rfl)<|lr (Ev.extract rfl rfl)<|as1 rfl<|as1 rfl<|nsr<|mv1 rfl<|mv1 rfl ?_
  obtain ⟨r346,h347,H⟩:=bs H
  refine lf 5 rfl<|lf 5 rfl<|lf 5 rfl<|lf 5 rfl<|lf 5 rfl<|cl1 rfl (vs:=[pv b19 0,iv y330]) ⟨rfl,rfl,trivial⟩ Tryz.call17 (world_World_Vals_sim h347 w0 _ M _ (sc4 (sc2 (sc1 hM))) fm99 (All.monoProcessF fa100 (ft (ft hF332 hF339) hF345) nsl))<|mv1 rfl<|lr (Ev.extract rfl rfl)<|lr (Ev.extract rfl rfl) ?_
  refine Lst.alloc (cs:=enc (Vector.replicate 10 (0:Int))) rfl rfl (by decide) Tryz.zeroValue57 rfl (fun b350=>?_)
  let T33:Item:=.blk b350 (enc r346.1) 57
  refine lst 0 rfl rfl rfl Z57 (vs:=enc r346.1) rfl el (Enc.one _) (cs':=enc r346.1) phl rfl<|as1 rfl<|nt0<|Cd.seq<|sr0<|mv1 rfl<|lr (Ev.lss rfl rfl)<|mv1 rfl ?_
  obtain ⟨o352,H,HKo352⟩:=bs H
  refine Lst.join (σ:=Bool) 4 (fun y353=>[(0,iv a0),(5,pv b19 0),(7,pv b47 0),(10,iv y330),(11,Sl.v s336),(12,iv r334.2),(13,Sl.v s342),(14,iv r340.2),(15,pv b350 0),(16,iv r346.2),(104,.bool y353)]) (fun y353=>T33::T17::T30::T26::T28::T11::T32::T31::T27::T25::T21::(mii b48 l96)::(.blk b47 (enc T3) 50)::L) (fun _ y353=>y353=o352) ?_ ?_
  ·rcases ic H with ⟨hb354,H⟩|⟨hb354,H⟩
   ·refine lsk rfl hb354<|lsk rfl hb354<|lsk rfl hb354<|lr (Ev.pickT rfl hb354 rfl)<|Lst.nil ?_
    exact At.meet true fl ⟨rfl,rfl,rfl,rfl,rfl,rfl,rfl,rfl,rfl,rfl,rfl,trivial⟩ rfl (si H)
   refine lg hb354 (Ev.move rfl)<|lg hb354 (Ev.move rfl)<|lg hb354 (Ev.eql rfl rfl)<|lr (Ev.pickF rfl hb354 rfl)<|Lst.nil ?_
   exact At.meet (y330==a0) fl ⟨rfl,rfl,rfl,rfl,rfl,rfl,rfl,rfl,rfl,rfl,rfl,trivial⟩ rfl (si H)
  rintro F355 y353 hF356 hy
  let T36:=ft (ft (ft (ft T6 hF332) hF339) hF345) hF356
  let T13:=ft (ft (ft hF332 hF339) hF345) hF356
  subst hy
  replace H:=HKo352
  refine nt0 ?_
  rcases ic H with ⟨hb357,H⟩|⟨hb357,H⟩
  ·refine Cd.condT rfl hb357<|Cd.seq<|sr0<|mv1 rfl<|lr (Ev.lenS (α:=Saying) (xs:=r334.1) (by decide) rfl rfl U37 (rdo 7 rfl rfl rfl))<|lr (Ev.gtr rfl rfl)<|mv1 rfl ?_
   obtain ⟨o358,H,HKo358⟩:=bs H
   refine Lst.join (σ:=Bool) 3 (fun y359=>[(0,iv a0),(5,pv b19 0),(7,pv b47 0),(10,iv y330),(13,Sl.v s342),(14,iv r340.2),(15,pv b350 0),(16,iv r346.2),(111,.bool y359)]) (fun y359=>T33::T17::T30::T26::T28::T11::T32::T31::T27::T25::T21::(mii b48 l96)::(.blk b47 (enc T3) 50)::L) (fun _ y359=>y359=o358) ?_ ?_
   ·rcases ic H with ⟨hb360,H⟩|⟨hb360,H⟩
    ·refine lsk rfl hb360<|lsk rfl hb360<|lr (Ev.pickT rfl hb360 rfl)<|Lst.nil ?_
     exact At.meet true fl ⟨rfl,rfl,rfl,rfl,rfl,rfl,rfl,rfl,rfl,trivial⟩ rfl (si H)
    refine lg hb360 (Ev.move rfl)<|lg hb360 (Ev.neq rfl rfl)<|lr (Ev.pickF rfl hb360 rfl)<|Lst.nil ?_
    exact At.meet (r334.2 != (1:Int)) fl ⟨rfl,rfl,rfl,rfl,rfl,rfl,rfl,rfl,rfl,trivial⟩ rfl (si H)
   rintro F361 y359 hF362 hy
   subst hy
   replace H:=HKo358
   refine mv1 rfl ?_
   obtain ⟨o363,H,HKo363⟩:=bs H
   refine Lst.join (σ:=Bool) 4 (fun y364=>[(0,iv a0),(5,pv b19 0),(7,pv b47 0),(10,iv y330),(14,iv r340.2),(15,pv b350 0),(16,iv r346.2),(116,.bool y364)]) (fun y364=>T33::T17::T30::T26::T28::T11::T32::T31::T27::T25::T21::(mii b48 l96)::(.blk b47 (enc T3) 50)::L) (fun _ y364=>y364=o363) ?_ ?_
   ·rcases ic H with ⟨hb365,H⟩|⟨hb365,H⟩
    ·refine lsk rfl hb365<|lsk rfl hb365<|lsk rfl hb365<|lr (Ev.pickT rfl hb365 rfl)<|Lst.nil ?_
     exact At.meet true fl ⟨rfl,rfl,rfl,rfl,rfl,rfl,rfl,rfl,trivial⟩ rfl (si H)
    refine lg hb365 (Ev.move rfl)<|lg hb365 (Ev.lenS (α:=Str) (xs:=r340.1) (by decide) rfl rfl U43 (rdo 6 rfl rfl rfl))<|lg hb365 (Ev.gtr rfl rfl)<|lr (Ev.pickF rfl hb365 rfl)<|Lst.nil ?_
    exact At.meet (decide ((r340.1.length:Int) > (0:Int))) fl ⟨rfl,rfl,rfl,rfl,rfl,rfl,rfl,rfl,trivial⟩ rfl (si H)
   rintro F366 y364 hF367 hy
   subst hy
   replace H:=HKo363
   refine mv1 rfl ?_
   obtain ⟨o368,H,HKo368⟩:=bs H
   refine Lst.join (σ:=Bool) 3 (fun y369=>[(0,iv a0),(5,pv b19 0),(7,pv b47 0),(10,iv y330),(15,pv b350 0),(16,iv r346.2),(120,.bool y369)]) (fun y369=>T33::T17::T30::T26::T28::T11::T32::T31::T27::T25::T21::(mii b48 l96)::(.blk b47 (enc T3) 50)::L) (fun _ y369=>y369=o368) ?_ ?_
   ·rcases ic H with ⟨hb370,H⟩|⟨hb370,H⟩
    ·refine lsk rfl hb370<|lsk rfl hb370<|lr (Ev.pickT rfl hb370 rfl)<|Lst.nil ?_
     exact At.meet true fl ⟨rfl,rfl,rfl,rfl,rfl,rfl,rfl,trivial⟩ rfl (si H)
    refine lg hb370 (Ev.move rfl)<|lg hb370 (Ev.neq rfl rfl)<|lr (Ev.pickF rfl hb370 rfl)<|Lst.nil ?_
    exact At.meet (r340.2 != (1:Int)) fl ⟨rfl,rfl,rfl,rfl,rfl,rfl,rfl,trivial⟩ rfl (si H)
   rintro F371 y369 hF372 hy
   subst hy
   replace H:=HKo368
   refine mv1 rfl ?_
   obtain ⟨o373,H,HKo373⟩:=bs H
   refine Lst.join (σ:=Bool) 4 (fun y374=>[(0,iv a0),(5,pv b19 0),(7,pv b47 0),(10,iv y330),(16,iv r346.2),(125,.bool y374)]) (fun y374=>T33::T17::T30::T26::T28::T11::T32::T31::T27::T25::T21::(mii b48 l96)::(.blk b47 (enc T3) 50)::L) (fun _ y374=>y374=o373) ?_ ?_
   ·rcases ic H with ⟨hb375,H⟩|⟨hb375,H⟩
    ·refine lsk rfl hb375<|lsk rfl hb375<|lsk rfl hb375<|lr (Ev.pickT rfl hb375 rfl)<|Lst.nil ?_
     exact At.meet true fl ⟨rfl,rfl,rfl,rfl,rfl,rfl,trivial⟩ rfl (si H)
    refine lg hb375 (Ev.loadA (i:=0) rfl rfl I57 Z57 (ch:=enc r346.1) el gh0)<|lg hb375 (Ev.build (v:=.agg (enc ((Vector.replicate 10 (0:Int)):Vector Int 10)).toArray) (pv:=[]) trivial (fun w=>by kernel_rfl))<|lg hb375 (Ev.neqA rfl rfl (by kernel_rfl) (eq57 _ _))<|lr (Ev.pickF rfl hb375 rfl)<|Lst.nil ?_
    exact At.meet (!(decide (r346.1=((Vector.replicate 10 (0:Int)):Vector Int 10)))) fl ⟨rfl,rfl,rfl,rfl,rfl,rfl,trivial⟩ rfl (si H)
   rintro F376 y374 hF377 hy
   subst hy
   replace H:=HKo373
   refine mv1 rfl ?_
   obtain ⟨o378,H,HKo378⟩:=bs H
   refine Lst.join (σ:=Bool) 3 (fun y379=>[(0,iv a0),(5,pv b19 0),(7,pv b47 0),(10,iv y330),(129,.bool y379)]) (fun y379=>T33::T17::T30::T26::T28::T11::T32::T31::T27::T25::T21::(mii b48 l96)::(.blk b47 (enc T3) 50)::L) (fun _ y379=>y379=o378) ?_ ?_
   ·rcases ic H with ⟨hb380,H⟩|⟨hb380,H⟩
    ·refine lsk rfl hb380<|lsk rfl hb380<|lr (Ev.pickT rfl hb380 rfl)<|Lst.nil ?_
     exact At.meet true fl ⟨rfl,rfl,rfl,rfl,rfl,trivial⟩ rfl (si H)
    refine lg hb380 (Ev.move rfl)<|lg hb380 (Ev.neq rfl rfl)<|lr (Ev.pickF rfl hb380 rfl)<|Lst.nil ?_
    exact At.meet (r346.2 != (1:Int)) fl ⟨rfl,rfl,rfl,rfl,rfl,trivial⟩ rfl (si H)
   rintro F381 y379 hF382 hy
   subst hy
   replace H:=HKo378
   refine nt0 ?_
   rcases ic H with ⟨hb383,H⟩|⟨hb383,H⟩
   ·refine Cd.condT rfl hb383<|sr0<|as1 rfl<|nt0 ?_
    have H:=hret329 _ (sj H)
    subst H
    replace H:=HKl329
    obtain rfl:=si H
    refine Cd.ret<|At.then_ret<|At.then_ret<|At.in_ret<|At.then_ret<|At.then_ret<|At.in_ret<|At.then_ret ?_
    exact At.ret1 rfl (Res.tmp rfl) (ft (ft (ft (ft (ft T36 hF362) hF367) hF372) hF377) hF382) (sc1 (sc4 (sc8 rl))) ⟨rfl,rfl⟩
   refine Cd.condF rfl hb383<|Cd.skip<|At.then<|Cd.exit<|At.then_exit<|At.in_exit<|At.then<|Cd.region<|mv1 rfl<|lr (Ev.add rfl rfl)<|as1 rfl ?_
   refine Lst.nil<|af 12 rfl<|af 12 rfl<|af 6 rfl<|af 6 rfl<|af 12 rfl<|af 12 rfl<|af 12 rfl<|At.less (sk1 (sk2 (sk4 (sc1 (sk1 (sk2 (sc2 rl))))))) ?_
   exact At.meet (k329,w64 (y330+(1:Int))) (ft (ft (ft (ft (ft T13 hF362) hF367) hF372) hF377) hF382) ⟨rfl,rfl,rfl,rfl,trivial⟩ rfl ⟨hgo329 _ (sj H),nls⟩
  refine Cd.condF rfl hb357<|Cd.skip<|At.then<|Cd.seq<|Cd.quiet (by kernel_rfl) (by kernel_rfl)<|qr (Ev.move rfl)<|qr (Ev.move rfl)<|qr (Ev.move rfl)<|qr (Ev.nilCheck rfl)<|qr (Ev.fo 4 rfl U50 rfl Z38 rfl rfl) ?_
  obtain ⟨x384,h385,H⟩:=bs H
  have g386:=vat_some h385
  obtain ⟨⟨r387v,r387h⟩,r387g,r387e,r387m,r387l⟩:=vmap_get fm74 g386.2.2
  obtain rfl:x384=r387v:=r387e.symm
  have r387q:Rd w0 _ _ r387h x384:=fa75 _ r387m
  refine qr (Ev.indexAddr (off':=4+y330.toNat * 1) rfl rfl U38 Z37 g386.1 g386.2.1 rfl)<|qr (Ev.load (i:=12) rfl rfl I37 (v:=Sl.v r387h) ((RWldR.get_Logs (p:=T3) (Get.vecN (s:=1) rfl r387g gh0)).off (by omega))) ?_
  obtain ⟨r388,h389,H⟩:=bs H
  refine Qt.call rfl rfl (by decide) (vs:=[Sl.v s336,Sl.v r387h]) ⟨rfl,rfl,trivial⟩ Tryz.call18 (slices_Equal_api_Saying_api_Saying_sim h389 w0 _ _ _ rl (rdo 7 rfl rfl rfl) (r387q.mono T13 (sc8 (sc4 (sc1 hM)))))<|qr (Ev.not rfl)<|qr (Ev.move rfl) ?_
  obtain ⟨o392,H,HKo392⟩:=bs H
  refine Qt.join (σ:=Bool) 3 (fun y393=>[(0,iv a0),(5,pv b19 0),(7,pv b47 0),(10,iv y330),(13,Sl.v s342),(14,iv r340.2),(15,pv b350 0),(16,iv r346.2),(142,.bool y393)]) (fun y393=>y393=o392) ?_ ?_
  ·rcases ic H with ⟨hb394,H⟩|⟨hb394,H⟩
   ·refine qsk rfl hb394<|qsk rfl hb394<|qr (Ev.pickT rfl hb394 rfl) ?_
    exact Qt.meet true ⟨rfl,rfl,rfl,rfl,rfl,rfl,rfl,rfl,rfl,trivial⟩ (si H)
   refine qg hb394 (Ev.move rfl)<|qg hb394 (Ev.neq rfl rfl)<|qr (Ev.pickF rfl hb394 rfl) ?_
   exact Qt.meet (r334.2 != (0:Int)) ⟨rfl,rfl,rfl,rfl,rfl,rfl,rfl,rfl,rfl,trivial⟩ (si H)
  rintro y393 hy
  subst hy
  refine Qt.as (e':=[(0,iv a0),(5,pv b19 0),(7,pv b47 0),(10,iv y330),(13,Sl.v s342),(14,iv r340.2),(15,pv b350 0),(16,iv r346.2),(142,.bool y393)]) ⟨rfl,rfl,rfl,rfl,rfl,rfl,rfl,rfl,rfl,trivial⟩ ?_
  replace H:=HKo392
  refine qr (Ev.move rfl) ?_
  obtain ⟨o395,H,HKo395⟩:=bs H
  refine Qt.join (σ:=Bool) 11 (fun y396=>[(0,iv a0),(5,pv b19 0),(7,pv b47 0),(10,iv y330),(14,iv r340.2),(15,pv b350 0),(16,iv r346.2),(154,.bool y396)]) (fun y396=>y396=o395) ?_ ?_
  ·rcases ic H with ⟨hb397,H⟩|⟨hb397,H⟩
   ·refine qsk rfl hb397<|qsk rfl hb397<|qsk rfl hb397<|qsk rfl hb397<|qsk rfl hb397<|qsk rfl hb397<|qsk rfl hb397<|qsk rfl hb397<|qsk rfl hb397<|qsk rfl hb397<|qr (Ev.pickT rfl hb397 rfl) ?_
    exact Qt.meet true ⟨rfl,rfl,rfl,rfl,rfl,rfl,rfl,rfl,trivial⟩ (si H)
   refine qg hb397 (Ev.move rfl)<|qg hb397 (Ev.move rfl)<|qg hb397 (Ev.move rfl)<|qg hb397 (Ev.nilCheck rfl)<|qg hb397 (Ev.fo 22 rfl U50 rfl Z46 rfl rfl) ?_
   obtain ⟨x398,h399,H⟩:=bs H
   have g400:=vat_some h399
   obtain ⟨⟨r401v,r401h1⟩,r401g,r401e,r401m,r401l⟩:=vmap_get fm80 g400.2.2
   obtain rfl:x398=r401v:=r401e.symm
   have r401q:FromR.rel w0 _ _ (FromR.mk x398 r401h1):=fa81 _ r401m
   have r401_f1:Rd w0 _ _ _ _:=r401q
   refine qg hb397 (Ev.indexAddr (off':=22+y330.toNat * 2) rfl rfl U46 Z45 g400.1 g400.2.1 rfl)<|qg hb397 (Ev.fo (22+y330.toNat * 2+1) rfl U45 rfl Z43 rfl rfl)<|qg hb397 (Ev.load (i:=12) rfl rfl I43 (v:=Sl.v r401h1) ((RWldR.get_Late (p:=T3) (Get.vecN (s:=2) rfl r401g (FromR.get_Late gh0))).off (by omega))) ?_
   obtain ⟨r402,h403,H⟩:=bs H
   refine Qt.callG rfl rfl rfl hb397 rfl (by decide) (vs:=[Sl.v s342,Sl.v r401h1]) ⟨rfl,rfl,trivial⟩ Tryz.call19 (slices_Equal_string_string_sim h403 w0 _ _ _ rl (rdo 6 rfl rfl rfl) (r401_f1.mono T13 (sc8 (sc4 (sc1 hM)))))<|qg hb397 (Ev.not rfl)<|qr (Ev.pickF rfl hb397 rfl) ?_
   exact Qt.meet (!r402) ⟨rfl,rfl,rfl,rfl,rfl,rfl,rfl,rfl,trivial⟩ (si H)
  rintro y396 hy
  subst hy
  refine Qt.as (e':=[(0,iv a0),(5,pv b19 0),(7,pv b47 0),(10,iv y330),(14,iv r340.2),(15,pv b350 0),(16,iv r346.2),(154,.bool y396)]) ⟨rfl,rfl,rfl,rfl,rfl,rfl,rfl,rfl,trivial⟩ ?_
  replace H:=HKo395
  refine qr (Ev.move rfl) ?_
  obtain ⟨o406,H,HKo406⟩:=bs H
  refine Qt.join (σ:=Bool) 3 (fun y407=>[(0,iv a0),(5,pv b19 0),(7,pv b47 0),(10,iv y330),(15,pv b350 0),(16,iv r346.2),(158,.bool y407)]) (fun y407=>y407=o406) ?_ ?_
  ·rcases ic H with ⟨hb408,H⟩|⟨hb408,H⟩
   ·refine qsk rfl hb408<|qsk rfl hb408<|qr (Ev.pickT rfl hb408 rfl) ?_
    exact Qt.meet true ⟨rfl,rfl,rfl,rfl,rfl,rfl,rfl,trivial⟩ (si H)
   refine qg hb408 (Ev.move rfl)<|qg hb408 (Ev.neq rfl rfl)<|qr (Ev.pickF rfl hb408 rfl) ?_
   exact Qt.meet (r340.2 != (0:Int)) ⟨rfl,rfl,rfl,rfl,rfl,rfl,rfl,trivial⟩ (si H)
  rintro y407 hy
  subst hy
  refine Qt.as (e':=[(0,iv a0),(5,pv b19 0),(7,pv b47 0),(10,iv y330),(15,pv b350 0),(16,iv r346.2),(158,.bool y407)]) ⟨rfl,rfl,rfl,rfl,rfl,rfl,rfl,trivial⟩ ?_
  replace H:=HKo406
  refine qr (Ev.move rfl) ?_
  obtain ⟨o409,H,HKo409⟩:=bs H
  refine Qt.join (σ:=Bool) 6 (fun y410=>[(0,iv a0),(5,pv b19 0),(7,pv b47 0),(10,iv y330),(16,iv r346.2),(165,.bool y410)]) (fun y410=>y410=o409) ?_ ?_
  ·rcases ic H with ⟨hb411,H⟩|⟨hb411,H⟩
   ·refine qsk rfl hb411<|qsk rfl hb411<|qsk rfl hb411<|qsk rfl hb411<|qsk rfl hb411<|qr (Ev.pickT rfl hb411 rfl) ?_
    exact Qt.meet true ⟨rfl,rfl,rfl,rfl,rfl,rfl,trivial⟩ (si H)
   refine qg hb411 (Ev.loadA (i:=0) rfl rfl I57 Z57 (ch:=enc r346.1) el gh0)<|qg hb411 (Ev.move rfl)<|qg hb411 (Ev.move rfl) ?_
   obtain ⟨r412,h413,H⟩:=bs H
   refine Qt.callG rfl rfl rfl hb411 rfl (by decide) (vs:=[pv b47 0,iv y330]) ⟨rfl,rfl,trivial⟩ Tryz.call20 (Ok.isPerm (List.Perm.trans (front_perm (i:=12) rfl) (List.Perm.trans (front_perm (i:=11) rfl) (List.Perm.trans (front_perm (i:=11) rfl) (List.Perm.trans (front_perm (i:=11) rfl) (front_perm (i:=12) rfl))))) (partref_World_Vals_sim h413 w0 _ M _ (sc8 hM) fm74 (All.monoLR fa75 T13 rl) fm77 (All.monoTo fa78 T13 rl) fm80 (All.monoFrom fa81 T13 rl) fm83 (All.monoTo fa84 T13 rl)))<|qg hb411 (Ev.neqA rfl rfl (by kernel_rfl) (eq57 _ _))<|qr (Ev.pickF rfl hb411 rfl) ?_
   exact Qt.meet (!(decide (r346.1=r412))) ⟨rfl,rfl,rfl,rfl,rfl,rfl,trivial⟩ (si H)
  rintro y410 hy
  subst hy
  refine Qt.as (e':=[(0,iv a0),(5,pv b19 0),(7,pv b47 0),(10,iv y330),(16,iv r346.2),(165,.bool y410)]) ⟨rfl,rfl,rfl,rfl,rfl,rfl,trivial⟩ ?_
  replace H:=HKo409
  refine qr (Ev.move rfl) ?_
  obtain ⟨o416,H,HKo416⟩:=bs H
  refine Qt.join (σ:=Bool) 3 (fun y417=>[(0,iv a0),(5,pv b19 0),(7,pv b47 0),(10,iv y330),(169,.bool y417)]) (fun y417=>y417=o416) ?_ ?_
  ·rcases ic H with ⟨hb418,H⟩|⟨hb418,H⟩
   ·refine qsk rfl hb418<|qsk rfl hb418<|qr (Ev.pickT rfl hb418 rfl) ?_
    exact Qt.meet true ⟨rfl,rfl,rfl,rfl,rfl,trivial⟩ (si H)
   refine qg hb418 (Ev.move rfl)<|qg hb418 (Ev.neq rfl rfl)<|qr (Ev.pickF rfl hb418 rfl) ?_
   exact Qt.meet (r346.2 != (0:Int)) ⟨rfl,rfl,rfl,rfl,rfl,trivial⟩ (si H)
  rintro y417 hy
  subst hy
  refine Qt.as (e':=[(0,iv a0),(5,pv b19 0),(7,pv b47 0),(10,iv y330),(169,.bool y417)]) ⟨rfl,rfl,rfl,rfl,rfl,trivial⟩ ?_
  replace H:=HKo416
  refine Qt.done<|At.then ?_
  rcases ic H with ⟨hb419,H⟩|⟨hb419,H⟩
  ·refine Cd.condT rfl hb419<|sr0<|as1 rfl<|nt0 ?_
   have H:=hret329 _ (sj H)
   subst H
   replace H:=HKl329
   obtain rfl:=si H
   refine Cd.ret<|At.in_ret<|At.then_ret<|At.then_ret<|At.in_ret<|At.then_ret ?_
   exact At.ret1 rfl (Res.tmp rfl) T36 (sc1 (sc4 (sc8 rl))) ⟨rfl,rfl⟩
  refine Cd.condF rfl hb419<|Cd.skip<|At.in_normal<|At.then<|Cd.region<|mv1 rfl<|lr (Ev.add rfl rfl)<|as1 rfl<|Lst.nil<|af 12 rfl<|af 12 rfl ?_
  refine af 6 rfl<|af 6 rfl<|af 12 rfl<|af 12 rfl<|af 12 rfl<|At.less (sk1 (sk2 (sk4 (sc1 (sk1 (sk2 (sc2 rl))))))) ?_
  exact At.meet (k329,w64 (y330+(1:Int))) T13 ⟨rfl,rfl,rfl,rfl,trivial⟩ rfl ⟨hgo329 _ (sj H),nls⟩
 have hc71:decide ((i71:Int) < (a1.length:Int))=true:=decide_eq_true (by omega)
 obtain ⟨c71,H,hgo71,hbrk71,hret71⟩:=rangeM_go H
 unfold partlaw_WorldPlays_B0 at H
 try dsimp only at H
 refine sr0<|lr (Ev.lss rfl rfl)<|nt0<|Cd.seq<|Cd.condT rfl hc71<|Cd.skip<|At.then<|Cd.seq<|Cd.block<|sr0 ?_
 obtain ⟨x103,h104,H⟩:=bs H
 have g105:=lat_some h104
 refine lr (Ev.indexS (α:=Deed) (xs:=a1) rfl rfl U22 Z30 rfl (by decide) (pa1.mono T6 (sc8 (sc2 hM))) g105.1 g105.2.1)<|lr (Ev.loadSA (α:=Deed) rfl (pa1.mono T6 (sc8 (sc2 hM))) I30 Z30 (ch:=enc x103) el (by decide) ((Get.elemN (s:=4) (x:=x103) rfl g105.2.2 gh0).off (by omega))) ?_
 refine Lst.alloc (cs:=enc Deed.zero) rfl rfl (by decide) Tryz.zeroValue30 rfl (fun b106=>?_)
 let T5:Item:=.blk b106 (enc x103) 30
 refine lst 0 rfl rfl rfl Z30 (vs:=enc x103) rfl el (Enc.one _) (cs':=enc x103) phl rfl<|nt0<|Cd.seq ?_
 obtain ⟨r108,h109,H⟩:=bs H
 let T35:=({r108.2.1 with all:=r108.1}:Wld)
 obtain ⟨r119,h120,H⟩:=bs H
 let T23:=({r119.2.1 with gone:=r119.1}:RWld)
 rcases ic H with ⟨hb141,H⟩|⟨hb141,H⟩
 ·obtain ⟨o171,h172,H⟩:=Let_some H
  refine Cd.headMeet (σ:=Sl×(List Str)×Sl×(List Mark)×Sl×(List Note)×(List (Int×Int))×RWld×(Vector (LR Saying) 6)×(Vector ToR 6)×(Vector FromR 6)×(Vector ToR 6)×Sl×(List Str)×Sl×(List Str)×(List Procs)×(List ProcessR)) 24 (fun (s143,l144,s145,l146,s147,l148,l149,y150,rs151,rs154,rs157,rs160,s163,l164,s165,l166,l167,rs168)=>[(0,iv a0),(5,pv b19 0),(7,pv b47 0),(42,Sl.v sa1),(43,iv (a1.length:Int)),(44,iv (i71:Int)),(64,.bool true),(66,undef),(71,undef)]) (fun (s143,l144,s145,l146,s147,l148,l149,y150,rs151,rs154,rs157,rs160,s163,l164,s165,l166,l167,rs168)=>(.own s143 9 1 (encs l144))::(.own s145 198 2 (encs l146))::(.own s147 132 12 (encs l148))::(mii b48 l149)::(.blk b47 (enc (RWldR.mk ({y150 with gone:=l149,order:=l144,marks:=l146,WayNotes:=l148}:RWld) (some b48) rs151 rs154 rs157 rs160 s143 s145 s147)) 50)::(.own s163 9 1 (encs l164))::(.own s165 9 1 (encs l166))::(.rows (α:=Saying) 62 (List.map ProcessR.row rs168))::(.own s20 100 8 (encs rs168))::(.blk b19 (enc (WldR.mk ({r108.2.1 with all:=l167,ordered:=l164,way:=l166}:Wld) s20 s163 s165)) 95)::T5::L) (fun Fx (s143,l144,s145,l146,s147,l148,l149,y150,rs151,rs154,rs157,rs160,s163,l164,s165,l166,l167,rs168)=>(l144,l146,l148,l149,y150,l164,l166,l167)=o171∧rs151.toList.map LR.v=y150.Logs.toList∧All LR.rel w0 Fx M rs151.toList∧rs154.toList.map ToR.v=y150.want.toList∧All ToR.rel w0 Fx M rs154.toList∧rs157.toList.map FromR.v=y150.Late.toList∧All FromR.rel w0 Fx M rs157.toList∧rs160.toList.map ToR.v=y150.in_.toList∧All ToR.rel w0 Fx M rs160.toList∧rs168.map ProcessR.v=l167∧All ProcessR.frel w0 Fx [] rs168) (by kernel_rfl) (by kernel_rfl) (behind_sink (by kernel_rfl) (by kernel_rfl) (by kernel_rfl)) (by kernel_rfl) (fun hsel hlt=>?_) ?_
  ·refine HdJ.keep (fun w=>St w0 F101 (T5::L) w) (fun w h=>trivial)<|hts rfl hsel hlt 0 (sk1 (sc2 (sc8 rl))) rfl (Ev.move rfl)<|hts rfl hsel hlt 1 (sk1 (sc2 (sc8 rl))) rfl (Ev.loadA (i:=0) rfl rfl I30 Z30 (ch:=enc x103) el gh0)<|hts rfl hsel hlt 3 (sk1 (sc2 (sc8 rl))) rfl (Ev.move rfl)<|hts rfl hsel hlt 4 (sk1 (sc2 (sc8 rl))) rfl (Ev.loadA (i:=0) rfl rfl I30 Z30 (ch:=enc x103) el gh0) ?_
   refine HdJ.o1 2 (fun inv=>?_)
   refine lf 10 rfl<|lf 6 rfl<|lf 6 rfl<|lf 10 rfl<|lf 10 rfl ?_
   refine cl rfl (vs:=[pv b19 0,.agg (enc x103).toArray]) ⟨rfl,rfl,trivial⟩ Tryz.call11 (partlaw_doOf_sim h109 w0 _ M _ (sc4 (sc2 hM)) hT fm99 (All.monoProcessF fa100 fl nsl)) (fun F178 L' v hF179 hv=>?_)
   obtain ⟨rs173,s176,s177,rfl,rfl,fm174,fa175⟩:=hv
   refine Lst.nil<|At.hd inv (fun w h=>(h.weaken hF179).sublist (sc1 (sc4 (sk1 (sc1 (sc4 rl)))))) ?_
   refine HdJ.o1 5 (fun inv=>?_)
   refine lf 10 rfl<|lf 9 rfl<|lf 9 rfl<|lf 9 rfl<|lf 10 rfl ?_
   refine cl rfl (vs:=[pv b47 0,.agg (enc x103).toArray]) ⟨rfl,rfl,trivial⟩ Tryz.call12 (partref_World_Do_sim h120 w0 _ M _ (sc4 (sc2 hM)) hT fm74 (All.monoLR fa75 hF179 rl) fm77 (All.monoTo fa78 hF179 rl) fm80 (All.monoFrom fa81 hF179 rl) fm83 (All.monoTo fa84 hF179 rl)) (fun F195 L' v hF196 hv=>?_)
   obtain ⟨rs180,rs183,rs186,rs189,s192,s193,s194,rfl,rfl,fm181,fa182,fm184,fa185,fm187,fa188,fm190,fa191⟩:=hv
   refine Lst.nil<|At.hd inv (fun w h=>(h.weaken (ft hF179 hF196)).sublist (sc2 (sc8 rl)))<|HdJ.keep (fun w=>St w0 F195 ((.own s192 9 1 (encs r119.2.1.order))::(.own s193 198 2 (encs r119.2.1.marks))::(.own s194 132 12 (encs r119.2.1.WayNotes))::(mii b48 r119.1)::(.blk b47 (enc (RWldR.mk T23 (some b48) rs180 rs183 rs186 rs189 s192 s193 s194)) 50)::(.own s176 9 1 (encs r108.2.1.ordered))::(.own s177 9 1 (encs r108.2.1.way))::(.rows (α:=Saying) 62 (List.map ProcessR.row rs173))::(.own s20 100 8 (encs rs173))::(.blk b19 (enc (WldR.mk T35 s20 s176 s177)) 95)::T5::L) w) (fun w h=>(h.weaken (ft hF179 hF196)).sublist (sc2 (sc8 rl)))<|hts rfl hsel hlt 6 rl rfl (Ev.neq rfl rfl)<|hts rfl hsel hlt 7 rl rfl (Ev.move rfl)<|HdJ.takeS (i:=8) rfl rfl (by decide) hsel hlt (by decide) (by kernel_rfl) (by kernel_rfl) (fun w h=>h.sublist rl) rfl rfl rfl hb141<|HdJ.takeS (i:=9) rfl rfl (by decide) hsel hlt (by decide) (by kernel_rfl) (by kernel_rfl) (fun w h=>h.sublist rl) rfl rfl rfl hb141<|HdJ.takeS (i:=10) rfl rfl (by decide) hsel hlt (by decide) (by kernel_rfl) (by kernel_rfl) (fun w h=>h.sublist rl) rfl rfl rfl hb141<|HdJ.takeS (i:=11) rfl rfl (by decide) hsel hlt (by decide) (by kernel_rfl) (by kernel_rfl) (fun w h=>h.sublist rl) rfl rfl rfl hb141<|HdJ.takeS (i:=12) rfl rfl (by decide) hsel hlt (by decide) (by kernel_rfl) (by kernel_rfl) (fun w h=>h.sublist rl) rfl rfl rfl hb141<|HdJ.takeS (i:=13) rfl rfl (by decide) hsel hlt (by decide) (by kernel_rfl) (by kernel_rfl) (fun w h=>h.sublist rl) rfl rfl rfl hb141 ?_
   refine HdJ.takeS (i:=14) rfl rfl (by decide) hsel hlt (by decide) (by kernel_rfl) (by kernel_rfl) (fun w h=>h.sublist rl) rfl rfl rfl hb141<|hts rfl hsel hlt 15 rl rfl (Ev.pickT rfl hb141 rfl)<|hts rfl hsel hlt 16 rl rfl (Ev.move rfl)<|HdJ.takeS (i:=17) rfl rfl (by decide) hsel hlt (by decide) (by kernel_rfl) (by kernel_rfl) (fun w h=>h.sublist rl) rfl rfl rfl rfl<|HdJ.takeS (i:=18) rfl rfl (by decide) hsel hlt (by decide) (by kernel_rfl) (by kernel_rfl) (fun w h=>h.sublist rl) rfl rfl rfl rfl<|HdJ.takeS (i:=19) rfl rfl (by decide) hsel hlt (by decide) (by kernel_rfl) (by kernel_rfl) (fun w h=>h.sublist rl) rfl rfl rfl rfl<|HdJ.takeS (i:=20) rfl rfl (by decide) hsel hlt (by decide) (by kernel_rfl) (by kernel_rfl) (fun w h=>h.sublist rl) rfl rfl rfl rfl<|HdJ.takeS (i:=21) rfl rfl (by decide) hsel hlt (by decide) (by kernel_rfl) (by kernel_rfl) (fun w h=>h.sublist rl) rfl rfl rfl rfl<|HdJ.takeS (i:=22) rfl rfl (by decide) hsel hlt (by decide) (by kernel_rfl) (by kernel_rfl) (fun w h=>h.sublist rl) rfl rfl rfl rfl<|HdJ.takeS (i:=23) rfl rfl (by decide) hsel hlt (by decide) (by kernel_rfl) (by kernel_rfl) (fun w h=>h.sublist rl) rfl rfl rfl rfl<|HdJ.done (by kernel_rfl) ?_
   exact At.meetN (s192,r119.2.1.order,s193,r119.2.1.marks,s194,r119.2.1.WayNotes,r119.1,T23,rs180,rs183,rs186,rs189,s176,r108.2.1.ordered,s177,r108.2.1.way,r108.1,rs173) (ft hF179 hF196) ⟨rfl,rfl,rfl,rfl,rfl,rfl,rfl,rfl,rfl,trivial⟩ rfl ⟨h172,fm181,(All.monoLR fa182 fl rl),fm184,(All.monoTo fa185 fl rl),fm187,(All.monoFrom fa188 fl rl),fm190,(All.monoTo fa191 fl rl),fm174,(All.monoProcessF fa175 hF196 nsl)⟩
  rintro F197 ⟨s143,l144,s145,l146,s147,l148,l149,y150,rs151,rs154,rs157,rs160,s163,l164,s165,l166,l167,rs168⟩ hF198 ⟨hy,fm152,fa153,fm155,fa156,fm158,fa159,fm161,fa162,fm169,fa170⟩
  subst hy
  try dsimp only at H
  refine lsk rfl rfl<|lr (Ev.pickT rfl rfl rfl)<|nt0<|Cd.condT rfl rfl<|sr0<|as1 rfl<|nt0 ?_
  have H:=hret71 _ (sj H)
  subst H
  replace H:=HKl71
  obtain rfl:=si H
  refine Cd.ret<|At.in_ret<|At.then_ret<|At.then_ret<|At.in_ret<|At.then_ret ?_
  exact At.ret1 rfl (Res.tmp rfl) (ft T6 hF198) (sc1 (sc2 (sc8 rl))) ⟨rfl,rfl⟩
 obtain ⟨r199,h200,H⟩:=bs H
 rcases ic H with ⟨hb203,H⟩|⟨hb203,H⟩
 ·obtain ⟨o233,h234,H⟩:=Let_some H
  refine Cd.headMeet (σ:=Sl×(List Str)×Sl×(List Mark)×Sl×(List Note)×(List (Int×Int))×RWld×(Vector (LR Saying) 6)×(Vector ToR 6)×(Vector FromR 6)×(Vector ToR 6)×Sl×(List Str)×Sl×(List Str)×(List Procs)×(List ProcessR)) 24 (fun (s205,l206,s207,l208,s209,l210,l211,y212,rs213,rs216,rs219,rs222,s225,l226,s227,l228,l229,rs230)=>[(0,iv a0),(5,pv b19 0),(7,pv b47 0),(42,Sl.v sa1),(43,iv (a1.length:Int)),(44,iv (i71:Int)),(64,.bool (!(decide (r199=r119.2.1.V)))),(66,undef),(71,undef)]) (fun (s205,l206,s207,l208,s209,l210,l211,y212,rs213,rs216,rs219,rs222,s225,l226,s227,l228,l229,rs230)=>(.own s205 9 1 (encs l206))::(.own s207 198 2 (encs l208))::(.own s209 132 12 (encs l210))::(mii b48 l211)::(.blk b47 (enc (RWldR.mk ({y212 with gone:=l211,order:=l206,marks:=l208,WayNotes:=l210}:RWld) (some b48) rs213 rs216 rs219 rs222 s205 s207 s209)) 50)::(.own s225 9 1 (encs l226))::(.own s227 9 1 (encs l228))::(.rows (α:=Saying) 62 (List.map ProcessR.row rs230))::(.own s20 100 8 (encs rs230))::(.blk b19 (enc (WldR.mk ({r108.2.1 with all:=l229,ordered:=l226,way:=l228}:Wld) s20 s225 s227)) 95)::T5::L) (fun Fx (s205,l206,s207,l208,s209,l210,l211,y212,rs213,rs216,rs219,rs222,s225,l226,s227,l228,l229,rs230)=>(l206,l208,l210,l211,y212,l226,l228,l229)=o233∧rs213.toList.map LR.v=y212.Logs.toList∧All LR.rel w0 Fx M rs213.toList∧rs216.toList.map ToR.v=y212.want.toList∧All ToR.rel w0 Fx M rs216.toList∧rs219.toList.map FromR.v=y212.Late.toList∧All FromR.rel w0 Fx M rs219.toList∧rs222.toList.map ToR.v=y212.in_.toList∧All ToR.rel w0 Fx M rs222.toList∧rs230.map ProcessR.v=l229∧All ProcessR.frel w0 Fx [] rs230) (by kernel_rfl) (by kernel_rfl) (behind_sink (by kernel_rfl) (by kernel_rfl) (by kernel_rfl)) (by kernel_rfl) (fun hsel hlt=>?_) ?_
  ·refine HdJ.keep (fun w=>St w0 F101 (T5::L) w) (fun w h=>trivial)<|hts rfl hsel hlt 0 (sk1 (sc2 (sc8 rl))) rfl (Ev.move rfl)<|hts rfl hsel hlt 1 (sk1 (sc2 (sc8 rl))) rfl (Ev.loadA (i:=0) rfl rfl I30 Z30 (ch:=enc x103) el gh0)<|hts rfl hsel hlt 3 (sk1 (sc2 (sc8 rl))) rfl (Ev.move rfl)<|hts rfl hsel hlt 4 (sk1 (sc2 (sc8 rl))) rfl (Ev.loadA (i:=0) rfl rfl I30 Z30 (ch:=enc x103) el gh0) ?_
   refine HdJ.o1 2 (fun inv=>?_)
   refine lf 10 rfl<|lf 6 rfl<|lf 6 rfl<|lf 10 rfl<|lf 10 rfl ?_
   refine cl rfl (vs:=[pv b19 0,.agg (enc x103).toArray]) ⟨rfl,rfl,trivial⟩ Tryz.call11 (partlaw_doOf_sim h109 w0 _ M _ (sc4 (sc2 hM)) hT fm99 (All.monoProcessF fa100 fl nsl)) (fun F240 L' v hF241 hv=>?_)
   obtain ⟨rs235,s238,s239,rfl,rfl,fm236,fa237⟩:=hv
   let T29:Item:=.own s20 100 8 (encs rs235)
   let T24:Item:=.own s239 9 1 (encs r108.2.1.way)
   let T20:Item:=.own s238 9 1 (encs r108.2.1.ordered)
   let T15:Item:=.rows (α:=Saying) 62 (List.map ProcessR.row rs235)
   let T7:Item:=.blk b19 (enc (WldR.mk T35 s20 s238 s239)) 95
   refine Lst.nil<|At.hd inv (fun w h=>(h.weaken hF241).sublist (sc1 (sc4 (sk1 (sc1 (sc4 rl)))))) ?_
   refine HdJ.o1 5 (fun inv=>?_)
   refine lf 10 rfl<|lf 9 rfl<|lf 9 rfl<|lf 9 rfl<|lf 10 rfl ?_
   refine cl rfl (vs:=[pv b47 0,.agg (enc x103).toArray]) ⟨rfl,rfl,trivial⟩ Tryz.call12 (partref_World_Do_sim h120 w0 _ M _ (sc4 (sc2 hM)) hT fm74 (All.monoLR fa75 hF241 rl) fm77 (All.monoTo fa78 hF241 rl) fm80 (All.monoFrom fa81 hF241 rl) fm83 (All.monoTo fa84 hF241 rl)) (fun F257 L' v hF258 hv=>?_)
   obtain ⟨rs242,rs245,rs248,rs251,s254,s255,s256,rfl,rfl,fm243,fa244,fm246,fa247,fm249,fa250,fm252,fa253⟩:=hv
   let T22:Item:=.own s254 9 1 (encs r119.2.1.order)
   let T19:Item:=.own s255 198 2 (encs r119.2.1.marks)
   let T18:Item:=.own s256 132 12 (encs r119.2.1.WayNotes)
   let T2:Item:=.blk b47 (enc (RWldR.mk T23 (some b48) rs242 rs245 rs248 rs251 s254 s255 s256)) 50
   refine Lst.nil<|At.hd inv (fun w h=>(h.weaken (ft hF241 hF258)).sublist (sc2 (sc8 rl)))<|HdJ.keep (fun w=>St w0 F257 (T22::T19::T18::(mii b48 r119.1)::T2::T20::T24::T15::T29::T7::T5::L) w) (fun w h=>(h.weaken (ft hF241 hF258)).sublist (sc2 (sc8 rl)))<|hts rfl hsel hlt 6 rl rfl (Ev.neq rfl rfl)<|hts rfl hsel hlt 7 rl rfl (Ev.move rfl)<|HdJ.takeG (i:=8) (Lp:=T22::T19::T18::(mii b48 r119.1)::T2::T20::T24::T15::T29::T7::T5::L) (Fp:=F257) rfl rfl (by decide) hsel hlt (by decide) (by kernel_rfl) (by kernel_rfl) (fun w h=>h.sublist rl) rfl rfl rfl hb141 (fun w h=>h) (Ev.move rfl)<|HdJ.takeG (i:=10) (Lp:=T22::T19::T18::(mii b48 r119.1)::T2::T20::T24::T15::T29::T7::T5::L) (Fp:=F257) rfl rfl (by decide) hsel hlt (by decide) (by kernel_rfl) (by kernel_rfl) (fun w h=>h.sublist rl) rfl rfl rfl hb141 (fun w h=>h) (Ev.move rfl)<|HdJ.takeG (i:=11) (Lp:=T22::T19::T18::(mii b48 r119.1)::T2::T20::T24::T15::T29::T7::T5::L) (Fp:=F257) rfl rfl (by decide) hsel hlt (by decide) (by kernel_rfl) (by kernel_rfl) (fun w h=>h.sublist rl) rfl rfl rfl hb141 (fun w h=>h) (Ev.nilCheck rfl)<|HdJ.takeG (i:=12) (Lp:=T22::T19::T18::(mii b48 r119.1)::T2::T20::T24::T15::T29::T7::T5::L) (Fp:=F257) rfl rfl (by decide) hsel hlt (by decide) (by kernel_rfl) (by kernel_rfl) (fun w h=>h.sublist rl) rfl rfl rfl hb141 (fun w h=>h) (Ev.fo 1 rfl U50 rfl Z34 rfl rfl) ?_
   refine HdJ.takeG (i:=13) (Lp:=T22::T19::T18::(mii b48 r119.1)::T2::T20::T24::T15::T29::T7::T5::L) (Fp:=F257) rfl rfl (by decide) hsel hlt (by decide) (by kernel_rfl) (by kernel_rfl) (fun w h=>h.sublist rl) rfl rfl rfl hb141 (fun w h=>h) (Ev.loadA (i:=4) rfl rfl I34 Z34 (ch:=enc r119.2.1.V) el ((RWldR.get_V gh0).off rfl)) ?_
   refine HdJ.o1 9 (fun inv=>?_)
   refine lf 9 rfl<|lf 7 rfl<|lf 7 rfl<|lf 9 rfl<|lf 9 rfl<|Lst.call1G rfl rfl rfl hb141 rfl (by decide) (vs:=[pv b19 0]) ⟨rfl,trivial⟩ Tryz.call13 (world_World_View_sim h200 w0 _ M _ (sc4 (sc2 hM)) fm236 (All.monoProcessF fa237 hF258 nsl))<|lf 10 rfl<|lf 5 rfl<|lf 3 rfl<|lf 3 rfl<|lf 5 rfl ?_
   refine lf 5 rfl<|lf 10 rfl<|lf 10 rfl<|lf 10 rfl<|lf 10 rfl<|lf 10 rfl<|hds inv rl<|HdJ.takeG (i:=14) (Lp:=T22::T19::T18::(mii b48 r119.1)::T2::T20::T24::T15::T29::T7::T5::L) (Fp:=F257) rfl rfl (by decide) hsel hlt (by decide) (by kernel_rfl) (by kernel_rfl) (fun w h=>h.sublist rl) rfl rfl rfl hb141 (fun w h=>h) (Ev.neqA rfl rfl (by kernel_rfl) (eq34 _ _))<|hts rfl hsel hlt 15 rl rfl (Ev.pickF rfl hb141 rfl)<|hts rfl hsel hlt 16 rl rfl (Ev.move rfl)<|HdJ.takeS (i:=17) rfl rfl (by decide) hsel hlt (by decide) (by kernel_rfl) (by kernel_rfl) (fun w h=>h.sublist rl) rfl rfl rfl hb203 ?_
   refine HdJ.takeS (i:=18) rfl rfl (by decide) hsel hlt (by decide) (by kernel_rfl) (by kernel_rfl) (fun w h=>h.sublist rl) rfl rfl rfl hb203<|HdJ.takeS (i:=19) rfl rfl (by decide) hsel hlt (by decide) (by kernel_rfl) (by kernel_rfl) (fun w h=>h.sublist rl) rfl rfl rfl hb203<|HdJ.takeS (i:=20) rfl rfl (by decide) hsel hlt (by decide) (by kernel_rfl) (by kernel_rfl) (fun w h=>h.sublist rl) rfl rfl rfl hb203<|HdJ.takeS (i:=21) rfl rfl (by decide) hsel hlt (by decide) (by kernel_rfl) (by kernel_rfl) (fun w h=>h.sublist rl) rfl rfl rfl hb203<|HdJ.takeS (i:=22) rfl rfl (by decide) hsel hlt (by decide) (by kernel_rfl) (by kernel_rfl) (fun w h=>h.sublist rl) rfl rfl rfl hb203<|HdJ.takeS (i:=23) rfl rfl (by decide) hsel hlt (by decide) (by kernel_rfl) (by kernel_rfl) (fun w h=>h.sublist rl) rfl rfl rfl hb203<|HdJ.done (by kernel_rfl) ?_
   exact At.meetN (s254,r119.2.1.order,s255,r119.2.1.marks,s256,r119.2.1.WayNotes,r119.1,T23,rs242,rs245,rs248,rs251,s238,r108.2.1.ordered,s239,r108.2.1.way,r108.1,rs235) (ft hF241 hF258) ⟨rfl,rfl,rfl,rfl,rfl,rfl,rfl,rfl,rfl,trivial⟩ rfl ⟨h234,fm243,(All.monoLR fa244 fl rl),fm246,(All.monoTo fa247 fl rl),fm249,(All.monoFrom fa250 fl rl),fm252,(All.monoTo fa253 fl rl),fm236,(All.monoProcessF fa237 hF258 nsl)⟩
  rintro F261 ⟨s205,l206,s207,l208,s209,l210,l211,y212,rs213,rs216,rs219,rs222,s225,l226,s227,l228,l229,rs230⟩ hF262 ⟨hy,fm214,fa215,fm217,fa218,fm220,fa221,fm223,fa224,fm231,fa232⟩
  subst hy
  try dsimp only at H
  refine lsk rfl hb203<|lr (Ev.pickT rfl hb203 rfl)<|nt0<|Cd.condT rfl rfl<|sr0<|as1 rfl<|nt0 ?_
  have H:=hret71 _ (sj H)
  subst H
  replace H:=HKl71
  obtain rfl:=si H
  refine Cd.ret<|At.in_ret<|At.then_ret<|At.then_ret<|At.in_ret<|At.then_ret ?_
  exact At.ret1 rfl (Res.tmp rfl) (ft T6 hF262) (sc1 (sc2 (sc8 rl))) ⟨rfl,rfl⟩
 obtain ⟨r263,h264,H⟩:=bs H
 obtain ⟨o296,h297,H⟩:=Let_some H
 refine Cd.headMeet (σ:=Sl×(List Str)×Sl×(List Mark)×Sl×(List Note)×(List (Int×Int))×RWld×(Vector (LR Saying) 6)×(Vector ToR 6)×(Vector FromR 6)×(Vector ToR 6)×Sl×(List Str)×Sl×(List Str)×(List Procs)×(List ProcessR)) 24 (fun (s268,l269,s270,l271,s272,l273,l274,y275,rs276,rs279,rs282,rs285,s288,l289,s290,l291,l292,rs293)=>[(0,iv a0),(5,pv b19 0),(7,pv b47 0),(42,Sl.v sa1),(43,iv (a1.length:Int)),(44,iv (i71:Int)),(64,.bool (!(decide (r199=r119.2.1.V)))),(66,iv r263),(71,iv (r119.2.1.WayNotes.length:Int))]) (fun (s268,l269,s270,l271,s272,l273,l274,y275,rs276,rs279,rs282,rs285,s288,l289,s290,l291,l292,rs293)=>(.own s268 9 1 (encs l269))::(.own s270 198 2 (encs l271))::(.own s272 132 12 (encs l273))::(mii b48 l274)::(.blk b47 (enc (RWldR.mk ({y275 with gone:=l274,order:=l269,marks:=l271,WayNotes:=l273}:RWld) (some b48) rs276 rs279 rs282 rs285 s268 s270 s272)) 50)::(.own s288 9 1 (encs l289))::(.own s290 9 1 (encs l291))::(.rows (α:=Saying) 62 (List.map ProcessR.row rs293))::(.own s20 100 8 (encs rs293))::(.blk b19 (enc (WldR.mk ({r108.2.1 with all:=l292,ordered:=l289,way:=l291}:Wld) s20 s288 s290)) 95)::T5::L) (fun Fx (s268,l269,s270,l271,s272,l273,l274,y275,rs276,rs279,rs282,rs285,s288,l289,s290,l291,l292,rs293)=>(l269,l271,l273,l274,y275,l289,l291,l292)=o296∧rs276.toList.map LR.v=y275.Logs.toList∧All LR.rel w0 Fx M rs276.toList∧rs279.toList.map ToR.v=y275.want.toList∧All ToR.rel w0 Fx M rs279.toList∧rs282.toList.map FromR.v=y275.Late.toList∧All FromR.rel w0 Fx M rs282.toList∧rs285.toList.map ToR.v=y275.in_.toList∧All ToR.rel w0 Fx M rs285.toList∧rs293.map ProcessR.v=l292∧All ProcessR.frel w0 Fx [] rs293) (by kernel_rfl) (by kernel_rfl) (behind_sink (by kernel_rfl) (by kernel_rfl) (by kernel_rfl)) (by kernel_rfl) (fun hsel hlt=>?_) ?_
 ·refine HdJ.keep (fun w=>St w0 F101 (T5::L) w) (fun w h=>trivial)<|hts rfl hsel hlt 0 (sk1 (sc2 (sc8 rl))) rfl (Ev.move rfl)<|hts rfl hsel hlt 1 (sk1 (sc2 (sc8 rl))) rfl (Ev.loadA (i:=0) rfl rfl I30 Z30 (ch:=enc x103) el gh0)<|hts rfl hsel hlt 3 (sk1 (sc2 (sc8 rl))) rfl (Ev.move rfl)<|hts rfl hsel hlt 4 (sk1 (sc2 (sc8 rl))) rfl (Ev.loadA (i:=0) rfl rfl I30 Z30 (ch:=enc x103) el gh0) ?_
  refine HdJ.o1 2 (fun inv=>?_)
  refine lf 10 rfl<|lf 6 rfl<|lf 6 rfl<|lf 10 rfl<|lf 10 rfl ?_
  refine cl rfl (vs:=[pv b19 0,.agg (enc x103).toArray]) ⟨rfl,rfl,trivial⟩ Tryz.call11 (partlaw_doOf_sim h109 w0 _ M _ (sc4 (sc2 hM)) hT fm99 (All.monoProcessF fa100 fl nsl)) (fun F303 L' v hF304 hv=>?_)
  obtain ⟨rs298,s301,s302,rfl,rfl,fm299,fa300⟩:=hv
  let T16:Item:=.own s20 100 8 (encs rs298)
  let T14:Item:=.own s302 9 1 (encs r108.2.1.way)
  let T10:Item:=.own s301 9 1 (encs r108.2.1.ordered)
  let T4:Item:=.rows (α:=Saying) 62 (List.map ProcessR.row rs298)
  let T1:Item:=.blk b19 (enc (WldR.mk T35 s20 s301 s302)) 95
  refine Lst.nil<|At.hd inv (fun w h=>(h.weaken hF304).sublist (sc1 (sc4 (sk1 (sc1 (sc4 rl)))))) ?_
  refine HdJ.o1 5 (fun inv=>?_)
  refine lf 10 rfl<|lf 9 rfl<|lf 9 rfl<|lf 9 rfl<|lf 10 rfl ?_
  refine cl rfl (vs:=[pv b47 0,.agg (enc x103).toArray]) ⟨rfl,rfl,trivial⟩ Tryz.call12 (partref_World_Do_sim h120 w0 _ M _ (sc4 (sc2 hM)) hT fm74 (All.monoLR fa75 hF304 rl) fm77 (All.monoTo fa78 hF304 rl) fm80 (All.monoFrom fa81 hF304 rl) fm83 (All.monoTo fa84 hF304 rl)) (fun F320 L' v hF321 hv=>?_)
  obtain ⟨rs305,rs308,rs311,rs314,s317,s318,s319,rfl,rfl,fm306,fa307,fm309,fa310,fm312,fa313,fm315,fa316⟩:=hv
  let T12:Item:=.own s317 9 1 (encs r119.2.1.order)
  let T9:Item:=.own s318 198 2 (encs r119.2.1.marks)
  let T8:Item:=.own s319 132 12 (encs r119.2.1.WayNotes)
  let T0:Item:=.blk b47 (enc (RWldR.mk T23 (some b48) rs305 rs308 rs311 rs314 s317 s318 s319)) 50
  refine Lst.nil<|At.hd inv (fun w h=>(h.weaken (ft hF304 hF321)).sublist (sc2 (sc8 rl)))<|HdJ.keep (fun w=>St w0 F320 (T12::T9::T8::(mii b48 r119.1)::T0::T10::T14::T4::T16::T1::T5::L) w) (fun w h=>(h.weaken (ft hF304 hF321)).sublist (sc2 (sc8 rl)))<|hts rfl hsel hlt 6 rl rfl (Ev.neq rfl rfl)<|hts rfl hsel hlt 7 rl rfl (Ev.move rfl)<|HdJ.takeG (i:=8) (Lp:=T12::T9::T8::(mii b48 r119.1)::T0::T10::T14::T4::T16::T1::T5::L) (Fp:=F320) rfl rfl (by decide) hsel hlt (by decide) (by kernel_rfl) (by kernel_rfl) (fun w h=>h.sublist rl) rfl rfl rfl hb141 (fun w h=>h) (Ev.move rfl)<|HdJ.takeG (i:=10) (Lp:=T12::T9::T8::(mii b48 r119.1)::T0::T10::T14::T4::T16::T1::T5::L) (Fp:=F320) rfl rfl (by decide) hsel hlt (by decide) (by kernel_rfl) (by kernel_rfl) (fun w h=>h.sublist rl) rfl rfl rfl hb141 (fun w h=>h) (Ev.move rfl)<|HdJ.takeG (i:=11) (Lp:=T12::T9::T8::(mii b48 r119.1)::T0::T10::T14::T4::T16::T1::T5::L) (Fp:=F320) rfl rfl (by decide) hsel hlt (by decide) (by kernel_rfl) (by kernel_rfl) (fun w h=>h.sublist rl) rfl rfl rfl hb141 (fun w h=>h) (Ev.nilCheck rfl)<|HdJ.takeG (i:=12) (Lp:=T12::T9::T8::(mii b48 r119.1)::T0::T10::T14::T4::T16::T1::T5::L) (Fp:=F320) rfl rfl (by decide) hsel hlt (by decide) (by kernel_rfl) (by kernel_rfl) (fun w h=>h.sublist rl) rfl rfl rfl hb141 (fun w h=>h) (Ev.fo 1 rfl U50 rfl Z34 rfl rfl) ?_
  refine HdJ.takeG (i:=13) (Lp:=T12::T9::T8::(mii b48 r119.1)::T0::T10::T14::T4::T16::T1::T5::L) (Fp:=F320) rfl rfl (by decide) hsel hlt (by decide) (by kernel_rfl) (by kernel_rfl) (fun w h=>h.sublist rl) rfl rfl rfl hb141 (fun w h=>h) (Ev.loadA (i:=4) rfl rfl I34 Z34 (ch:=enc r119.2.1.V) el ((RWldR.get_V gh0).off rfl)) ?_
  refine HdJ.o1 9 (fun inv=>?_)
  refine lf 9 rfl<|lf 7 rfl<|lf 7 rfl<|lf 9 rfl<|lf 9 rfl<|Lst.call1G rfl rfl rfl hb141 rfl (by decide) (vs:=[pv b19 0]) ⟨rfl,trivial⟩ Tryz.call13 (world_World_View_sim h200 w0 _ M _ (sc4 (sc2 hM)) fm299 (All.monoProcessF fa300 hF321 nsl))<|lf 10 rfl<|lf 5 rfl<|lf 3 rfl<|lf 3 rfl<|lf 5 rfl ?_
  refine lf 5 rfl<|lf 10 rfl<|lf 10 rfl<|lf 10 rfl<|lf 10 rfl<|lf 10 rfl<|hds inv rl<|HdJ.takeG (i:=14) (Lp:=T12::T9::T8::(mii b48 r119.1)::T0::T10::T14::T4::T16::T1::T5::L) (Fp:=F320) rfl rfl (by decide) hsel hlt (by decide) (by kernel_rfl) (by kernel_rfl) (fun w h=>h.sublist rl) rfl rfl rfl hb141 (fun w h=>h) (Ev.neqA rfl rfl (by kernel_rfl) (eq34 _ _))<|hts rfl hsel hlt 15 rl rfl (Ev.pickF rfl hb141 rfl)<|hts rfl hsel hlt 16 rl rfl (Ev.move rfl)<|HdJ.takeG (i:=17) (Lp:=T12::T9::T8::(mii b48 r119.1)::T0::T10::T14::T4::T16::T1::T5::L) (Fp:=F320) rfl rfl (by decide) hsel hlt (by decide) (by kernel_rfl) (by kernel_rfl) (fun w h=>h.sublist rl) rfl rfl rfl hb203 (fun w h=>h) (Ev.move rfl) ?_
  refine HdJ.takeG (i:=19) (Lp:=T12::T9::T8::(mii b48 r119.1)::T0::T10::T14::T4::T16::T1::T5::L) (Fp:=F320) rfl rfl (by decide) hsel hlt (by decide) (by kernel_rfl) (by kernel_rfl) (fun w h=>h.sublist rl) rfl rfl rfl hb203 (fun w h=>h) (Ev.move rfl)<|HdJ.takeG (i:=20) (Lp:=T12::T9::T8::(mii b48 r119.1)::T0::T10::T14::T4::T16::T1::T5::L) (Fp:=F320) rfl rfl (by decide) hsel hlt (by decide) (by kernel_rfl) (by kernel_rfl) (fun w h=>h.sublist rl) rfl rfl rfl hb203 (fun w h=>h) (Ev.nilCheck rfl)<|HdJ.takeG (i:=21) (Lp:=T12::T9::T8::(mii b48 r119.1)::T0::T10::T14::T4::T16::T1::T5::L) (Fp:=F320) rfl rfl (by decide) hsel hlt (by decide) (by kernel_rfl) (by kernel_rfl) (fun w h=>h.sublist rl) rfl rfl rfl hb203 (fun w h=>h) (Ev.fo 48 rfl U50 rfl Z48 rfl rfl)<|HdJ.takeG (i:=22) (Lp:=T12::T9::T8::(mii b48 r119.1)::T0::T10::T14::T4::T16::T1::T5::L) (Fp:=F320) rfl rfl (by decide) hsel hlt (by decide) (by kernel_rfl) (by kernel_rfl) (fun w h=>h.sublist rl) rfl rfl rfl hb203 (fun w h=>h) (Ev.load (i:=4) rfl rfl I48 (v:=Sl.v s319) ((RWldR.get_WayNotes gh0).off rfl))<|HdJ.takeG (i:=23) (Lp:=T12::T9::T8::(mii b48 r119.1)::T0::T10::T14::T4::T16::T1::T5::L) (Fp:=F320) rfl rfl (by decide) hsel hlt (by decide) (by kernel_rfl) (by kernel_rfl) (fun w h=>h.sublist rl) rfl rfl rfl hb203 (fun w h=>h) (Ev.lenS (α:=Note) (xs:=r119.2.1.WayNotes) (by decide) rfl rfl U48 (rdo 2 rfl rfl rfl)) ?_
  refine HdJ.o1 18 (fun inv=>?_)
  refine lf 9 rfl<|lf 7 rfl<|lf 7 rfl<|lf 9 rfl<|lf 9 rfl<|Lst.call1G rfl rfl rfl hb203 rfl (by decide) (vs:=[pv b19 0]) ⟨rfl,trivial⟩ Tryz.call14 (world_World_Way_sim h264 w0 _ M _ (sc4 (sc2 hM)) fm299 (All.monoProcessF fa300 hF321 nsl))<|lf 10 rfl<|lf 5 rfl<|lf 3 rfl<|lf 3 rfl<|lf 5 rfl ?_
  refine lf 5 rfl<|lf 10 rfl<|lf 10 rfl<|lf 10 rfl<|lf 10 rfl<|lf 10 rfl<|hds inv rl<|HdJ.done (by kernel_rfl) ?_
  exact At.meetN (s317,r119.2.1.order,s318,r119.2.1.marks,s319,r119.2.1.WayNotes,r119.1,T23,rs305,rs308,rs311,rs314,s301,r108.2.1.ordered,s302,r108.2.1.way,r108.1,rs298) (ft hF304 hF321) ⟨rfl,rfl,rfl,rfl,rfl,rfl,rfl,rfl,rfl,trivial⟩ rfl ⟨h297,fm306,(All.monoLR fa307 fl rl),fm309,(All.monoTo fa310 fl rl),fm312,(All.monoFrom fa313 fl rl),fm315,(All.monoTo fa316 fl rl),fm299,(All.monoProcessF fa300 hF321 nsl)⟩
 rintro F326 ⟨s268,l269,s270,l271,s272,l273,l274,y275,rs276,rs279,rs282,rs285,s288,l289,s290,l291,l292,rs293⟩ hF327 ⟨hy,fm277,fa278,fm280,fa281,fm283,fa284,fm286,fa287,fm294,fa295⟩
 subst hy
 try dsimp only at H
 refine lg hb203 (Ev.neq rfl rfl)<|lr (Ev.pickF rfl hb203 rfl)<|nt0 ?_
 rcases ic H with ⟨hb328,H⟩|⟨hb328,H⟩
 ·refine Cd.condT rfl hb328<|sr0<|as1 rfl<|nt0 ?_
  have H:=hret71 _ (sj H)
  subst H
  replace H:=HKl71
  obtain rfl:=si H
  refine Cd.ret<|At.in_ret<|At.then_ret<|At.then_ret<|At.in_ret<|At.then_ret ?_
  exact At.ret1 rfl (Res.tmp rfl) (ft T6 hF327) (sc1 (sc2 (sc8 rl))) ⟨rfl,rfl⟩
 refine Cd.condF rfl hb328<|Cd.skip<|At.in_normal<|At.then<|Cd.region<|lr (Ev.incr (by omega) rfl rfl)<|mv1 rfl<|Lst.nil<|af 6 rfl<|af 6 rfl<|af 4 rfl ?_
 refine af 4 rfl<|af 4 rfl<|At.less (sk2 (sk4 (sk4 (sc1 rl)))) ?_
 exact At.meet (i71+1,k71,({y275 with gone:=l274,order:=l269,marks:=l271,WayNotes:=l273}:RWld),rs276,rs279,rs282,rs285,s268,s270,s272,({r108.2.1 with all:=l292,ordered:=l289,way:=l291}:Wld),s288,s290,l274,l292,rs293) (ft hF102 hF327) ⟨rfl,rfl,rfl,rfl,rfl,rfl,trivial⟩ rfl ⟨⟨hgo71 _ (sj H),by omega,fm277,(All.monoLR fa278 fl rl),fm280,(All.monoTo fa281 fl rl),fm283,(All.monoFrom fa284 fl rl),fm286,(All.monoTo fa287 fl rl),fm294,(All.monoProcessF fa295 fl nsl)⟩,nls⟩
end Go.Proofs.YtchmclllcdknjaaGreatDoor
