/-
  The functions compute their specs; printed by a program.
-/
import Derived.Test.YtchmclllcdknjaaGreatDoorWpP2
namespace Go.Proofs.YtchmclllcdknjaaGreatDoor
open Go.RowKit Enc
set_option linter.unusedVariables false
set_option linter.unusedSimpArgs false
set_option maxRecDepth 20000
abbrev U30 := @Tryz.runUnderlying30
abbrev U36 := @Tryz.runUnderlying36
abbrev U42 := @Tryz.runUnderlying42
abbrev U46 := @Tryz.runUnderlying46
abbrev U47 := @Tryz.runUnderlying47
abbrev U48 := @Tryz.runUnderlying48
abbrev U193 := @Tryz.runUnderlying193
abbrev U198 := @Tryz.runUnderlying198
abbrev U259 := @Tryz.runUnderlying259
abbrev Z36 := @Tryz.sizeOf36
abbrev Z42 := @Tryz.sizeOf42
abbrev Z46 := @Tryz.sizeOf46
abbrev Z47 := @Tryz.sizeOf47
abbrev Z48 := @Tryz.sizeOf48
abbrev Z198 := @Tryz.sizeOf198
abbrev I36 := @Tryz.isAgg36
abbrev I47 := @Tryz.isAgg47
abbrev I48 := @Tryz.isAgg48
set_option maxHeartbeats 2000000 in
theorem world_World_Change_sim {a0:Wld} {ba0:Nat} {sa0x1:Sl} {ra0x1:List ProcessR} {sa0x2:Sl} {sa0x3:Sl} {r:(List Procs)×Wld×Int} (H:world_World_Change a0=some r) (w0:World) (F:Frz) (M L:List Item) (hM:M.Sublist L) (ma0x1:ra0x1.map ProcessR.v=a0.all) (na0x1:All ProcessR.frel w0 F [] ra0x1):Ok Tryz.prog w0 37 [pv ba0 0] F ((.rows (α:=Saying) 62 (List.map ProcessR.row ra0x1))::(.own sa0x1 100 8 (encs ra0x1))::(.own sa0x2 9 1 (encs a0.ordered))::(.own sa0x3 9 1 (encs a0.way))::(.blk ba0 (enc (WldR.mk a0 sa0x1 sa0x2 sa0x3)) 95)::L) (fun Fx L' v=>∃ (rs6:List ProcessR) (s9:Sl),v=iv r.2.2∧L'=(.own s9 9 1 (encs r.2.1.ordered))::(.rows (α:=Saying) 62 (List.map ProcessR.row rs6))::(.own sa0x1 100 8 (encs rs6))::(.own sa0x3 9 1 (encs a0.way))::(.blk ba0 (enc (WldR.mk ({r.2.1 with all:=r.1,way:=a0.way}:Wld) sa0x1 s9 sa0x3)) 95)::L∧rs6.map ProcessR.v=r.1∧All ProcessR.frel w0 Fx [] rs6):=by
 let T7:Item:=.own sa0x3 9 1 (encs a0.way)
 let T5:Item:=.own sa0x2 9 1 (encs a0.ordered)
 unfold world_World_Change at H
 refine Ok.enter (m:=1) (n:=139) Tryz.func37 rfl rfl rfl (by decide)<|Cd.env (e':=[(0,pv ba0 0)]) rfl<|sr0<|as1 rfl<|nsr<|as1 rfl<|nsr ?_
 have hw7:Among (List.map ProcessR.row ra0x1) (List.replicate 0 (⟨[],Sl.nil⟩:LR Saying)) Sl.nil ([]:List Saying):=Among.nil
 refine Lst.rowsNil Saying 62 0<|as1 rfl<|nt0<|Cd.seq<|sr0<|mv1 rfl<|lr (Ev.nilCheck rfl)<|lr (Ev.fo 2 rfl U95 rfl Z93 rfl rfl)<|lr (Ev.load (i:=5) rfl rfl I93 (v:=Sl.v sa0x1) ((WldR.get_all gh0).off rfl))<|lr (Ev.lenM (map_len ma0x1) (Ev.lenS (α:=ProcessR) (xs:=ra0x1) (by decide) rfl rfl U93 (rdo 2 rfl rfl rfl)))<|mv1 rfl ?_
 refine nt0<|Cd.block ?_
 refine Cd.bound (Rd.le (α:=ProcessR) (xs:=ra0x1) (by decide) (rdo 2 rfl rfl rfl)) (fun hN166=>?_)
 rw [map_len ma0x1] at hN166
 obtain ⟨ol9,H,HKl9⟩:=bs H
 refine Cd.loop (σ:=Nat×Nat×(BitVec 8)×Sl×(List Saying)) (fun (i9,k9,y10,s11,l12)=>[(0,pv ba0 0),(3,.int .u8 y10.toNat),(4,Sl.v s11),(18,iv (a0.all.length:Int)),(19,iv (i9:Int))]) (fun (i9,k9,y10,s11,l12)=>(.rows (α:=Saying) 62 (List.replicate 0 (⟨[],Sl.nil⟩:LR Saying)))::(.rows (α:=Saying) 62 (List.map ProcessR.row ra0x1))::(.own sa0x1 100 8 (encs ra0x1))::T5::T7::(.blk ba0 (enc (WldR.mk a0 sa0x1 sa0x2 sa0x3)) 95)::L) (fun Fx=>(fun (i9,k9,y10,s11,l12)=>rangeF (world_World_Change_B0 a0) k9 i9 (y10,l12)=some ol9∧i9+k9=a0.all.length∧Among (List.map ProcessR.row ra0x1) (List.replicate 0 (⟨[],Sl.nil⟩:LR Saying)) s11 l12)) (fun (i9,k9,y10,s11,l12)=>k9) (0,a0.all.length,(0:BitVec 8),Sl.nil,([]:List Saying)) ⟨rfl,rfl,rfl,rfl,rfl,trivial⟩ rfl ⟨H,by omega,hw7⟩ ?_
 rintro F14 ⟨i9,k9,y10,s11,l12⟩ hF15 ⟨H,hik9,hw13⟩
 rcases k9 with _ | k9
 ·have hc9:decide ((i9:Int) < (a0.all.length:Int))=false:=decide_eq_false (by omega)
  replace H:=rangeF_end H
  refine sr0<|lr (Ev.lss rfl rfl)<|nt0<|Cd.seq<|Cd.condF rfl hc9<|Cd.exit<|At.then_exit<|At.then_exit<|At.in_exit ?_
  subst H
  replace H:=HKl9
  try dsimp only [Sum.elim_inl] at H
  refine At.then<|sr0<|mv1 rfl<|lr (Ev.nilCheck rfl)<|lr (Ev.fo 0 rfl U95 rfl Z34 rfl rfl)<|lr (Ev.loadA (i:=5) rfl rfl I34 Z34 (ch:=enc a0.view) el ((WldR.get_view gh0).off rfl))<|mv1 rfl ?_
  obtain ⟨r29,h30,H⟩:=bs H
  refine cl1 rfl (vs:=[.agg (enc a0.view).toArray,.int .u8 y10.toNat,.int .u8 (0:BitVec 8).toNat]) ⟨rfl,rfl,rfl,trivial⟩ Tryz.call70 (view_Next_sim h30 w0 _ M _ (sc4 (sc2 hM)))<|mv1 rfl<|lr (Ev.extract rfl rfl)<|lr (Ev.extract rfl rfl) ?_
  refine Lst.alloc (cs:=enc View.zero) rfl rfl (by decide) Tryz.zeroValue34 rfl (fun b33=>?_)
  let T8:Item:=.blk b33 (enc r29.1) 34
  refine lst 0 rfl rfl rfl Z34 (vs:=enc r29.1) rfl el (Enc.one _) (cs':=enc r29.1) phl rfl<|as1 rfl<|nt0<|Cd.seq<|sr0<|mv1 rfl<|lr (Ev.neq rfl rfl)<|nt0 ?_
  rcases ic H with ⟨hb35,H⟩|⟨hb35,H⟩
  ·refine Cd.condT rfl hb35<|sr0<|mv1 rfl<|as1 rfl<|nt0 ?_
   obtain rfl:=si H
   refine Cd.ret<|At.then_ret<|af 4 rfl ?_
   exact At.ret1 rfl (Res.tmp rfl) hF15 (sk1 (sc2 rl)) ⟨ra0x1,sa0x2,rfl,rfl,ma0x1,(All.monoProcessF na0x1 hF15 nsl)⟩
  refine Cd.condF rfl hb35<|Cd.skip<|At.then<|Cd.seq<|sr0<|mv1 rfl<|lr (Ev.nilCheck rfl)<|lr (Ev.fo 2 rfl U95 rfl Z93 rfl rfl)<|lr (Ev.load (i:=6) rfl rfl I93 (v:=Sl.v sa0x1) ((WldR.get_all gh0).off rfl))<|lr (Ev.lenM (map_len ma0x1) (Ev.lenS (α:=ProcessR) (xs:=ra0x1) (by decide) rfl rfl U93 (rdo 3 rfl rfl rfl)))<|mv1 rfl ?_
  refine nt0<|Cd.block ?_
  refine Cd.bound (Rd.le (α:=ProcessR) (xs:=ra0x1) (by decide) (rdo 3 rfl rfl rfl)) (fun hN165=>?_)
  rw [map_len ma0x1] at hN165
  obtain ⟨ol37,H,HKl37⟩:=bs H
  refine Cd.loop (σ:=Nat×Nat×Sl×(List Saying)×Wld×(List (LR Saying))×(List Procs)×(List ProcessR)) (fun (i37,k37,s38,l39,y40,o41,l42,rs43)=>[(0,pv ba0 0),(4,Sl.v s38),(7,pv b33 0),(67,iv (a0.all.length:Int)),(68,iv (i37:Int))]) (fun (i37,k37,s38,l39,y40,o41,l42,rs43)=>T8::(.rows (α:=Saying) 62 o41)::(.rows (α:=Saying) 62 (List.map ProcessR.row rs43))::(.own sa0x1 100 8 (encs rs43))::T5::T7::(.blk ba0 (enc (WldR.mk ({y40 with all:=l42,ordered:=a0.ordered,way:=a0.way}:Wld) sa0x1 sa0x2 sa0x3)) 95)::L) (fun Fx=>(fun (i37,k37,s38,l39,y40,o41,l42,rs43)=>rangeF (world_World_Change_B3 a0) k37 i37 (l39,y40,l42)=some ol37∧i37+k37=a0.all.length∧rs43.map ProcessR.v=l42∧All ProcessR.frel w0 Fx [] rs43∧Among (List.map ProcessR.row rs43) o41 s38 l39)) (fun (i37,k37,s38,l39,y40,o41,l42,rs43)=>k37) (0,a0.all.length,s11,l12,a0,(List.replicate 0 (⟨[],Sl.nil⟩:LR Saying)),a0.all,ra0x1) ⟨rfl,rfl,rfl,rfl,rfl,trivial⟩ rfl ⟨H,by omega,ma0x1,(All.monoProcessF na0x1 hF15 nsl),hw13⟩ ?_
  rintro F47 ⟨i37,k37,s38,l39,y40,o41,l42,rs43⟩ hF48 ⟨H,hik37,fm44,fa45,hw46⟩
  let T24:=({y40 with all:=l42,ordered:=a0.ordered,way:=a0.way}:Wld)
  rcases k37 with _ | k37
  ·have hc37:decide ((i37:Int) < (a0.all.length:Int))=false:=decide_eq_false (by omega)
   replace H:=rangeF_end H
   refine sr0<|lr (Ev.lss rfl rfl)<|nt0<|Cd.seq<|Cd.condF rfl hc37<|Cd.exit<|At.then_exit<|At.then_exit<|At.in_exit ?_
   subst H
   replace H:=HKl37
   try dsimp only [Sum.elim_inl] at H
   refine At.then<|sr0<|mv1 rfl<|lr (Ev.nilCheck rfl)<|lr (Ev.fo 3 rfl U95 rfl Z43 rfl rfl)<|Lst.addNil 9 1<|lst 7 rfl rfl rfl Z43 (vs:=[Sl.v Sl.nil]) rfl rfl rfl (cs':=enc (WldR.mk ({y40 with all:=l42,ordered:=([]:List Str),way:=a0.way}:Wld) sa0x1 Sl.nil sa0x3)) ((WldR.put_ordered (Put.here (vs:=[Sl.v Sl.nil]) rfl)).off rfl) rfl<|nsr<|mv1 rfl<|lr (Ev.loadA (i:=1) rfl rfl I34 Z34 (ch:=enc r29.1) el gh0)<|lr (Ev.nilCheck rfl) ?_
   refine lr (Ev.fo 0 rfl U95 rfl Z34 rfl rfl)<|lst 7 rfl rfl rfl Z34 (vs:=enc r29.1) rfl el (Enc.one _) (cs':=enc (WldR.mk ({y40 with view:=r29.1,all:=l42,ordered:=([]:List Str),way:=a0.way}:Wld) sa0x1 Sl.nil sa0x3)) ((WldR.put_view phl).off rfl) rfl<|nsr<|as1 rfl<|nt0 ?_
   obtain rfl:=si H
   refine Cd.ret ?_
   exact At.ret1 rfl (Res.tmp rfl) (ft hF15 hF48) (sk1 (sc2 (sk2 (sc1 rl)))) ⟨rs43,Sl.nil,rfl,rfl,fm44,(All.monoProcessF fa45 fl nsl)⟩
  have hc37:decide ((i37:Int) < (a0.all.length:Int))=true:=decide_eq_true (by omega)
  obtain ⟨c37,H,hgo37⟩:=rangeF_go H
  unfold world_World_Change_B3 at H
  try dsimp only at H
  refine sr0<|lr (Ev.lss rfl rfl)<|nt0<|Cd.seq<|Cd.condT rfl hc37<|Cd.skip<|At.then<|Cd.seq<|Cd.block<|sr0<|mv1 rfl ?_
  refine as1 rfl<|nsr<|mv1 rfl<|lr (Ev.nilCheck rfl)<|lr (Ev.fo 2 rfl U95 rfl Z93 rfl rfl)<|lr (Ev.load (i:=6) rfl rfl I93 (v:=Sl.v sa0x1) ((WldR.get_all gh0).off rfl))<|mv1 rfl ?_
  obtain ⟨x49,h50,H⟩:=bs H
  have g51:=lat_some h50
  obtain ⟨⟨r52v,r52h1,⟨r52_2v,r52_2h1⟩,⟨r52_3v,r52_3h1⟩,⟨r52_4v,r52_4h1⟩⟩,r52g,r52e,r52m⟩:=map_get fm44 g51.2.2
  let T20:=ProcessR.mk x49 r52h1 (FromR.mk x49.from_ r52_2h1) (ToR.mk x49.to r52_3h1) (ToR.mk x49.orders r52_4h1)
  let T6:Item:=.rows (α:=Saying) 62 (o41++[⟨x49.log,r52h1⟩])
  obtain rfl:x49=r52v:=r52e.symm
  have r52q:ProcessR.frel w0 _ _ (ProcessR.mk x49 r52h1 (FromR.mk r52_2v r52_2h1) (ToR.mk r52_3v r52_3h1) (ToR.mk r52_4v r52_4h1)):=fa45 _ r52m
  obtain ⟨r52_i2,r52_i3,r52_i4⟩:=r52q
  obtain ⟨r52_2e,r52_2q⟩:=r52_i2
  obtain rfl:r52_2v=x49.from_:=r52_2e
  have r52_2_f1:Rd w0 _ _ _ _:=r52_2q
  obtain ⟨r52_3e,r52_3q⟩:=r52_i3
  obtain rfl:r52_3v=x49.to:=r52_3e
  have r52_3_f1:Rd w0 _ _ _ _:=r52_3q
  obtain ⟨r52_4e,r52_4q⟩:=r52_i4
  obtain rfl:r52_4v=x49.orders:=r52_4e
  have r52_4_f1:Rd w0 _ _ _ _:=r52_4q
  have r52wg:=map_at ProcessR.row r52g
  refine lr (Ev.indexS (α:=ProcessR) (xs:=rs43) rfl rfl U93 Z100 rfl (by decide) (rdo 3 rfl rfl rfl) g51.1 (by have:=map_len fm44; omega))<|as1 rfl<|nt0 ?_
  obtain ⟨o62,H,HKo62⟩:=bs H
  refine Cd.join (σ:=Sl×(List Saying)×Wld×(List (LR Saying))×(List Procs)×(List ProcessR)) (fun (s53,l54,y55,o56,l57,rs58)=>[(0,pv ba0 0),(4,Sl.v s53),(7,pv b33 0),(10,Sl.at sa0x1 ((i37:Int).toNat * 8)),(67,iv (a0.all.length:Int)),(68,iv (i37:Int))]) (fun (s53,l54,y55,o56,l57,rs58)=>T8::(.rows (α:=Saying) 62 o56)::(.rows (α:=Saying) 62 (List.map ProcessR.row rs58))::(.own sa0x1 100 8 (encs rs58))::T5::T7::(.blk ba0 (enc (WldR.mk ({y55 with all:=l57,ordered:=a0.ordered,way:=a0.way}:Wld) sa0x1 sa0x2 sa0x3)) 95)::L) (fun Fx (s53,l54,y55,o56,l57,rs58)=>(l54,y55,l57)=o62∧rs58.map ProcessR.v=l57∧All ProcessR.frel w0 Fx [] rs58∧Among (List.map ProcessR.row rs58) o56 s53 l54) ?_ ?_
  ·refine sr0<|mv1 rfl<|mv1 rfl ?_
   obtain ⟨r63,h64,H⟩:=bs H
   refine lf 6 rfl<|lf 6 rfl<|lf 6 rfl<|lf 6 rfl<|lf 6 rfl<|cl1 rfl (vs:=[pv ba0 0,iv (i37:Int)]) ⟨rfl,rfl,trivial⟩ Tryz.call65 (world_World_active_sim h64 w0 _ M _ (sc2 hM) fm44 (All.monoProcessF fa45 fl nsl))<|nt0 ?_
   rcases ic2 H with ⟨hb67,H⟩|⟨hb67,H⟩
   ·refine Cd.condF rfl hb67<|Cd.skip<|af 6 rfl<|af 6 rfl ?_
    exact At.meet (s38,l39,T24,o41,l42,rs43) fl ⟨rfl,rfl,rfl,rfl,rfl,rfl,trivial⟩ rfl ⟨si H,fm44,(All.monoProcessF fa45 fl nsl),hw46⟩
   refine Cd.condT rfl hb67<|sr0<|as1 rfl<|nt0<|Cd.seq<|sr0<|mv1 rfl<|mv1 rfl<|lr (Ev.nilCheckS (α:=ProcessR) rfl (rdo 1 rfl rfl rfl) ((Get.elemN (s:=8) rfl r52g gh0).off (by omega)) rfl)<|lr (Ev.fieldS (α:=ProcessR) (f':=(i37:Int).toNat * 8+1) rfl (rdo 1 rfl rfl rfl) ((Get.elemN (s:=8) rfl r52g gh0).off (by omega)) rfl U100 rfl Z37 rfl rfl rfl)<|lr (Ev.loadS (α:=ProcessR) rfl (rdo 1 rfl rfl rfl) I37 (v:=Sl.v r52h1) ((Get.elemN (s:=8) rfl r52g (ProcessR.get_log gh0)).off (by omega))) ?_
   refine lr (Ev.lenS (α:=Saying) (xs:=x49.log) (by decide) rfl rfl U37 (Rd.row (j:=0) rfl r52wg)) ?_
   obtain ⟨m68,h69,H⟩:=bs H
   obtain ⟨g70,gl71⟩:=cutL_some h69
   try dsimp only at g70
   refine lr (Ev.cut (α:=Saying) (xs:=l39) (i:=(x49.log.length:Int)) (j:=(l39.length:Int)) rfl rfl rfl U37 Z62 rfl (by decide) (Rd.among (i:=0) (j:=6) rfl rfl hw46) g70.1 g70.2.1 g70.2.2)<|lr (Ev.lenS (α:=Saying) (xs:=m68) (by decide) rfl rfl U37 (by rw [← gl71]; exact Rd.cut (by decide) (Rd.among (i:=0) (j:=6) rfl rfl hw46) (by omega) (by omega)))<|mv1 rfl<|nt0<|Cd.block ?_
   refine Cd.bound (Rd.le (α:=Saying) (xs:=m68) (by decide) (by rw [← gl71]; exact Rd.cut (by decide) (Rd.among (i:=0) (j:=6) rfl rfl hw46) (by omega) (by omega))) (fun hN152=>?_)
   obtain ⟨ol72,H,HKl72⟩:=bs H
   refine Cd.loop (σ:=Nat×Nat×Int) (fun (i72,k72,y73)=>[(0,pv ba0 0),(4,Sl.v s38),(7,pv b33 0),(9,iv (i37:Int)),(10,Sl.at sa0x1 ((i37:Int).toNat * 8)),(11,iv y73),(67,iv (a0.all.length:Int)),(68,iv (i37:Int)),(86,Sl.v (s38.cut ((x49.log.length:Int):Int).toNat ((l39.length:Int):Int).toNat 2)),(87,iv (m68.length:Int)),(88,iv (i72:Int))]) (fun (i72,k72,y73)=>(.rows (α:=Saying) 62 (List.map ProcessR.row rs43))::(.own sa0x1 100 8 (encs rs43))::T5::T7::(.blk ba0 (enc (WldR.mk T24 sa0x1 sa0x2 sa0x3)) 95)::T8::(.rows (α:=Saying) 62 o41)::L) (fun _=>(fun (i72,k72,y73)=>rangeF (world_World_Change_B5 i37 m68) k72 i72 y73=some ol72∧i72+k72=m68.length)) (fun (i72,k72,y73)=>k72) (0,m68.length,(0:Int)) ⟨rfl,rfl,rfl,rfl,rfl,rfl,rfl,rfl,rfl,rfl,rfl,trivial⟩ rfl ⟨H,by omega⟩ ?_
   rintro F74 ⟨i72,k72,y73⟩ hF75 ⟨H,hik72⟩
   rcases k72 with _ | k72
   ·have hc72:decide ((i72:Int) < (m68.length:Int))=false:=decide_eq_false (by omega)
    replace H:=rangeF_end H
    refine sr0<|lr (Ev.lss rfl rfl)<|nt0<|Cd.seq<|Cd.condF rfl hc72<|Cd.exit<|At.then_exit<|At.then_exit<|At.in_exit ?_
    subst H
    replace H:=HKl72
    refine At.then<|sr0<|mv1 rfl<|mv1 rfl ?_
    obtain ⟨r82,h83,H⟩:=bs H
    refine cl rfl (vs:=[Sl.v s38]) ⟨rfl,trivial⟩ Tryz.call44 (slices_Clone_api_Saying_api_Saying_sim h83 w0 _ _ _ rl (Rd.among (i:=0) (j:=6) rfl rfl hw46)) (fun F86 L' v hF87 hv=>?_)
    obtain ⟨s84,rfl,rfl⟩:=hv
    let T9:=ProcessR.mk ({x49 with log:=r82}:Procs) s84 (FromR.mk x49.from_ r52_2h1) (ToR.mk x49.to r52_3h1) (ToR.mk x49.orders r52_4h1)
    let T0:=rs43.set (i37:Int).toNat T9
    let T21:Item:=.own sa0x1 100 8 (encs T0)
    let T11:Item:=.rows (α:=Saying) 62 (List.map ProcessR.row T0)
    refine lr (Ev.nilCheckS (α:=ProcessR) rfl (rdo 2 rfl rfl rfl) ((Get.elemN (s:=8) rfl r52g gh0).off (by omega)) rfl)<|lr (Ev.fieldS (α:=ProcessR) (f':=(i37:Int).toNat * 8+1) rfl (rdo 2 rfl rfl rfl) ((Get.elemN (s:=8) rfl r52g gh0).off (by omega)) rfl U100 rfl Z37 rfl rfl rfl) ?_
    obtain ⟨p89,h90,H⟩:=Let_some H
    let T4:Item:=.blk ba0 (enc (WldR.mk ({y40 with all:=p89,ordered:=a0.ordered,way:=a0.way}:Wld) sa0x1 sa0x2 sa0x3)) 95
    have hm91:T0.map ProcessR.v=p89:=(map_set fm44 _ _).trans h90
    refine lf 1 rfl<|Lst.rowOut (k:=(i37:Int).toNat) r52wg rfl<|lf 8 rfl<|lf 1 rfl<|Lst.rowEnd (α:=Saying) (xs:=x49.log) (s:=r52h1) rfl ?_
    have ha92:All ProcessR.frel w0 F86 [] T0:=All.set (All.monoProcessF fa45 (ft hF75 hF87) nsl) (⟨⟨rfl,(r52_2_f1.mono (ft hF75 hF87) nsl)⟩,⟨rfl,(r52_3_f1.mono (ft hF75 hF87) nsl)⟩,⟨rfl,(r52_4_f1.mono (ft hF75 hF87) nsl)⟩⟩)
    have hw93:Among (List.map ProcessR.row T0) (o41++[⟨x49.log,r52h1⟩]) s38 l39:=by rw [List.map_set]; exact Among.set hw46 r52wg
    refine Lst.storeS (i:=3) rfl rfl rfl rfl rfl Z37 (vs:=[Sl.v s84]) rfl rfl (by decide) rfl (xs':=encs T0) ((Put.elemN (s:=8) (x:=T20) (y:=T9) rfl r52g (ProcessR.put_log (p:=T20) (l:=r82) (Put.here (vs:=[Sl.v s84]) rfl))).off (by omega)) (L':=T6::(.rows (α:=Saying) 62 ((List.map ProcessR.row rs43).set (i37:Int).toNat ⟨[],Sl.nil⟩))::(.own s84 62 2 (encs r82))::T21::T5::T7::T4::T8::L) rfl<|lf 1 rfl<|lf 2 rfl ?_
    refine Lst.rowIn (k:=(i37:Int).toNat) (by rw [List.getElem?_set_self (List.getElem?_eq_some_iff.1 r52wg).1]) rfl ?_
    refine Lst.its (L':=T11::T6::T21::T5::T7::T4::T8::L) (by dsimp +zetaDelta only; rw [map_set_in (f:=ProcessR.row) (l:=rs43) (y:=T9) (b:=⟨r82,s84⟩) rfl] <;> rfl)<|nt0<|Cd.seq ?_
    obtain ⟨x94,h95,H⟩:=bs H
    obtain ⟨x98,h99,H⟩:=bs H
    obtain ⟨m102,h103,H⟩:=bs H
    obtain ⟨r107,h108,H⟩:=bs H
    obtain ⟨o116,h117,H⟩:=Let_some H
    refine Cd.headMeet (σ:=Sl×(List Str)) 17 (fun (s114,l115)=>[(0,pv ba0 0),(4,Sl.v s38),(7,pv b33 0),(10,Sl.at sa0x1 ((i37:Int).toNat * 8)),(67,iv (a0.all.length:Int)),(68,iv (i37:Int)),(104,Sl.at sa0x1 ((i37:Int).toNat * 8)),(120,.agg (enc (FromR.mk ({From.zero with Late:=l115}:From) s114)).toArray)]) (fun (s114,l115)=>(.own s114 9 1 (encs l115))::T11::T6::T21::T5::T7::T4::T8::L) (fun _ (s114,l115)=>l115=o116) (by kernel_rfl) (by kernel_rfl) (behind_sink (by kernel_rfl) (by kernel_rfl) (by kernel_rfl)) (by kernel_rfl) (fun hsel hlt=>?_) ?_
    ·refine HdJ.keep (fun w=>St w0 F86 (T11::T6::T21::T5::T7::T4::T8::L) w) (fun w h=>trivial)<|hts rfl hsel hlt 0 rl rfl (Ev.move rfl)<|hts rfl hsel hlt 1 rl rfl (Ev.move rfl) ?_
     have g118:=lat_some h95
     obtain ⟨⟨r119v,r119h1,⟨r119_2v,r119_2h1⟩,⟨r119_3v,r119_3h1⟩,⟨r119_4v,r119_4h1⟩⟩,r119g,r119e,r119m⟩:=map_get hm91 g118.2.2
     let T16:=r119_2h1.cut (min y73 (x98.from_.Late.length:Int):Int).toNat ((x94.from_.Late.length:Int):Int).toNat 1
     obtain rfl:x94=r119v:=r119e.symm
     have r119q:ProcessR.frel w0 _ _ (ProcessR.mk x94 r119h1 (FromR.mk r119_2v r119_2h1) (ToR.mk r119_3v r119_3h1) (ToR.mk r119_4v r119_4h1)):=ha92 _ r119m
     obtain ⟨r119_i2,r119_i3,r119_i4⟩:=r119q
     obtain ⟨r119_2e,r119_2q⟩:=r119_i2
     obtain rfl:r119_2v=x94.from_:=r119_2e
     have r119_2_f1:Rd w0 _ _ _ _:=r119_2q
     obtain ⟨r119_3e,r119_3q⟩:=r119_i3
     obtain rfl:r119_3v=x94.to:=r119_3e
     have r119_3_f1:Rd w0 _ _ _ _:=r119_3q
     obtain ⟨r119_4e,r119_4q⟩:=r119_i4
     obtain rfl:r119_4v=x94.orders:=r119_4e
     have r119_4_f1:Rd w0 _ _ _ _:=r119_4q
     have r119wg:=map_at ProcessR.row r119g
     refine hts rfl hsel hlt 2 rl rfl (Ev.nilCheckS (α:=ProcessR) rfl (rdo 2 rfl rfl rfl) ((Get.elemN (s:=8) rfl r119g gh0).off (by omega)) rfl)<|hts rfl hsel hlt 3 rl rfl (Ev.fieldS (α:=ProcessR) (f':=(i37:Int).toNat * 8+2) rfl (rdo 2 rfl rfl rfl) ((Get.elemN (s:=8) rfl r119g gh0).off (by omega)) rfl U100 rfl Z45 rfl rfl rfl)<|hts rfl hsel hlt 4 rl rfl (Ev.fieldS (α:=ProcessR) (f':=(i37:Int).toNat * 8+2+1) rfl (rdo 2 rfl rfl rfl) ((Get.elemN (s:=8) rfl r119g (ProcessR.get_from_ gh0)).off (by omega)) rfl U45 rfl Z43 rfl rfl rfl)<|hts rfl hsel hlt 5 rl rfl (Ev.loadS (α:=ProcessR) rfl (rdo 2 rfl rfl rfl) I43 (v:=Sl.v r119_2h1) ((Get.elemN (s:=8) rfl r119g (ProcessR.get_from_ (FromR.get_Late gh0))).off (by omega)))<|hts rfl hsel hlt 6 rl rfl (Ev.move rfl)<|hts rfl hsel hlt 7 rl rfl (Ev.move rfl) ?_
     have g120:=lat_some h99
     obtain ⟨⟨r121v,r121h1,⟨r121_2v,r121_2h1⟩,⟨r121_3v,r121_3h1⟩,⟨r121_4v,r121_4h1⟩⟩,r121g,r121e,r121m⟩:=map_get hm91 g120.2.2
     obtain rfl:x98=r121v:=r121e.symm
     have r121q:ProcessR.frel w0 _ _ (ProcessR.mk x98 r121h1 (FromR.mk r121_2v r121_2h1) (ToR.mk r121_3v r121_3h1) (ToR.mk r121_4v r121_4h1)):=ha92 _ r121m
     obtain ⟨r121_i2,r121_i3,r121_i4⟩:=r121q
     obtain ⟨r121_2e,r121_2q⟩:=r121_i2
     obtain rfl:r121_2v=x98.from_:=r121_2e
     have r121_2_f1:Rd w0 _ _ _ _:=r121_2q
     obtain ⟨r121_3e,r121_3q⟩:=r121_i3
     obtain rfl:r121_3v=x98.to:=r121_3e
     have r121_3_f1:Rd w0 _ _ _ _:=r121_3q
     obtain ⟨r121_4e,r121_4q⟩:=r121_i4
     obtain rfl:r121_4v=x98.orders:=r121_4e
     have r121_4_f1:Rd w0 _ _ _ _:=r121_4q
     have r121wg:=map_at ProcessR.row r121g
     refine hts rfl hsel hlt 8 rl rfl (Ev.nilCheckS (α:=ProcessR) rfl (rdo 2 rfl rfl rfl) ((Get.elemN (s:=8) rfl r121g gh0).off (by omega)) rfl)<|hts rfl hsel hlt 9 rl rfl (Ev.fieldS (α:=ProcessR) (f':=(i37:Int).toNat * 8+2) rfl (rdo 2 rfl rfl rfl) ((Get.elemN (s:=8) rfl r121g gh0).off (by omega)) rfl U100 rfl Z45 rfl rfl rfl)<|hts rfl hsel hlt 10 rl rfl (Ev.fieldS (α:=ProcessR) (f':=(i37:Int).toNat * 8+2+1) rfl (rdo 2 rfl rfl rfl) ((Get.elemN (s:=8) rfl r121g (ProcessR.get_from_ gh0)).off (by omega)) rfl U45 rfl Z43 rfl rfl rfl)<|hts rfl hsel hlt 11 rl rfl (Ev.loadS (α:=ProcessR) rfl (rdo 2 rfl rfl rfl) I43 (v:=Sl.v r121_2h1) ((Get.elemN (s:=8) rfl r121g (ProcessR.get_from_ (FromR.get_Late gh0))).off (by omega)))<|hts rfl hsel hlt 12 rl rfl (Ev.lenS (α:=Str) (xs:=x98.from_.Late) (by decide) rfl rfl U43 (r121_2_f1.mono fl nsl))<|hts rfl hsel hlt 13 rl rfl (Ev.min2 rfl rfl) ?_
     obtain ⟨g122,gl123⟩:=cutL_some h103
     try dsimp only at g122
     have hq124:Rd w0 F86 [] T16 m102:=by rw [← gl123]; exact Rd.cut (by decide) r119_2_f1 (by omega) (by omega)
     refine hts rfl hsel hlt 14 rl rfl (Ev.cut (α:=Str) (xs:=x94.from_.Late) (i:=min y73 (x98.from_.Late.length:Int)) (j:=(x94.from_.Late.length:Int)) rfl rfl rfl U43 Z9 rfl (by decide) (r119_2_f1.mono fl nsl) g122.1 g122.2.1 g122.2.2) ?_
     refine HdJ.o1 15 (fun inv=>?_)
     refine cl rfl (vs:=[Sl.v T16]) ⟨rfl,trivial⟩ Tryz.call45 (slices_Clone_string_string_sim h108 w0 _ M _ (sc4 (sc2 (sc1 hM))) (hq124.mono fl nsl)) (fun F126 L' v hF127 hv=>?_)
     obtain ⟨s125,rfl,rfl⟩:=hv
     refine Lst.nil<|At.hd inv (fun w h=>(h.weaken hF127).sublist (sc1 rl))<|HdJ.keep (fun w=>St w0 F126 ((.own s125 9 1 (encs r107))::T11::T6::T21::T5::T7::T4::T8::L) w) (fun w h=>(h.weaken hF127).sublist (sc1 rl))<|hts rfl hsel hlt 16 rl rfl (Ev.build (v:=.agg (enc (FromR.mk ({From.zero with Late:=r107}:From) s125)).toArray) (pv:=[(1,Sl.v s125)]) ⟨rfl,rfl,trivial⟩ (run_buildStruct (places:=#[(0,1),(1,1)]) Tryz.zeroValue45 (zs:=enc (FromR.mk From.zero Sl.nil)) rfl U45 (fun w=>by kernel_rfl) (fill_cons (cs:=enc (FromR.mk From.zero Sl.nil)) (cs':=enc (FromR.mk ({From.zero with Late:=r107}:From) s125)) (vs:=[Sl.v s125]) rfl rfl rfl ((FromR.put_Late (p:=(FromR.mk From.zero Sl.nil)) (y:=s125) (Put.here (vs:=[Sl.v s125]) rfl)).off rfl) fill_nil)))<|HdJ.done (by kernel_rfl) ?_
     exact At.meetN (s125,r107) hF127 ⟨rfl,rfl,rfl,rfl,rfl,rfl,rfl,rfl,trivial⟩ rfl h117
    rintro F128 ⟨s114,l115⟩ hF129 hy
    let T14:=({From.zero with Late:=l115}:From)
    subst hy
    obtain ⟨x130,h131,H⟩:=bs H
    have g132:=lat_some h131
    obtain ⟨⟨r133v,r133h1,⟨r133_2v,r133_2h1⟩,⟨r133_3v,r133_3h1⟩,⟨r133_4v,r133_4h1⟩⟩,r133g,r133e,r133m⟩:=map_get hm91 g132.2.2
    let T17:=ProcessR.mk x130 r133h1 (FromR.mk x130.from_ r133_2h1) (ToR.mk x130.to r133_3h1) (ToR.mk x130.orders r133_4h1)
    let T1:=ProcessR.mk ({x130 with from_:=T14}:Procs) r133h1 (FromR.mk T14 s114) (ToR.mk x130.to r133_3h1) (ToR.mk x130.orders r133_4h1)
    let T23:Item:=.rows (α:=Saying) 62 (List.map ProcessR.row (T0.set (i37:Int).toNat T1))
    obtain rfl:x130=r133v:=r133e.symm
    have r133q:ProcessR.frel w0 _ _ (ProcessR.mk x130 r133h1 (FromR.mk r133_2v r133_2h1) (ToR.mk r133_3v r133_3h1) (ToR.mk r133_4v r133_4h1)):=ha92 _ r133m
    obtain ⟨r133_i2,r133_i3,r133_i4⟩:=r133q
    obtain ⟨r133_2e,r133_2q⟩:=r133_i2
    obtain rfl:r133_2v=x130.from_:=r133_2e
    have r133_2_f1:Rd w0 _ _ _ _:=r133_2q
    obtain ⟨r133_3e,r133_3q⟩:=r133_i3
    obtain rfl:r133_3v=x130.to:=r133_3e
    have r133_3_f1:Rd w0 _ _ _ _:=r133_3q
    obtain ⟨r133_4e,r133_4q⟩:=r133_i4
    obtain rfl:r133_4v=x130.orders:=r133_4e
    have r133_4_f1:Rd w0 _ _ _ _:=r133_4q
    have r133wg:=map_at ProcessR.row r133g
    refine lr (Ev.nilCheckS (α:=ProcessR) rfl (rdo 3 rfl rfl rfl) ((Get.elemN (s:=8) rfl r133g gh0).off (by omega)) rfl)<|lr (Ev.fieldS (α:=ProcessR) (f':=(i37:Int).toNat * 8+2) rfl (rdo 3 rfl rfl rfl) ((Get.elemN (s:=8) rfl r133g gh0).off (by omega)) rfl U100 rfl Z45 rfl rfl rfl) ?_
    obtain ⟨p138,h139,H⟩:=Let_some H
    let T15:Item:=.blk ba0 (enc (WldR.mk ({y40 with all:=p138,ordered:=a0.ordered,way:=a0.way}:Wld) sa0x1 sa0x2 sa0x3)) 95
    have hm140:(T0.set (i37:Int).toNat T1).map ProcessR.v=p138:=(map_set hm91 _ _).trans h139
    refine Lst.freeze (i:=0) rfl (fun F134 hF135 hz136=>?_)
    have hq137:Rd w0 F134 [] s114 l115:=Rd.frozen hz136 rfl rfl
    have ha141:All ProcessR.frel w0 F134 [] (T0.set (i37:Int).toNat T1):=All.set (All.monoProcessF ha92 (ft hF129 hF135) nsl) (⟨⟨rfl,(hq137.mono fl nsl)⟩,⟨rfl,(r133_3_f1.mono (ft hF129 hF135) nsl)⟩,⟨rfl,(r133_4_f1.mono (ft hF129 hF135) nsl)⟩⟩)
    have hw142:Among (List.map ProcessR.row (T0.set (i37:Int).toNat T1)) (o41++[⟨x49.log,r52h1⟩]) s38 l39:=by rw [map_set_same (y:=T1) r133g rfl]; exact hw93
    refine Lst.storeS (i:=2) rfl rfl rfl rfl rfl Z45 (vs:=enc (FromR.mk T14 s114)) rfl el (by decide) (Enc.one _) (xs':=encs (T0.set (i37:Int).toNat T1)) ((Put.elemN (s:=8) (x:=T17) (y:=T1) rfl r133g (ProcessR.put_from_ (p:=T17) (l:=T14) phl)).off (by omega)) (L':=T11::T6::(.own sa0x1 100 8 (encs (T0.set (i37:Int).toNat T1)))::T5::T7::T15::T8::L) rfl<|Lst.its (L':=T23::T6::(.own sa0x1 100 8 (encs (T0.set (i37:Int).toNat T1)))::T5::T7::T15::T8::L) (by dsimp +zetaDelta only; rw [map_set_same (y:=T1) r133g rfl] <;> rfl)<|nt0<|Cd.region<|mv1 rfl<|lr (Ev.build (v:=.agg (enc (ToR.mk To.zero Sl.nil)).toArray) (pv:=[]) trivial (fun w=>by kernel_rfl)) ?_
    obtain ⟨x143,h144,H⟩:=bs H
    have g145:=lat_some h144
    obtain ⟨⟨r146v,r146h1,⟨r146_2v,r146_2h1⟩,⟨r146_3v,r146_3h1⟩,⟨r146_4v,r146_4h1⟩⟩,r146g,r146e,r146m⟩:=map_get hm140 g145.2.2
    let T18:=ProcessR.mk x143 r146h1 (FromR.mk x143.from_ r146_2h1) (ToR.mk x143.to r146_3h1) (ToR.mk x143.orders r146_4h1)
    let T2:=ProcessR.mk ({x143 with to:=To.zero}:Procs) r146h1 (FromR.mk x143.from_ r146_2h1) (ToR.mk To.zero Sl.nil) (ToR.mk x143.orders r146_4h1)
    let T22:Item:=.own sa0x1 100 8 (encs ((T0.set (i37:Int).toNat T1).set (i37:Int).toNat T2))
    obtain rfl:x143=r146v:=r146e.symm
    have r146q:ProcessR.frel w0 _ _ (ProcessR.mk x143 r146h1 (FromR.mk r146_2v r146_2h1) (ToR.mk r146_3v r146_3h1) (ToR.mk r146_4v r146_4h1)):=ha141 _ r146m
    obtain ⟨r146_i2,r146_i3,r146_i4⟩:=r146q
    obtain ⟨r146_2e,r146_2q⟩:=r146_i2
    obtain rfl:r146_2v=x143.from_:=r146_2e
    have r146_2_f1:Rd w0 _ _ _ _:=r146_2q
    obtain ⟨r146_3e,r146_3q⟩:=r146_i3
    obtain rfl:r146_3v=x143.to:=r146_3e
    have r146_3_f1:Rd w0 _ _ _ _:=r146_3q
    obtain ⟨r146_4e,r146_4q⟩:=r146_i4
    obtain rfl:r146_4v=x143.orders:=r146_4e
    have r146_4_f1:Rd w0 _ _ _ _:=r146_4q
    have r146wg:=map_at ProcessR.row r146g
    refine lr (Ev.nilCheckS (α:=ProcessR) rfl (rdo 2 rfl rfl rfl) ((Get.elemN (s:=8) rfl r146g gh0).off (by omega)) rfl)<|lr (Ev.fieldS (α:=ProcessR) (f':=(i37:Int).toNat * 8+4) rfl (rdo 2 rfl rfl rfl) ((Get.elemN (s:=8) rfl r146g gh0).off (by omega)) rfl U100 rfl Z41 rfl rfl rfl) ?_
    obtain ⟨p147,h148,H⟩:=Let_some H
    let T12:=({y40 with all:=p147,ordered:=a0.ordered,way:=a0.way}:Wld)
    have hm149:((T0.set (i37:Int).toNat T1).set (i37:Int).toNat T2).map ProcessR.v=p147:=(map_set hm140 _ _).trans h148
    have ha150:All ProcessR.frel w0 F134 [] ((T0.set (i37:Int).toNat T1).set (i37:Int).toNat T2):=All.set (All.monoProcessF ha141 fl nsl) (⟨⟨rfl,(r146_2_f1.mono fl nsl)⟩,⟨rfl,Rd.nil⟩,⟨rfl,(r146_4_f1.mono fl nsl)⟩⟩)
    have hw151:Among (List.map ProcessR.row ((T0.set (i37:Int).toNat T1).set (i37:Int).toNat T2)) (o41++[⟨x49.log,r52h1⟩]) s38 l39:=by rw [map_set_same (y:=T2) r146g rfl]; exact hw142
    refine Lst.storeS (i:=2) rfl rfl rfl rfl rfl Z41 (vs:=enc (ToR.mk To.zero Sl.nil)) rfl el (by decide) (Enc.one _) (xs':=encs ((T0.set (i37:Int).toNat T1).set (i37:Int).toNat T2)) ((Put.elemN (s:=8) (x:=T18) (y:=T2) rfl r146g (ProcessR.put_to (p:=T18) (l:=To.zero) phl)).off (by omega)) (L':=T23::T6::T22::T5::T7::(.blk ba0 (enc (WldR.mk T12 sa0x1 sa0x2 sa0x3)) 95)::T8::L) rfl<|Lst.its (L':=(.rows (α:=Saying) 62 (List.map ProcessR.row ((T0.set (i37:Int).toNat T1).set (i37:Int).toNat T2)))::T6::T22::T5::T7::(.blk ba0 (enc (WldR.mk T12 sa0x1 sa0x2 sa0x3)) 95)::T8::L) (by dsimp +zetaDelta only; rw [map_set_same (y:=T2) r146g rfl] <;> rfl)<|Lst.nil<|af 1 rfl<|af 6 rfl ?_
    exact At.meet (s38,l39,T12,(o41++[⟨x49.log,r52h1⟩]),p147,((T0.set (i37:Int).toNat T1).set (i37:Int).toNat T2)) (ft (ft (ft hF75 hF87) hF129) hF135) ⟨rfl,rfl,rfl,rfl,rfl,rfl,trivial⟩ rfl ⟨si H,hm149,(All.monoProcessF ha150 fl nsl),hw151⟩
   have hc72:decide ((i72:Int) < (m68.length:Int))=true:=decide_eq_true (by omega)
   obtain ⟨c72,H,hgo72⟩:=rangeF_go H
   unfold world_World_Change_B5 at H
   try dsimp only at H
   refine sr0<|lr (Ev.lss rfl rfl)<|nt0<|Cd.seq<|Cd.condT rfl hc72<|Cd.skip<|At.then<|Cd.seq<|Cd.block<|sr0 ?_
   obtain ⟨x76,h77,H⟩:=bs H
   have g78:=lat_some h77
   refine lr (Ev.indexS (α:=Saying) (xs:=m68) rfl rfl U37 Z62 rfl (by decide) (by rw [← gl71]; exact Rd.cut (by decide) (Rd.among (i:=0) (j:=6) rfl rfl hw46) (by omega) (by omega)) g78.1 g78.2.1)<|lr (Ev.loadSA (α:=Saying) rfl (by rw [← gl71]; exact Rd.cut (by decide) (Rd.among (i:=0) (j:=6) rfl rfl hw46) (by omega) (by omega)) I62 Z62 (ch:=enc x76) el (by decide) ((Get.elemN (s:=2) (x:=x76) rfl g78.2.2 gh0).off (by omega))) ?_
   refine Lst.alloc (cs:=enc Saying.zero) rfl rfl (by decide) Tryz.zeroValue62 rfl (fun b79=>?_)
   refine lst 0 rfl rfl rfl Z62 (vs:=enc x76) rfl el (Enc.one _) (cs':=enc x76) phl rfl<|nsr<|lr (Ev.fo 0 rfl U62 rfl Z3 rfl rfl)<|lr (Ev.load (i:=0) rfl rfl I3 (v:=iv x76.From) ((Saying.get_From gh0).off rfl))<|mv1 rfl<|lr (Ev.eql rfl rfl)<|nt0 ?_
   rcases ic2 H with ⟨hb81,H⟩|⟨hb81,H⟩
   ·refine Cd.condF rfl hb81<|Cd.skip<|At.in_normal<|At.then<|Cd.region<|lr (Ev.incr (by omega) rfl rfl)<|mv1 rfl<|Lst.nil<|At.less (sc1 rl) ?_
    exact At.meet (i72+1,k72,y73) hF75 ⟨rfl,rfl,rfl,rfl,rfl,rfl,rfl,rfl,rfl,rfl,rfl,trivial⟩ rfl ⟨⟨hgo72 _ (sj H),by omega⟩,nls⟩
   refine Cd.condT rfl hb81<|Cd.region<|mv1 rfl<|lr (Ev.add rfl rfl)<|as1 rfl<|Lst.nil<|At.in_normal<|At.then<|Cd.region<|lr (Ev.incr (by omega) rfl rfl)<|mv1 rfl ?_
   refine Lst.nil<|At.less (sc1 rl) ?_
   exact At.meet (i72+1,k72,w64 (y73+(1:Int))) hF75 ⟨rfl,rfl,rfl,rfl,rfl,rfl,rfl,rfl,rfl,rfl,rfl,trivial⟩ rfl ⟨⟨hgo72 _ (sj H),by omega⟩,nls⟩
  rintro F153 ⟨s53,l54,y55,o56,l57,rs58⟩ hF154 ⟨hy,fm59,fa60,hw61⟩
  subst hy
  replace H:=HKo62
  try dsimp only [Sum.elim_inl] at H
  refine Cd.region<|mv1 rfl<|lr (Ev.build (v:=.agg (enc (ToR.mk To.zero Sl.nil)).toArray) (pv:=[]) trivial (fun w=>by kernel_rfl)) ?_
  obtain ⟨x155,h156,H⟩:=bs H
  have g157:=lat_some h156
  obtain ⟨⟨r158v,r158h1,⟨r158_2v,r158_2h1⟩,⟨r158_3v,r158_3h1⟩,⟨r158_4v,r158_4h1⟩⟩,r158g,r158e,r158m⟩:=map_get fm59 g157.2.2
  let T19:=ProcessR.mk x155 r158h1 (FromR.mk x155.from_ r158_2h1) (ToR.mk x155.to r158_3h1) (ToR.mk x155.orders r158_4h1)
  let T3:=ProcessR.mk ({x155 with orders:=To.zero}:Procs) r158h1 (FromR.mk x155.from_ r158_2h1) (ToR.mk x155.to r158_3h1) (ToR.mk To.zero Sl.nil)
  let T10:=rs58.set (i37:Int).toNat T3
  obtain rfl:x155=r158v:=r158e.symm
  have r158q:ProcessR.frel w0 _ _ (ProcessR.mk x155 r158h1 (FromR.mk r158_2v r158_2h1) (ToR.mk r158_3v r158_3h1) (ToR.mk r158_4v r158_4h1)):=fa60 _ r158m
  obtain ⟨r158_i2,r158_i3,r158_i4⟩:=r158q
  obtain ⟨r158_2e,r158_2q⟩:=r158_i2
  obtain rfl:r158_2v=x155.from_:=r158_2e
  have r158_2_f1:Rd w0 _ _ _ _:=r158_2q
  obtain ⟨r158_3e,r158_3q⟩:=r158_i3
  obtain rfl:r158_3v=x155.to:=r158_3e
  have r158_3_f1:Rd w0 _ _ _ _:=r158_3q
  obtain ⟨r158_4e,r158_4q⟩:=r158_i4
  obtain rfl:r158_4v=x155.orders:=r158_4e
  have r158_4_f1:Rd w0 _ _ _ _:=r158_4q
  have r158wg:=map_at ProcessR.row r158g
  refine lr (Ev.nilCheckS (α:=ProcessR) rfl (rdo 3 rfl rfl rfl) ((Get.elemN (s:=8) rfl r158g gh0).off (by omega)) rfl)<|lr (Ev.fieldS (α:=ProcessR) (f':=(i37:Int).toNat * 8+6) rfl (rdo 3 rfl rfl rfl) ((Get.elemN (s:=8) rfl r158g gh0).off (by omega)) rfl U100 rfl Z41 rfl rfl rfl) ?_
  obtain ⟨p159,h160,H⟩:=Let_some H
  let T13:=({y55 with all:=p159,ordered:=a0.ordered,way:=a0.way}:Wld)
  have hm161:T10.map ProcessR.v=p159:=(map_set fm59 _ _).trans h160
  have ha162:All ProcessR.frel w0 F153 [] T10:=All.set (All.monoProcessF fa60 fl nsl) (⟨⟨rfl,(r158_2_f1.mono fl nsl)⟩,⟨rfl,(r158_3_f1.mono fl nsl)⟩,⟨rfl,Rd.nil⟩⟩)
  have hw163:Among (List.map ProcessR.row T10) o56 s53 l54:=by rw [map_set_same (y:=T3) r158g rfl]; exact hw61
  refine Lst.storeS (i:=3) rfl rfl rfl rfl rfl Z41 (vs:=enc (ToR.mk To.zero Sl.nil)) rfl el (by decide) (Enc.one _) (xs':=encs T10) ((Put.elemN (s:=8) (x:=T19) (y:=T3) rfl r158g (ProcessR.put_orders (p:=T19) (l:=To.zero) phl)).off (by omega)) (L':=T8::(.rows (α:=Saying) 62 o56)::(.rows (α:=Saying) 62 (List.map ProcessR.row rs58))::(.own sa0x1 100 8 (encs T10))::T5::T7::(.blk ba0 (enc (WldR.mk T13 sa0x1 sa0x2 sa0x3)) 95)::L) rfl<|Lst.its (L':=T8::(.rows (α:=Saying) 62 o56)::(.rows (α:=Saying) 62 (List.map ProcessR.row T10))::(.own sa0x1 100 8 (encs T10))::T5::T7::(.blk ba0 (enc (WldR.mk T13 sa0x1 sa0x2 sa0x3)) 95)::L) (by dsimp +zetaDelta only; rw [map_set_same (y:=T3) r158g rfl] <;> rfl)<|Lst.nil<|At.in_normal<|At.then<|Cd.region<|lr (Ev.incr (by omega) rfl rfl)<|mv1 rfl<|Lst.nil ?_
  exact At.meet (i37+1,k37,s53,l54,T13,o56,p159,T10) (ft hF48 hF154) ⟨rfl,rfl,rfl,rfl,rfl,trivial⟩ rfl ⟨⟨hgo37 _ (sj H),by omega,hm161,(All.monoProcessF ha162 fl nsl),hw163⟩,nls⟩
 have hc9:decide ((i9:Int) < (a0.all.length:Int))=true:=decide_eq_true (by omega)
 obtain ⟨c9,H,hgo9⟩:=rangeF_go H
 unfold world_World_Change_B0 at H
 try dsimp only at H
 refine sr0<|lr (Ev.lss rfl rfl)<|nt0<|Cd.seq<|Cd.condT rfl hc9<|Cd.skip<|At.then<|Cd.seq<|Cd.block<|sr0<|mv1 rfl ?_
 refine as1 rfl<|nt0<|Cd.block<|sr0<|mv1 rfl<|mv1 rfl ?_
 obtain ⟨r16,h17,H⟩:=bs H
 refine lf 5 rfl<|lf 5 rfl<|lf 5 rfl<|lf 5 rfl<|lf 5 rfl<|cl1 rfl (vs:=[pv ba0 0,iv (i9:Int)]) ⟨rfl,rfl,trivial⟩ Tryz.call65 (world_World_active_sim h17 w0 _ M _ (sc1 hM) ma0x1 (All.monoProcessF na0x1 hF15 nsl))<|as1 rfl<|nt0 ?_
 rcases ic2 H with ⟨hb20,H⟩|⟨hb20,H⟩
 ·refine Cd.condF rfl hb20<|Cd.quiet (by kernel_rfl) (by kernel_rfl)<|qr (Ev.move rfl)<|qr (Ev.move rfl)<|qr (Ev.nilCheck rfl)<|qr (Ev.fo 0 rfl U95 rfl Z34 rfl rfl)<|qr (Ev.fo 1 rfl U34 rfl Z5 rfl rfl)<|qr (Ev.load (i:=4) rfl rfl I5 (v:=.int .u8 a0.view.Members.toNat) ((WldR.get_view (View.get_Members gh0)).off rfl))<|qr (Ev.move rfl) ?_
  obtain ⟨n21,h22,H⟩:=bs H
  refine qr (Ev.shlU8 (i:=(1:BitVec 8)) (m:=n21) rfl (congrArg some (congrArg (Value.int .i64) (cnt_some h22))))<|qr (Ev.andU8 (i:=a0.view.Members) (j:=(1:BitVec 8) <<< n21) rfl rfl)<|qr (Ev.orU8 (i:=y10) (j:=a0.view.Members &&& ((1:BitVec 8) <<< n21)) rfl rfl)<|qr (Ev.assign rfl)<|Qt.done<|At.in_normal<|At.in_normal<|At.then<|Cd.region<|lr (Ev.incr (by omega) rfl rfl)<|mv1 rfl ?_
  refine Lst.nil<|af 5 rfl ?_
  exact At.meet (i9+1,k9,y10 ||| (a0.view.Members &&& ((1:BitVec 8) <<< n21)),s11,l12) hF15 ⟨rfl,rfl,rfl,rfl,rfl,trivial⟩ rfl ⟨⟨hgo9 _ (sj H),by omega,hw13⟩,nls⟩
 refine Cd.condT rfl hb20<|sr0<|mv1 rfl<|lr (Ev.nilCheck rfl)<|lr (Ev.fo 2 rfl U95 rfl Z93 rfl rfl)<|lr (Ev.load (i:=4) rfl rfl I93 (v:=Sl.v sa0x1) ((WldR.get_all gh0).off rfl))<|mv1 rfl ?_
 obtain ⟨x24,h25,H⟩:=bs H
 have g26:=lat_some h25
 obtain ⟨⟨r27v,r27h1,⟨r27_2v,r27_2h1⟩,⟨r27_3v,r27_3h1⟩,⟨r27_4v,r27_4h1⟩⟩,r27g,r27e,r27m⟩:=map_get ma0x1 g26.2.2
 obtain rfl:x24=r27v:=r27e.symm
 have r27q:ProcessR.frel w0 _ _ (ProcessR.mk x24 r27h1 (FromR.mk r27_2v r27_2h1) (ToR.mk r27_3v r27_3h1) (ToR.mk r27_4v r27_4h1)):=na0x1 _ r27m
 obtain ⟨r27_i2,r27_i3,r27_i4⟩:=r27q
 obtain ⟨r27_2e,r27_2q⟩:=r27_i2
 obtain rfl:r27_2v=x24.from_:=r27_2e
 have r27_2_f1:Rd w0 _ _ _ _:=r27_2q
 obtain ⟨r27_3e,r27_3q⟩:=r27_i3
 obtain rfl:r27_3v=x24.to:=r27_3e
 have r27_3_f1:Rd w0 _ _ _ _:=r27_3q
 obtain ⟨r27_4e,r27_4q⟩:=r27_i4
 obtain rfl:r27_4v=x24.orders:=r27_4e
 have r27_4_f1:Rd w0 _ _ _ _:=r27_4q
 have r27wg:=map_at ProcessR.row r27g
 refine lr (Ev.indexS (α:=ProcessR) (xs:=ra0x1) rfl rfl U93 Z100 rfl (by decide) (rdo 1 rfl rfl rfl) g26.1 (by have:=map_len ma0x1; omega))<|lr (Ev.fieldS (α:=ProcessR) (f':=(i9:Int).toNat * 8+1) rfl (rdo 1 rfl rfl rfl) ((Get.elemN (s:=8) rfl r27g gh0).off (by omega)) rfl U100 rfl Z37 rfl rfl rfl)<|lr (Ev.loadS (α:=ProcessR) rfl (rdo 1 rfl rfl rfl) I37 (v:=Sl.v r27h1) ((Get.elemN (s:=8) rfl r27g (ProcessR.get_log gh0)).off (by omega)))<|as1 rfl<|nsr<|mv1 rfl<|lr (Ev.lenS (α:=Saying) (xs:=x24.log) (by decide) rfl rfl U37 (Rd.row (j:=0) rfl r27wg))<|mv1 rfl<|lr (Ev.lenS (α:=Saying) (xs:=l12) (by decide) rfl rfl U37 (Rd.among (i:=0) (j:=5) rfl rfl hw13))<|lr (Ev.gtr rfl rfl)<|nt0 ?_
 rcases ic2 H with ⟨hb28,H⟩|⟨hb28,H⟩
 ·refine Cd.condF rfl hb28<|Cd.skip<|At.in_normal<|At.in_normal<|At.then<|Cd.region<|lr (Ev.incr (by omega) rfl rfl)<|mv1 rfl<|Lst.nil<|af 5 rfl ?_
  exact At.meet (i9+1,k9,y10,s11,l12) hF15 ⟨rfl,rfl,rfl,rfl,rfl,trivial⟩ rfl ⟨⟨hgo9 _ (sj H),by omega,hw13⟩,nls⟩
 refine Cd.condT rfl hb28<|Cd.region<|mv1 rfl<|as1 rfl<|Lst.nil<|At.in_normal<|At.in_normal<|At.then<|Cd.region<|lr (Ev.incr (by omega) rfl rfl)<|mv1 rfl ?_
 refine Lst.nil<|af 5 rfl ?_
 exact At.meet (i9+1,k9,y10,r27h1,x24.log) hF15 ⟨rfl,rfl,rfl,rfl,rfl,trivial⟩ rfl ⟨⟨hgo9 _ (sj H),by omega,(Among.row r27wg)⟩,nls⟩
theorem partlaw_doOf_sim {fu:Nat} {a0:Wld} {a1:Deed} {ba0:Nat} {sa0x1:Sl} {ra0x1:List ProcessR} {sa0x2:Sl} {sa0x3:Sl} {r:(List Procs)×Wld×Int} (H:partlaw_doOf fu a0 a1=some r) (w0:World) (F:Frz) (M L:List Item) (hM:M.Sublist L) (hT:Tab Tryz.prog w0) (ma0x1:ra0x1.map ProcessR.v=a0.all) (na0x1:All ProcessR.frel w0 F [] ra0x1):Ok Tryz.prog w0 11 [pv ba0 0,.agg (enc a1).toArray] F ((.rows (α:=Saying) 62 (List.map ProcessR.row ra0x1))::(.own sa0x1 100 8 (encs ra0x1))::(.own sa0x2 9 1 (encs a0.ordered))::(.own sa0x3 9 1 (encs a0.way))::(.blk ba0 (enc (WldR.mk a0 sa0x1 sa0x2 sa0x3)) 95)::L) (fun Fx L' v=>∃ (rs6:List ProcessR) (s9:Sl) (s11:Sl),v=iv r.2.2∧L'=(.own s9 9 1 (encs r.2.1.ordered))::(.own s11 9 1 (encs r.2.1.way))::(.rows (α:=Saying) 62 (List.map ProcessR.row rs6))::(.own sa0x1 100 8 (encs rs6))::(.blk ba0 (enc (WldR.mk ({r.2.1 with all:=r.1}:Wld) sa0x1 s9 s11)) 95)::L∧rs6.map ProcessR.v=r.1∧All ProcessR.frel w0 Fx [] rs6):=by
 unfold partlaw_doOf at H
 refine Ok.enter (m:=2) (n:=39) Tryz.func11 rfl rfl rfl (by decide)<|Cd.env (e':=[(0,pv ba0 0),(1,.agg (enc a1).toArray)]) rfl<|sr0 ?_
 refine Lst.box rfl rfl (by decide) rfl (cs:=enc a1) rfl (fun b6=>?_)
 refine as1 rfl<|nt0<|Cd.seq<|sr0<|lr (Ev.fo 0 rfl U30 rfl Z3 rfl rfl)<|lr (Ev.load (i:=0) rfl rfl I3 (v:=iv a1.Kind) ((Deed.get_Kind gh0).off rfl))<|nt0<|Cd.block<|sr0<|lr (Ev.eql rfl rfl)<|as1 rfl ?_
 refine nt0 ?_
 rcases ic H with ⟨hb8,H⟩|⟨hb8,H⟩
 ·refine Cd.condT rfl hb8<|sr0<|mv1 rfl<|lr (Ev.fo 1 rfl U30 rfl Z3 rfl rfl)<|lr (Ev.load (i:=0) rfl rfl I3 (v:=iv a1.Who) ((Deed.get_Who gh0).off rfl))<|lr (Ev.fo 3 rfl U30 rfl Z9 rfl rfl)<|lr (Ev.load (i:=0) rfl rfl I9 (v:=Str.v a1.Text) ((Deed.get_Text gh0).off rfl)) ?_
  obtain ⟨r9,h10,H⟩:=bs H
  refine lf 5 rfl<|lf 5 rfl<|lf 5 rfl<|lf 5 rfl<|lf 5 rfl ?_
  refine cl rfl (vs:=[pv ba0 0,iv a1.Who,Str.v a1.Text]) ⟨rfl,rfl,rfl,trivial⟩ Tryz.call31 (world_World_Say_sim h10 w0 _ M _ (sc1 hM) ma0x1 (All.monoProcessF na0x1 fl nsl)) (fun F15 L' v hF16 hv=>?_)
  obtain ⟨rs11,s14,rfl,rfl,fm12,fa13⟩:=hv
  refine as1 rfl<|nt0 ?_
  obtain rfl:=si H
  refine Cd.ret<|At.in_ret<|At.then_ret<|af 3 rfl<|af 3 rfl ?_
  exact At.ret1 rfl (Res.tmp rfl) hF16 (sk1 (sk4 (sc1 rl))) ⟨rs11,sa0x2,s14,rfl,rfl,fm12,(All.monoProcessF fa13 fl nsl)⟩
 refine Cd.condF rfl hb8<|sr0<|lr (Ev.eql rfl rfl)<|as1 rfl<|nt0 ?_
 rcases ic H with ⟨hb17,H⟩|⟨hb17,H⟩
 ·refine Cd.condT rfl hb17<|sr0<|mv1 rfl<|lr (Ev.fo 1 rfl U30 rfl Z3 rfl rfl)<|lr (Ev.load (i:=0) rfl rfl I3 (v:=iv a1.Who) ((Deed.get_Who gh0).off rfl)) ?_
  obtain ⟨r18,h19,H⟩:=bs H
  refine lf 5 rfl<|lf 5 rfl<|lf 5 rfl<|lf 5 rfl<|lf 5 rfl ?_
  refine cl rfl (vs:=[pv ba0 0,iv a1.Who]) ⟨rfl,rfl,trivial⟩ Tryz.call35 (world_World_Again_sim h19 w0 _ M _ (sc1 hM) ma0x1 (All.monoProcessF na0x1 fl nsl)) (fun F21 L' v hF22 hv=>?_)
  obtain ⟨s20,rfl,rfl⟩:=hv
  refine as1 rfl<|nt0 ?_
  obtain rfl:=si H
  refine Cd.ret<|At.in_ret<|At.then_ret<|af 3 rfl<|af 3 rfl ?_
  exact At.ret1 rfl (Res.tmp rfl) hF22 (sk1 (sk4 (sc1 rl))) ⟨ra0x1,sa0x2,s20,rfl,rfl,ma0x1,(All.monoProcessF na0x1 hF22 nsl)⟩
 refine Cd.condF rfl hb17<|sr0<|lr (Ev.eql rfl rfl)<|as1 rfl<|nt0 ?_
 rcases ic H with ⟨hb23,H⟩|⟨hb23,H⟩
 ·refine Cd.condT rfl hb23<|sr0<|mv1 rfl<|lr (Ev.fo 1 rfl U30 rfl Z3 rfl rfl)<|lr (Ev.load (i:=0) rfl rfl I3 (v:=iv a1.Who) ((Deed.get_Who gh0).off rfl))<|lr (Ev.fo 2 rfl U30 rfl Z3 rfl rfl)<|lr (Ev.load (i:=0) rfl rfl I3 (v:=iv a1.How) ((Deed.get_How gh0).off rfl)) ?_
  obtain ⟨r24,h25,H⟩:=bs H
  refine lf 5 rfl<|lf 5 rfl<|lf 5 rfl<|lf 5 rfl<|lf 5 rfl ?_
  refine cl rfl (vs:=[pv ba0 0,iv a1.Who,iv a1.How]) ⟨rfl,rfl,rfl,trivial⟩ Tryz.call32 (world_World_Move_sim h25 w0 _ M _ (sc1 hM) hT ma0x1 (All.monoProcessF na0x1 fl nsl)) (fun F32 L' v hF33 hv=>?_)
  obtain ⟨rs26,s29,s30,rfl,rfl,fm27,fa28⟩:=hv
  refine as1 rfl<|nt0 ?_
  obtain rfl:=si H
  refine Cd.ret<|At.in_ret<|At.then_ret<|af 3 rfl ?_
  exact At.ret1 rfl (Res.tmp rfl) hF33 (sk1 (sk4 (sc1 rl))) ⟨rs26,s29,s30,rfl,rfl,fm27,(All.monoProcessF fa28 fl nsl)⟩
 refine Cd.condF rfl hb23<|sr0<|lr (Ev.eql rfl rfl)<|as1 rfl<|nt0 ?_
 rcases ic H with ⟨hb34,H⟩|⟨hb34,H⟩
 ·refine Cd.condT rfl hb34<|sr0<|mv1 rfl<|lr (Ev.fo 1 rfl U30 rfl Z3 rfl rfl)<|lr (Ev.load (i:=0) rfl rfl I3 (v:=iv a1.Who) ((Deed.get_Who gh0).off rfl)) ?_
  obtain ⟨r35,h36,H⟩:=bs H
  refine lf 5 rfl<|lf 5 rfl<|lf 5 rfl<|lf 5 rfl<|lf 5 rfl ?_
  refine cl rfl (vs:=[pv ba0 0,iv a1.Who]) ⟨rfl,rfl,trivial⟩ Tryz.call36 (world_World_Fall_sim h36 w0 _ M _ (sc1 hM) ma0x1 (All.monoProcessF na0x1 fl nsl)) (fun F40 L' v hF41 hv=>?_)
  obtain ⟨rs37,rfl,rfl,fm38,fa39⟩:=hv
  refine as1 rfl<|nt0 ?_
  obtain rfl:=si H
  refine Cd.ret<|At.in_ret<|At.then_ret<|af 3 rfl<|af 3 rfl ?_
  exact At.ret1 rfl (Res.tmp rfl) hF41 (sk1 (sk4 (sc1 rl))) ⟨rs37,sa0x2,sa0x3,rfl,rfl,fm38,(All.monoProcessF fa39 fl nsl)⟩
 refine Cd.condF rfl hb34<|sr0<|lr (Ev.eql rfl rfl)<|as1 rfl<|nt0 ?_
 rcases ic H with ⟨hb42,H⟩|⟨hb42,H⟩
 ·refine Cd.condT rfl hb42<|sr0<|mv1 rfl ?_
  obtain ⟨r43,h44,H⟩:=bs H
  refine lf 5 rfl<|lf 5 rfl<|lf 5 rfl<|lf 5 rfl<|lf 5 rfl ?_
  refine cl rfl (vs:=[pv ba0 0]) ⟨rfl,trivial⟩ Tryz.call37 (world_World_Change_sim h44 w0 _ M _ (sc1 hM) ma0x1 (All.monoProcessF na0x1 fl nsl)) (fun F50 L' v hF51 hv=>?_)
  obtain ⟨rs45,s48,rfl,rfl,fm46,fa47⟩:=hv
  refine as1 rfl<|nt0 ?_
  obtain rfl:=si H
  refine Cd.ret<|At.in_ret<|At.then_ret<|af 3 rfl<|af 1 rfl ?_
  exact At.ret1 rfl (Res.tmp rfl) hF51 (sk1 (sk4 (sc1 rl))) ⟨rs45,s48,sa0x3,rfl,rfl,fm46,(All.monoProcessF fa47 fl nsl)⟩
 refine Cd.condF rfl hb42<|Cd.skip<|At.in_normal<|At.then<|sr0<|as1 rfl<|nt0 ?_
 obtain rfl:=si H
 refine Cd.ret<|af 4 rfl<|af 4 rfl ?_
 exact At.ret1 rfl (Res.tmp rfl) fl (sk2 (sc1 rl)) ⟨ra0x1,sa0x2,sa0x3,rfl,rfl,ma0x1,(All.monoProcessF na0x1 fl nsl)⟩
theorem partref_World_Here_sim {a0:RWld} {a1:Int} {ba0:Nat} {qa0x2:Nat} {ra0x3:Vector (LR Saying) 6} {ra0x4:Vector ToR 6} {ra0x5:Vector FromR 6} {ra0x6:Vector ToR 6} {sa0x7:Sl} {sa0x8:Sl} {sa0x9:Sl} {r:Bool} (H:partref_World_Here a0 a1=some r) (w0:World) (F:Frz) (M L:List Item) (hM:M.Sublist L) (ma0x3:ra0x3.toList.map LR.v=a0.Logs.toList) (na0x3:All LR.rel w0 F M ra0x3.toList) (ma0x4:ra0x4.toList.map ToR.v=a0.want.toList) (na0x4:All ToR.rel w0 F M ra0x4.toList) (ma0x5:ra0x5.toList.map FromR.v=a0.Late.toList) (na0x5:All FromR.rel w0 F M ra0x5.toList) (ma0x6:ra0x6.toList.map ToR.v=a0.in_.toList) (na0x6:All ToR.rel w0 F M ra0x6.toList):Ok Tryz.prog w0 75 [pv ba0 0,iv a1] F ((mii qa0x2 a0.gone)::(.own sa0x7 9 1 (encs a0.order))::(.own sa0x8 198 2 (encs a0.marks))::(.own sa0x9 132 12 (encs a0.WayNotes))::(.blk ba0 (enc (RWldR.mk a0 (some qa0x2) ra0x3 ra0x4 ra0x5 ra0x6 sa0x7 sa0x8 sa0x9)) 50)::L) (Is (.bool r) ((mii qa0x2 a0.gone)::(.own sa0x7 9 1 (encs a0.order))::(.own sa0x8 198 2 (encs a0.marks))::(.own sa0x9 132 12 (encs a0.WayNotes))::(.blk ba0 (enc (RWldR.mk a0 (some qa0x2) ra0x3 ra0x4 ra0x5 ra0x6 sa0x7 sa0x8 sa0x9)) 50)::L)):=by
 unfold partref_World_Here at H
 refine Ok.enter (m:=2) (n:=23) Tryz.func75 rfl rfl rfl (by decide)<|Cd.env (e':=[(0,pv ba0 0),(1,iv a1)]) rfl<|sr0<|as1 rfl<|nsr<|mv1 rfl<|lr (Ev.nilCheck rfl)<|lr (Ev.fo 1 rfl U50 rfl Z34 rfl rfl)<|lr (Ev.fo 2 rfl U34 rfl Z5 rfl rfl)<|lr (Ev.load (i:=4) rfl rfl I5 (v:=.int .u8 a0.V.Members.toNat) ((RWldR.get_V (View.get_Members gh0)).off rfl))<|mv1 rfl ?_
 obtain ⟨n6,h7,H⟩:=bs H
 refine lr (Ev.shrU8 (i:=a0.V.Members) (m:=n6) rfl (congrArg some (congrArg (Value.int .i64) (cnt_some h7))))<|lr (Ev.remU8 (i:=a0.V.Members >>> n6) (j:=(2:BitVec 8)) rfl rfl (by decide))<|lr (Ev.eql rfl rfl)<|mv1 rfl ?_
 obtain ⟨o9,H,HKo9⟩:=bs H
 refine Lst.join (σ:=Bool) 8 (fun y10=>[(22,.bool y10)]) (fun y10=>(mii qa0x2 a0.gone)::(.own sa0x7 9 1 (encs a0.order))::(.own sa0x8 198 2 (encs a0.marks))::(.own sa0x9 132 12 (encs a0.WayNotes))::(.blk ba0 (enc (RWldR.mk a0 (some qa0x2) ra0x3 ra0x4 ra0x5 ra0x6 sa0x7 sa0x8 sa0x9)) 50)::L) (fun _ y10=>y10=o9) ?_ ?_
 ·rcases ic2 H with ⟨hb11,H⟩|⟨hb11,H⟩
  ·refine lsk rfl hb11<|lsk rfl hb11<|lsk rfl hb11<|lsk rfl hb11<|lsk rfl hb11<|lsk rfl hb11<|lsk rfl hb11<|lr (Ev.pickF rfl hb11 rfl)<|Lst.nil ?_
   exact At.meet false fl ⟨rfl,trivial⟩ rfl (si H)
  refine lg hb11 (Ev.move rfl)<|lg hb11 (Ev.nilCheck rfl)<|lg hb11 (Ev.fo 3 rfl U50 rfl Z36 rfl rfl)<|lg hb11 (Ev.load (i:=4) rfl rfl I36 (v:=.map (some qa0x2)) ((RWldR.get_gone gh0).off rfl))<|lg hb11 (Ev.move rfl)<|lg hb11 (Ev.lookup (i:=0) (kf:=(fun x:Int=>(iv x:Value))) (vf:=(fun x:Int=>(iv x:Value))) (m:=a0.gone) (k:=a1) (z0:=(0:Int)) rfl rfl rfl (KeyOk.int U3) U36 Tryz.zeroValue3)<|lg hb11 (Ev.eql rfl rfl)<|lr (Ev.pickT rfl hb11 rfl)<|Lst.nil ?_
  exact At.meet (((mget a0.gone a1).getD (0:Int))==(0:Int)) fl ⟨rfl,trivial⟩ rfl (si H)
 rintro F12 y10 hF13 hy
 subst hy
 replace H:=HKo9
 refine as1 rfl<|nt0 ?_
 obtain rfl:=si H
 refine Cd.ret ?_
 exact At.ret1 rfl (Res.tmp rfl) hF13 rl ⟨rfl,rfl⟩
theorem partref_World_whoErr_sim {a0:RWld} {a1:Int} {ba0:Nat} {qa0x2:Nat} {ra0x3:Vector (LR Saying) 6} {ra0x4:Vector ToR 6} {ra0x5:Vector FromR 6} {ra0x6:Vector ToR 6} {sa0x7:Sl} {sa0x8:Sl} {sa0x9:Sl} {r:Int} (H:partref_World_whoErr a0 a1=some r) (w0:World) (F:Frz) (M L:List Item) (hM:M.Sublist L) (ma0x3:ra0x3.toList.map LR.v=a0.Logs.toList) (na0x3:All LR.rel w0 F M ra0x3.toList) (ma0x4:ra0x4.toList.map ToR.v=a0.want.toList) (na0x4:All ToR.rel w0 F M ra0x4.toList) (ma0x5:ra0x5.toList.map FromR.v=a0.Late.toList) (na0x5:All FromR.rel w0 F M ra0x5.toList) (ma0x6:ra0x6.toList.map ToR.v=a0.in_.toList) (na0x6:All ToR.rel w0 F M ra0x6.toList):Ok Tryz.prog w0 71 [pv ba0 0,iv a1] F ((mii qa0x2 a0.gone)::(.own sa0x7 9 1 (encs a0.order))::(.own sa0x8 198 2 (encs a0.marks))::(.own sa0x9 132 12 (encs a0.WayNotes))::(.blk ba0 (enc (RWldR.mk a0 (some qa0x2) ra0x3 ra0x4 ra0x5 ra0x6 sa0x7 sa0x8 sa0x9)) 50)::L) (Is (iv r) ((mii qa0x2 a0.gone)::(.own sa0x7 9 1 (encs a0.order))::(.own sa0x8 198 2 (encs a0.marks))::(.own sa0x9 132 12 (encs a0.WayNotes))::(.blk ba0 (enc (RWldR.mk a0 (some qa0x2) ra0x3 ra0x4 ra0x5 ra0x6 sa0x7 sa0x8 sa0x9)) 50)::L)):=by
 unfold partref_World_whoErr at H
 refine Ok.enter (m:=2) (n:=19) Tryz.func71 rfl rfl rfl (by decide)<|Cd.env (e':=[(0,pv ba0 0),(1,iv a1)]) rfl<|sr0<|as1 rfl<|nt0<|Cd.seq<|sr0<|mv1 rfl<|lr (Ev.lss rfl rfl)<|mv1 rfl ?_
 obtain ⟨o6,H,HKo6⟩:=bs H
 refine Lst.join (σ:=Bool) 7 (fun y7=>[(0,pv ba0 0),(1,iv a1),(14,.bool y7)]) (fun y7=>(mii qa0x2 a0.gone)::(.own sa0x7 9 1 (encs a0.order))::(.own sa0x8 198 2 (encs a0.marks))::(.own sa0x9 132 12 (encs a0.WayNotes))::(.blk ba0 (enc (RWldR.mk a0 (some qa0x2) ra0x3 ra0x4 ra0x5 ra0x6 sa0x7 sa0x8 sa0x9)) 50)::L) (fun _ y7=>y7=o6) ?_ ?_
 ·rcases ic H with ⟨hb8,H⟩|⟨hb8,H⟩
  ·refine lsk rfl hb8<|lsk rfl hb8<|lsk rfl hb8<|lsk rfl hb8<|lsk rfl hb8<|lsk rfl hb8<|lr (Ev.pickT rfl hb8 rfl)<|Lst.nil ?_
   exact At.meet true fl ⟨rfl,rfl,rfl,trivial⟩ rfl (si H)
  refine lg hb8 (Ev.move rfl)<|lg hb8 (Ev.move rfl)<|lg hb8 (Ev.nilCheck rfl)<|lg hb8 (Ev.fo 0 rfl U50 rfl Z3 rfl rfl)<|lg hb8 (Ev.load (i:=4) rfl rfl I3 (v:=iv a0.n) ((RWldR.get_n gh0).off rfl))<|lg hb8 (Ev.geq rfl rfl)<|lr (Ev.pickF rfl hb8 rfl)<|Lst.nil ?_
  exact At.meet (decide (a1≥a0.n)) fl ⟨rfl,rfl,rfl,trivial⟩ rfl (si H)
 rintro F9 y7 hF10 hy
 subst hy
 replace H:=HKo6
 refine nt0 ?_
 rcases ic H with ⟨hb11,H⟩|⟨hb11,H⟩
 ·refine Cd.condT rfl hb11<|sr0<|as1 rfl<|nt0 ?_
  obtain rfl:=si H
  refine Cd.ret<|At.then_ret ?_
  exact At.ret1 rfl (Res.tmp rfl) hF10 rl ⟨rfl,rfl⟩
 refine Cd.condF rfl hb11<|Cd.skip<|At.then<|Cd.seq<|sr0<|mv1 rfl<|mv1 rfl ?_
 obtain ⟨r12,h13,H⟩:=bs H
 refine cl1 rfl (vs:=[pv ba0 0,iv a1]) ⟨rfl,rfl,trivial⟩ Tryz.call75 (partref_World_Here_sim h13 w0 _ M _ hM ma0x3 (All.monoLR na0x3 hF10 rl) ma0x4 (All.monoTo na0x4 hF10 rl) ma0x5 (All.monoFrom na0x5 hF10 rl) ma0x6 (All.monoTo na0x6 hF10 rl))<|lr (Ev.not rfl)<|nt0 ?_
 rcases ic H with ⟨hb16,H⟩|⟨hb16,H⟩
 ·refine Cd.condT rfl hb16<|sr0<|as1 rfl<|nt0 ?_
  obtain rfl:=si H
  refine Cd.ret<|At.then_ret ?_
  exact At.ret1 rfl (Res.tmp rfl) hF10 rl ⟨rfl,rfl⟩
 refine Cd.condF rfl hb16<|Cd.skip<|At.then<|sr0<|as1 rfl<|nt0 ?_
 obtain rfl:=si H
 refine Cd.ret ?_
 exact At.ret1 rfl (Res.tmp rfl) hF10 rl ⟨rfl,rfl⟩
theorem partref_World_lead_sim {a0:RWld} {ba0:Nat} {qa0x2:Nat} {ra0x3:Vector (LR Saying) 6} {ra0x4:Vector ToR 6} {ra0x5:Vector FromR 6} {ra0x6:Vector ToR 6} {sa0x7:Sl} {sa0x8:Sl} {sa0x9:Sl} {r:Int} (H:partref_World_lead a0=some r) (w0:World) (F:Frz) (M L:List Item) (hM:M.Sublist L) (ma0x3:ra0x3.toList.map LR.v=a0.Logs.toList) (na0x3:All LR.rel w0 F M ra0x3.toList) (ma0x4:ra0x4.toList.map ToR.v=a0.want.toList) (na0x4:All ToR.rel w0 F M ra0x4.toList) (ma0x5:ra0x5.toList.map FromR.v=a0.Late.toList) (na0x5:All FromR.rel w0 F M ra0x5.toList) (ma0x6:ra0x6.toList.map ToR.v=a0.in_.toList) (na0x6:All ToR.rel w0 F M ra0x6.toList):Ok Tryz.prog w0 73 [pv ba0 0] F ((mii qa0x2 a0.gone)::(.own sa0x7 9 1 (encs a0.order))::(.own sa0x8 198 2 (encs a0.marks))::(.own sa0x9 132 12 (encs a0.WayNotes))::(.blk ba0 (enc (RWldR.mk a0 (some qa0x2) ra0x3 ra0x4 ra0x5 ra0x6 sa0x7 sa0x8 sa0x9)) 50)::L) (Is (iv r) ((mii qa0x2 a0.gone)::(.own sa0x7 9 1 (encs a0.order))::(.own sa0x8 198 2 (encs a0.marks))::(.own sa0x9 132 12 (encs a0.WayNotes))::(.blk ba0 (enc (RWldR.mk a0 (some qa0x2) ra0x3 ra0x4 ra0x5 ra0x6 sa0x7 sa0x8 sa0x9)) 50)::L)):=by
 unfold partref_World_lead at H
 refine Ok.enter (m:=1) (n:=18) Tryz.func73 rfl rfl rfl (by decide)<|Cd.env (e':=[(0,pv ba0 0)]) rfl<|sr0<|as1 rfl<|nt0<|Cd.seq<|sr0<|mv1 rfl<|nt0<|Cd.block ?_
 obtain ⟨ol6,H,HKl6⟩:=andThen_some H
 refine Cd.loop (σ:=Nat×Nat×Unit) (fun (i6,k6,_u)=>[(0,pv ba0 0),(4,iv (i6:Int))]) (fun (i6,k6,_u)=>(mii qa0x2 a0.gone)::(.own sa0x7 9 1 (encs a0.order))::(.own sa0x8 198 2 (encs a0.marks))::(.own sa0x9 132 12 (encs a0.WayNotes))::(.blk ba0 (enc (RWldR.mk a0 (some qa0x2) ra0x3 ra0x4 ra0x5 ra0x6 sa0x7 sa0x8 sa0x9)) 50)::L) (fun _=>(fun (i6,k6,_u)=>rangeM (partref_World_lead_B0 a0) k6 i6 ()=some ol6∧i6+k6=6)) (fun (i6,k6,_u)=>k6) (0,6,()) ⟨rfl,rfl,trivial⟩ rfl ⟨H,by omega⟩ ?_
 rintro F7 ⟨i6,k6,_u⟩ hF8 ⟨H,hik6⟩
 rcases k6 with _ | k6
 ·have hc6:decide ((i6:Int) < (6:Int))=false:=decide_eq_false (by omega)
  replace H:=rangeM_end H
  refine sr0<|lr (Ev.lss rfl rfl)<|nt0<|Cd.seq<|Cd.condF rfl hc6<|Cd.exit<|At.then_exit<|At.then_exit<|At.in_exit ?_
  subst H
  replace H:=HKl6
  refine At.then<|sr0<|as1 rfl<|nt0 ?_
  obtain rfl:=si H
  refine Cd.ret ?_
  exact At.ret1 rfl (Res.tmp rfl) hF8 rl ⟨rfl,rfl⟩
 have hc6:decide ((i6:Int) < (6:Int))=true:=decide_eq_true (by omega)
 obtain ⟨c6,H,hgo6,hbrk6,hret6⟩:=rangeM_go H
 unfold partref_World_lead_B0 at H
 try dsimp only at H
 refine sr0<|lr (Ev.lss rfl rfl)<|nt0<|Cd.seq<|Cd.condT rfl hc6<|Cd.skip<|At.then<|Cd.seq<|Cd.block<|sr0<|mv1 rfl ?_
 refine as1 rfl<|nsr<|mv1 rfl<|lr (Ev.nilCheck rfl)<|lr (Ev.fo 1 rfl U50 rfl Z34 rfl rfl)<|lr (Ev.fo 2 rfl U34 rfl Z5 rfl rfl)<|lr (Ev.load (i:=4) rfl rfl I5 (v:=.int .u8 a0.V.Members.toNat) ((RWldR.get_V (View.get_Members gh0)).off rfl))<|mv1 rfl ?_
 obtain ⟨n9,h10,H⟩:=bs H
 refine lr (Ev.shrU8 (i:=a0.V.Members) (m:=n9) rfl (congrArg some (congrArg (Value.int .i64) (cnt_some h10))))<|lr (Ev.remU8 (i:=a0.V.Members >>> n9) (j:=(2:BitVec 8)) rfl rfl (by decide))<|lr (Ev.eql rfl rfl)<|nt0 ?_
 rcases ic H with ⟨hb12,H⟩|⟨hb12,H⟩
 ·refine Cd.condT rfl hb12<|sr0<|mv1 rfl<|as1 rfl<|nt0 ?_
  have H:=hret6 _ (sj H)
  subst H
  replace H:=HKl6
  obtain rfl:=si H
  refine Cd.ret<|At.in_ret<|At.then_ret<|At.then_ret<|At.in_ret<|At.then_ret ?_
  exact At.ret1 rfl (Res.tmp rfl) hF8 rl ⟨rfl,rfl⟩
 refine Cd.condF rfl hb12<|Cd.skip<|At.in_normal<|At.then<|Cd.region<|lr (Ev.incr (by omega) rfl rfl)<|mv1 rfl<|Lst.nil ?_
 exact At.meet (i6+1,k6,()) hF8 ⟨rfl,rfl,trivial⟩ rfl ⟨⟨hgo6 _ (sj H),by omega⟩,nls⟩
theorem slices_Min_int_int_sim {fu:Nat} {a0:List Int} {sa0:Sl} {r:Int} (H:slices_Min_int_int fu a0=some r) (w0:World) (F:Frz) (M L:List Item) (hM:M.Sublist L) (pa0:Rd w0 F M sa0 a0):Ok Tryz.prog w0 183 [Sl.v sa0] F (L) (Is (iv r) (L)):=by
 unfold slices_Min_int_int at H
 refine Ok.enter (m:=1) (n:=25) Tryz.func183 rfl rfl rfl (by decide)<|Cd.env (e':=[(0,Sl.v sa0)]) rfl<|sr0<|as1 rfl<|nt0<|Cd.seq<|sr0<|mv1 rfl<|lr (Ev.lenS (α:=Int) (xs:=a0) (by decide) rfl rfl U83 (pa0.mono fl hM))<|lr (Ev.lss rfl rfl)<|nt0 ?_
 rcases ic H with ⟨hb1,H⟩|⟨hb1,H⟩
 ·cases H
 refine Cd.condF rfl hb1<|Cd.skip<|At.then<|sr0<|mv1 rfl ?_
 obtain ⟨x2,h3,H⟩:=bs H
 have g4:=lat_some h3
 refine lr (Ev.indexS (α:=Int) (xs:=a0) rfl rfl U83 Z3 rfl (by decide) (pa0.mono fl hM) g4.1 g4.2.1)<|lr (Ev.loadS (α:=Int) rfl (pa0.mono fl hM) I3 (v:=iv x2) ((Get.elemN (s:=1) (x:=x2) rfl g4.2.2 gh0).off (by omega)))<|as1 rfl<|nt0<|Cd.seq<|sr0<|as1 rfl<|nt0<|Cd.block ?_
 obtain ⟨ol5,H,HKl5⟩:=andThen_some H
 refine Cd.loop (σ:=Nat×Int×Int) (fun (k5,y6,y7)=>[(0,Sl.v sa0),(3,iv y6),(4,iv y7)]) (fun (k5,y6,y7)=>L) (fun _=>(fun (k5,y6,y7)=>whileM (slices_Min_int_int_B0 a0) k5 (y6,y7)=some ol5)) (fun (k5,y6,y7)=>k5) (fu,x2,(1:Int)) ⟨rfl,rfl,rfl,trivial⟩ rfl H ?_
 rintro F8 ⟨k5,y6,y7⟩ hF9 H
 rcases k5 with _ | k5
 ·cases H
 obtain ⟨c5,H,hgo5,hbrk5,hret5⟩:=whileM_go H
 unfold slices_Min_int_int_B0 at H
 try dsimp only at H
 refine Cd.seq<|sr0<|mv1 rfl<|mv1 rfl<|lr (Ev.lenS (α:=Int) (xs:=a0) (by decide) rfl rfl U83 (pa0.mono hF9 hM))<|lr (Ev.lss rfl rfl)<|nt0 ?_
 rcases ic2 H with ⟨hb10,H⟩|⟨hb10,H⟩
 ·refine Cd.condF rfl hb10<|Cd.exit<|At.then_exit<|At.then_exit<|At.in_exit ?_
  have H:=hbrk5 _ (sj H)
  subst H
  replace H:=HKl5
  refine At.then<|sr0<|mv1 rfl<|as1 rfl<|nt0 ?_
  obtain rfl:=si H
  refine Cd.ret ?_
  exact At.ret1 rfl (Res.tmp rfl) hF9 rl ⟨rfl,rfl⟩
 refine Cd.condT rfl hb10<|Cd.skip<|At.then<|Cd.seq<|Cd.block<|Cd.region<|mv1 rfl<|mv1 rfl<|mv1 rfl ?_
 obtain ⟨x11,h12,H⟩:=bs H
 have g13:=lat_some h12
 refine lr (Ev.indexS (α:=Int) (xs:=a0) rfl rfl U83 Z3 rfl (by decide) (pa0.mono hF9 hM) g13.1 g13.2.1)<|lr (Ev.loadS (α:=Int) rfl (pa0.mono hF9 hM) I3 (v:=iv x11) ((Get.elemN (s:=1) (x:=x11) rfl g13.2.2 gh0).off (by omega)))<|lr (Ev.min2 rfl rfl)<|as1 rfl<|Lst.nil<|At.in_normal<|At.then<|Cd.region<|mv1 rfl<|lr (Ev.add rfl rfl)<|as1 rfl ?_
 refine Lst.nil ?_
 exact At.meet (k5,min y6 x11,w64 (y7+(1:Int))) hF9 ⟨rfl,rfl,rfl,trivial⟩ rfl ⟨hgo5 _ (sj H),nls⟩
theorem slices_Max_int_int_sim {fu:Nat} {a0:List Int} {sa0:Sl} {r:Int} (H:slices_Max_int_int fu a0=some r) (w0:World) (F:Frz) (M L:List Item) (hM:M.Sublist L) (pa0:Rd w0 F M sa0 a0):Ok Tryz.prog w0 184 [Sl.v sa0] F (L) (Is (iv r) (L)):=by
 unfold slices_Max_int_int at H
 refine Ok.enter (m:=1) (n:=25) Tryz.func184 rfl rfl rfl (by decide)<|Cd.env (e':=[(0,Sl.v sa0)]) rfl<|sr0<|as1 rfl<|nt0<|Cd.seq<|sr0<|mv1 rfl<|lr (Ev.lenS (α:=Int) (xs:=a0) (by decide) rfl rfl U83 (pa0.mono fl hM))<|lr (Ev.lss rfl rfl)<|nt0 ?_
 rcases ic H with ⟨hb1,H⟩|⟨hb1,H⟩
 ·cases H
 refine Cd.condF rfl hb1<|Cd.skip<|At.then<|sr0<|mv1 rfl ?_
 obtain ⟨x2,h3,H⟩:=bs H
 have g4:=lat_some h3
 refine lr (Ev.indexS (α:=Int) (xs:=a0) rfl rfl U83 Z3 rfl (by decide) (pa0.mono fl hM) g4.1 g4.2.1)<|lr (Ev.loadS (α:=Int) rfl (pa0.mono fl hM) I3 (v:=iv x2) ((Get.elemN (s:=1) (x:=x2) rfl g4.2.2 gh0).off (by omega)))<|as1 rfl<|nt0<|Cd.seq<|sr0<|as1 rfl<|nt0<|Cd.block ?_
 obtain ⟨ol5,H,HKl5⟩:=andThen_some H
 refine Cd.loop (σ:=Nat×Int×Int) (fun (k5,y6,y7)=>[(0,Sl.v sa0),(3,iv y6),(4,iv y7)]) (fun (k5,y6,y7)=>L) (fun _=>(fun (k5,y6,y7)=>whileM (slices_Max_int_int_B0 a0) k5 (y6,y7)=some ol5)) (fun (k5,y6,y7)=>k5) (fu,x2,(1:Int)) ⟨rfl,rfl,rfl,trivial⟩ rfl H ?_
 rintro F8 ⟨k5,y6,y7⟩ hF9 H
 rcases k5 with _ | k5
 ·cases H
 obtain ⟨c5,H,hgo5,hbrk5,hret5⟩:=whileM_go H
 unfold slices_Max_int_int_B0 at H
 try dsimp only at H
 refine Cd.seq<|sr0<|mv1 rfl<|mv1 rfl<|lr (Ev.lenS (α:=Int) (xs:=a0) (by decide) rfl rfl U83 (pa0.mono hF9 hM))<|lr (Ev.lss rfl rfl)<|nt0 ?_
 rcases ic2 H with ⟨hb10,H⟩|⟨hb10,H⟩
 ·refine Cd.condF rfl hb10<|Cd.exit<|At.then_exit<|At.then_exit<|At.in_exit ?_
  have H:=hbrk5 _ (sj H)
  subst H
  replace H:=HKl5
  refine At.then<|sr0<|mv1 rfl<|as1 rfl<|nt0 ?_
  obtain rfl:=si H
  refine Cd.ret ?_
  exact At.ret1 rfl (Res.tmp rfl) hF9 rl ⟨rfl,rfl⟩
 refine Cd.condT rfl hb10<|Cd.skip<|At.then<|Cd.seq<|Cd.block<|Cd.region<|mv1 rfl<|mv1 rfl<|mv1 rfl ?_
 obtain ⟨x11,h12,H⟩:=bs H
 have g13:=lat_some h12
 refine lr (Ev.indexS (α:=Int) (xs:=a0) rfl rfl U83 Z3 rfl (by decide) (pa0.mono hF9 hM) g13.1 g13.2.1)<|lr (Ev.loadS (α:=Int) rfl (pa0.mono hF9 hM) I3 (v:=iv x11) ((Get.elemN (s:=1) (x:=x11) rfl g13.2.2 gh0).off (by omega)))<|lr (Ev.max2 rfl rfl)<|as1 rfl<|Lst.nil<|At.in_normal<|At.then<|Cd.region<|mv1 rfl<|lr (Ev.add rfl rfl)<|as1 rfl ?_
 refine Lst.nil ?_
 exact At.meet (k5,max y6 x11,w64 (y7+(1:Int))) hF9 ⟨rfl,rfl,rfl,trivial⟩ rfl ⟨hgo5 _ (sj H),nls⟩
theorem partref_NoteErr_sim {fu:Nat} {a0:Note} {r:Int} (H:partref_NoteErr fu a0=some r) (w0:World) (F:Frz) (M L:List Item) (hM:M.Sublist L):Ok Tryz.prog w0 128 [.agg (enc a0).toArray] F (L) (Is (iv r) (L)):=by
 unfold partref_NoteErr at H
 refine Ok.enter (m:=1) (n:=53) Tryz.func128 rfl rfl rfl (by decide)<|Cd.env (e':=[(0,.agg (enc a0).toArray)]) rfl<|sr0 ?_
 refine Lst.box rfl rfl (by decide) rfl (cs:=enc a0) rfl (fun b1=>?_)
 refine as1 rfl<|nt0<|Cd.seq<|sr0<|lr (Ev.fo 0 rfl U132 rfl Z3 rfl rfl)<|lr (Ev.load (i:=0) rfl rfl I3 (v:=iv a0.Kind) ((Note.get_Kind gh0).off rfl))<|lr (Ev.lss rfl rfl)<|mv1 rfl ?_
 obtain ⟨o3,H,HKo3⟩:=bs H
 refine Lst.join (σ:=Bool) 4 (fun y4=>[(1,pv b1 0),(10,.bool y4)]) (fun y4=>(.blk b1 (enc a0) 132)::L) (fun _ y4=>y4=o3) ?_ ?_
 ·rcases ic H with ⟨hb5,H⟩|⟨hb5,H⟩
  ·refine lsk rfl hb5<|lsk rfl hb5<|lsk rfl hb5<|lr (Ev.pickT rfl hb5 rfl)<|Lst.nil ?_
   exact At.meet true fl ⟨rfl,rfl,trivial⟩ rfl (si H)
  refine lg hb5 (Ev.fo 0 rfl U132 rfl Z3 rfl rfl)<|lg hb5 (Ev.load (i:=0) rfl rfl I3 (v:=iv a0.Kind) ((Note.get_Kind gh0).off rfl))<|lg hb5 (Ev.gtr rfl rfl)<|lr (Ev.pickF rfl hb5 rfl)<|Lst.nil ?_
  exact At.meet (decide (a0.Kind > (255:Int))) fl ⟨rfl,rfl,trivial⟩ rfl (si H)
 rintro F6 y4 hF7 hy
 subst hy
 replace H:=HKo3
 refine mv1 rfl ?_
 obtain ⟨o8,H,HKo8⟩:=bs H
 refine Lst.join (σ:=Bool) 11 (fun y9=>[(1,pv b1 0),(22,.bool y9)]) (fun y9=>(.blk b1 (enc a0) 132)::L) (fun _ y9=>y9=o8) ?_ ?_
 ·rcases ic H with ⟨hb10,H⟩|⟨hb10,H⟩
  ·refine lsk rfl hb10<|lsk rfl hb10<|lsk rfl hb10<|lsk rfl hb10<|lsk rfl hb10<|lsk rfl hb10<|lsk rfl hb10<|lsk rfl hb10<|lsk rfl hb10<|lsk rfl hb10<|lr (Ev.pickT rfl hb10 rfl) ?_
   refine Lst.nil ?_
   exact At.meet true fl ⟨rfl,rfl,trivial⟩ rfl (si H)
  refine lg hb10 (Ev.fo 1 rfl U132 rfl Z3 rfl rfl)<|lg hb10 (Ev.load (i:=0) rfl rfl I3 (v:=iv a0.From) ((Note.get_From gh0).off rfl))<|lg hb10 (Ev.fo 2 rfl U132 rfl Z3 rfl rfl)<|lg hb10 (Ev.load (i:=0) rfl rfl I3 (v:=iv a0.To) ((Note.get_To gh0).off rfl))<|lg hb10 (Ev.fo 3 rfl U132 rfl Z3 rfl rfl)<|lg hb10 (Ev.load (i:=0) rfl rfl I3 (v:=iv a0.View) ((Note.get_View gh0).off rfl))<|lg hb10 (Ev.fo 4 rfl U132 rfl Z3 rfl rfl)<|lg hb10 (Ev.load (i:=0) rfl rfl I3 (v:=iv a0.Seq) ((Note.get_Seq gh0).off rfl))<|lg hb10 (Ev.min4 rfl rfl rfl rfl)<|lg hb10 (Ev.lss rfl rfl)<|lr (Ev.pickF rfl hb10 rfl) ?_
  refine Lst.nil ?_
  exact At.meet (decide ((min (min (min a0.From a0.To) a0.View) a0.Seq) < (0:Int))) fl ⟨rfl,rfl,trivial⟩ rfl (si H)
 rintro F11 y9 hF12 hy
 subst hy
 replace H:=HKo8
 refine mv1 rfl ?_
 obtain ⟨o13,H,HKo13⟩:=bs H
 refine Lst.join (σ:=Bool) 7 (fun y14=>[(1,pv b1 0),(30,.bool y14)]) (fun y14=>(.blk b1 (enc a0) 132)::L) (fun _ y14=>y14=o13) ?_ ?_
 ·rcases ic H with ⟨hb15,H⟩|⟨hb15,H⟩
  ·refine lsk rfl hb15<|lsk rfl hb15<|lsk rfl hb15<|lsk rfl hb15<|lsk rfl hb15<|lsk rfl hb15<|lr (Ev.pickT rfl hb15 rfl)<|Lst.nil ?_
   exact At.meet true fl ⟨rfl,rfl,trivial⟩ rfl (si H)
  refine lg hb15 (Ev.fo 1 rfl U132 rfl Z3 rfl rfl)<|lg hb15 (Ev.load (i:=0) rfl rfl I3 (v:=iv a0.From) ((Note.get_From gh0).off rfl))<|lg hb15 (Ev.fo 2 rfl U132 rfl Z3 rfl rfl)<|lg hb15 (Ev.load (i:=0) rfl rfl I3 (v:=iv a0.To) ((Note.get_To gh0).off rfl))<|lg hb15 (Ev.max2 rfl rfl)<|lg hb15 (Ev.gtr rfl rfl)<|lr (Ev.pickF rfl hb15 rfl)<|Lst.nil ?_
  exact At.meet (decide ((max a0.From a0.To) > (5:Int))) fl ⟨rfl,rfl,trivial⟩ rfl (si H)
 rintro F16 y14 hF17 hy
 subst hy
 replace H:=HKo13
 refine mv1 rfl ?_
 obtain ⟨o18,H,HKo18⟩:=bs H
 refine Lst.join (σ:=Bool) 7 (fun y19=>[(1,pv b1 0),(38,.bool y19)]) (fun y19=>(.blk b1 (enc a0) 132)::L) (fun _ y19=>y19=o18) ?_ ?_
 ·rcases ic H with ⟨hb20,H⟩|⟨hb20,H⟩
  ·refine lsk rfl hb20<|lsk rfl hb20<|lsk rfl hb20<|lsk rfl hb20<|lsk rfl hb20<|lsk rfl hb20<|lr (Ev.pickT rfl hb20 rfl)<|Lst.nil ?_
   exact At.meet true fl ⟨rfl,rfl,trivial⟩ rfl (si H)
  refine lg hb20 (Ev.fo 3 rfl U132 rfl Z3 rfl rfl)<|lg hb20 (Ev.load (i:=0) rfl rfl I3 (v:=iv a0.View) ((Note.get_View gh0).off rfl))<|lg hb20 (Ev.fo 4 rfl U132 rfl Z3 rfl rfl)<|lg hb20 (Ev.load (i:=0) rfl rfl I3 (v:=iv a0.Seq) ((Note.get_Seq gh0).off rfl))<|lg hb20 (Ev.max2 rfl rfl)<|lg hb20 (Ev.gtr rfl rfl)<|lr (Ev.pickF rfl hb20 rfl)<|Lst.nil ?_
  exact At.meet (decide ((max a0.View a0.Seq) > (16777215:Int))) fl ⟨rfl,rfl,trivial⟩ rfl (si H)
 rintro F21 y19 hF22 hy
 let T0:=ft (ft (ft hF7 hF12) hF17) hF22
 subst hy
 replace H:=HKo18
 refine nt0 ?_
 rcases ic H with ⟨hb23,H⟩|⟨hb23,H⟩
 ·refine Cd.condT rfl hb23<|sr0<|as1 rfl<|nt0 ?_
  obtain rfl:=si H
  refine Cd.ret<|At.then_ret ?_
  exact At.ret1 rfl (Res.tmp rfl) T0 (sc1 rl) ⟨rfl,rfl⟩
 refine Cd.condF rfl hb23<|Cd.skip<|At.then<|Cd.seq<|sr0<|lr (Ev.fo 5 rfl U132 rfl Z130 rfl rfl)<|lr (Ev.sliceAll rfl U130 Z3) ?_
 obtain ⟨r24,h25,H⟩:=bs H
 refine cl1 rfl (vs:=[Sl.v (Sl.mk (some ⟨b1,5,none⟩) 6 6)]) ⟨rfl,trivial⟩ Tryz.call183 (slices_Min_int_int_sim h25 w0 _ _ _ rl (Rd.blk (i:=0) (xs:=a0.At.toList) rfl ((Note.get_At gh0).off rfl) (by simp) (by decide)))<|lr (Ev.lss rfl rfl)<|mv1 rfl ?_
 obtain ⟨o28,H,HKo28⟩:=bs H
 refine Lst.join (σ:=Bool) 5 (fun y29=>[(1,pv b1 0),(48,.bool y29)]) (fun y29=>(.blk b1 (enc a0) 132)::L) (fun _ y29=>y29=o28) ?_ ?_
 ·rcases ic H with ⟨hb30,H⟩|⟨hb30,H⟩
  ·refine lsk rfl hb30<|lsk rfl hb30<|lsk rfl hb30<|lsk rfl hb30<|lr (Ev.pickT rfl hb30 rfl)<|Lst.nil ?_
   exact At.meet true fl ⟨rfl,rfl,trivial⟩ rfl (si H)
  refine lg hb30 (Ev.fo 5 rfl U132 rfl Z130 rfl rfl)<|lg hb30 (Ev.sliceAll rfl U130 Z3) ?_
  obtain ⟨r31,h32,H⟩:=bs H
  refine Lst.call1G rfl rfl rfl hb30 rfl (by decide) (vs:=[Sl.v (Sl.mk (some ⟨b1,5,none⟩) 6 6)]) ⟨rfl,trivial⟩ Tryz.call184 (slices_Max_int_int_sim h32 w0 _ _ _ rl (Rd.blk (i:=0) (xs:=a0.At.toList) rfl ((Note.get_At gh0).off rfl) (by simp) (by decide)))<|lg hb30 (Ev.gtr rfl rfl)<|lr (Ev.pickF rfl hb30 rfl)<|Lst.nil ?_
  exact At.meet (decide (r31 > (16777215:Int))) fl ⟨rfl,rfl,trivial⟩ rfl (si H)
 rintro F35 y29 hF36 hy
 subst hy
 replace H:=HKo28
 refine nt0 ?_
 rcases ic H with ⟨hb37,H⟩|⟨hb37,H⟩
 ·refine Cd.condT rfl hb37<|sr0<|as1 rfl<|nt0 ?_
  obtain rfl:=si H
  refine Cd.ret<|At.then_ret ?_
  exact At.ret1 rfl (Res.tmp rfl) (ft T0 hF36) (sc1 rl) ⟨rfl,rfl⟩
 refine Cd.condF rfl hb37<|Cd.skip<|At.then<|Cd.seq<|sr0<|lr (Ev.fo 11 rfl U132 rfl Z9 rfl rfl)<|lr (Ev.load (i:=0) rfl rfl I9 (v:=Str.v a0.Text) ((Note.get_Text gh0).off rfl))<|lr (Ev.lenStr rfl rfl U9)<|lr (Ev.gtr rfl rfl)<|nt0 ?_
 rcases ic H with ⟨hb38,H⟩|⟨hb38,H⟩
 ·refine Cd.condT rfl hb38<|sr0<|as1 rfl<|nt0 ?_
  obtain rfl:=si H
  refine Cd.ret<|At.then_ret ?_
  exact At.ret1 rfl (Res.tmp rfl) (ft T0 hF36) (sc1 rl) ⟨rfl,rfl⟩
 refine Cd.condF rfl hb38<|Cd.skip<|At.then<|sr0<|as1 rfl<|nt0 ?_
 obtain rfl:=si H
 refine Cd.ret ?_
 exact At.ret1 rfl (Res.tmp rfl) (ft T0 hF36) (sc1 rl) ⟨rfl,rfl⟩
theorem partref_World_send_sim {fu:Nat} {a0:RWld} {a1:Note} {ba0:Nat} {qa0x2:Nat} {ra0x3:Vector (LR Saying) 6} {ra0x4:Vector ToR 6} {ra0x5:Vector FromR 6} {ra0x6:Vector ToR 6} {sa0x7:Sl} {sa0x8:Sl} {sa0x9:Sl} {r:(List Note)×RWld} (H:partref_World_send fu a0 a1=some r) (w0:World) (F:Frz) (M L:List Item) (hM:M.Sublist L) (ma0x3:ra0x3.toList.map LR.v=a0.Logs.toList) (na0x3:All LR.rel w0 F M ra0x3.toList) (ma0x4:ra0x4.toList.map ToR.v=a0.want.toList) (na0x4:All ToR.rel w0 F M ra0x4.toList) (ma0x5:ra0x5.toList.map FromR.v=a0.Late.toList) (na0x5:All FromR.rel w0 F M ra0x5.toList) (ma0x6:ra0x6.toList.map ToR.v=a0.in_.toList) (na0x6:All ToR.rel w0 F M ra0x6.toList):Ok Tryz.prog w0 72 [pv ba0 0,.agg (enc a1).toArray] F ((mii qa0x2 a0.gone)::(.own sa0x7 9 1 (encs a0.order))::(.own sa0x8 198 2 (encs a0.marks))::(.own sa0x9 132 12 (encs a0.WayNotes))::(.blk ba0 (enc (RWldR.mk a0 (some qa0x2) ra0x3 ra0x4 ra0x5 ra0x6 sa0x7 sa0x8 sa0x9)) 50)::L) (fun Fx L' v=>∃ (s6:Sl) (rs7:Vector (LR Saying) 6) (rs10:Vector ToR 6) (rs13:Vector FromR 6) (rs16:Vector ToR 6),v=.tuple #[]∧L'=(mii qa0x2 a0.gone)::(.own sa0x7 9 1 (encs a0.order))::(.own sa0x8 198 2 (encs a0.marks))::(.own s6 132 12 (encs r.1))::(.blk ba0 (enc (RWldR.mk ({r.2 with gone:=a0.gone,order:=a0.order,marks:=a0.marks,WayNotes:=r.1}:RWld) (some qa0x2) rs7 rs10 rs13 rs16 sa0x7 sa0x8 s6)) 50)::L∧rs7.toList.map LR.v=r.2.Logs.toList∧All LR.rel w0 Fx M rs7.toList∧rs10.toList.map ToR.v=r.2.want.toList∧All ToR.rel w0 Fx M rs10.toList∧rs13.toList.map FromR.v=r.2.Late.toList∧All FromR.rel w0 Fx M rs13.toList∧rs16.toList.map ToR.v=r.2.in_.toList∧All ToR.rel w0 Fx M rs16.toList):=by
 let T0:Item:=.blk ba0 (enc (RWldR.mk a0 (some qa0x2) ra0x3 ra0x4 ra0x5 ra0x6 sa0x7 sa0x8 sa0x9)) 50
 unfold partref_World_send at H
 refine Ok.enter (m:=2) (n:=31) Tryz.func72 rfl rfl rfl (by decide)<|Cd.env (e':=[(0,pv ba0 0),(1,.agg (enc a1).toArray)]) rfl<|sr0 ?_
 refine Lst.box rfl rfl (by decide) rfl (cs:=enc a1) rfl (fun b6=>?_)
 refine nsr<|mv1 rfl<|lr (Ev.nilCheck rfl)<|lr (Ev.fo 1 rfl U50 rfl Z34 rfl rfl)<|lr (Ev.fo 1 rfl U34 rfl Z3 rfl rfl)<|lr (Ev.load (i:=5) rfl rfl I3 (v:=iv a0.V.Num) ((RWldR.get_V (View.get_Num gh0)).off rfl))<|lr (Ev.fo 3 rfl U132 rfl Z3 rfl rfl) ?_
 obtain ⟨p8,h9,H⟩:=Let_some H
 refine lst 0 rfl rfl rfl Z3 (vs:=[iv a0.V.Num]) rfl rfl rfl (cs':=enc p8) (by (try dsimp +zetaDelta only); rw [← h9]; exact (Note.put_View (Put.here (vs:=[iv a0.V.Num]) rfl)).off rfl) rfl<|nsr<|mv1 rfl<|lr (Ev.nilCheck rfl)<|lr (Ev.fo 48 rfl U50 rfl Z48 rfl rfl)<|lr (Ev.load (i:=5) rfl rfl I48 (v:=Sl.v sa0x9) ((RWldR.get_WayNotes gh0).off rfl))<|lr (Ev.lenS (α:=Note) (xs:=a0.WayNotes) (by decide) rfl rfl U48 (rdo 4 rfl rfl rfl))<|lr (Ev.lss rfl rfl)<|mv1 rfl ?_
 obtain ⟨o10,H,HKo10⟩:=bs H
 refine Lst.join (σ:=Bool) 4 (fun y11=>[(0,pv ba0 0),(3,pv b6 0),(20,.bool y11)]) (fun y11=>(.blk b6 (enc p8) 132)::(mii qa0x2 a0.gone)::(.own sa0x7 9 1 (encs a0.order))::(.own sa0x8 198 2 (encs a0.marks))::(.own sa0x9 132 12 (encs a0.WayNotes))::T0::L) (fun _ y11=>y11=o10) ?_ ?_
 ·rcases ic2 H with ⟨hb12,H⟩|⟨hb12,H⟩
  ·refine lsk rfl hb12<|lsk rfl hb12<|lsk rfl hb12<|lr (Ev.pickF rfl hb12 rfl)<|Lst.nil ?_
   exact At.meet false fl ⟨rfl,rfl,rfl,trivial⟩ rfl (si H)
  refine lg hb12 (Ev.loadA (i:=0) rfl rfl I132 Z132 (ch:=enc p8) el gh0) ?_
  obtain ⟨r13,h14,H⟩:=bs H
  refine Lst.call1G rfl rfl rfl hb12 rfl (by decide) (vs:=[.agg (enc p8).toArray]) ⟨rfl,trivial⟩ Tryz.call128 (partref_NoteErr_sim h14 w0 _ M _ (sc4 (sc2 hM)))<|lg hb12 (Ev.eql rfl rfl)<|lr (Ev.pickT rfl hb12 rfl)<|Lst.nil ?_
  exact At.meet (r13==(0:Int)) fl ⟨rfl,rfl,rfl,trivial⟩ rfl (si H)
 rintro F17 y11 hF18 hy
 subst hy
 replace H:=HKo10
 refine nt0 ?_
 rcases ic2 H with ⟨hb19,H⟩|⟨hb19,H⟩
 ·refine Cd.condF rfl hb19<|Cd.skip ?_
  obtain rfl:=si H
  exact At.ret0 (.inr rfl) rfl hF18 (sc1 rl) ⟨sa0x9,ra0x3,ra0x4,ra0x5,ra0x6,rfl,rfl,ma0x3,(All.monoLR na0x3 hF18 rl),ma0x4,(All.monoTo na0x4 hF18 rl),ma0x5,(All.monoFrom na0x5 hF18 rl),ma0x6,(All.monoTo na0x6 hF18 rl)⟩
 refine Cd.condT rfl hb19 ?_
 obtain ⟨u22,h23,H⟩:=bs H
 obtain ⟨o42,h43,H⟩:=Let_some H
 refine Cd.headMeet (σ:=Sl×(List Note)×RWld×(Vector (LR Saying) 6)×(Vector ToR 6)×(Vector FromR 6)×(Vector ToR 6)×Sl) 8 (fun (s26,l27,y28,rs29,rs32,rs35,rs38,s41)=>[(21,pv ba0 0),(28,Sl.v s26)]) (fun (s26,l27,y28,rs29,rs32,rs35,rs38,s41)=>(.blk b6 (enc p8) 132)::(mii qa0x2 a0.gone)::(.own sa0x7 9 1 (encs a0.order))::(.own sa0x8 198 2 (encs a0.marks))::(.own s26 132 12 (encs l27))::(.blk ba0 (enc (RWldR.mk ({y28 with gone:=a0.gone,order:=a0.order,marks:=a0.marks}:RWld) (some qa0x2) rs29 rs32 rs35 rs38 sa0x7 sa0x8 s41)) 50)::L) (fun Fx (s26,l27,y28,rs29,rs32,rs35,rs38,s41)=>(l27,y28)=o42∧rs29.toList.map LR.v=y28.Logs.toList∧All LR.rel w0 Fx M rs29.toList∧rs32.toList.map ToR.v=y28.want.toList∧All ToR.rel w0 Fx M rs32.toList∧rs35.toList.map FromR.v=y28.Late.toList∧All FromR.rel w0 Fx M rs35.toList∧rs38.toList.map ToR.v=y28.in_.toList∧All ToR.rel w0 Fx M rs38.toList) (by kernel_rfl) (by kernel_rfl) (behind_sink (by kernel_rfl) (by kernel_rfl) (by kernel_rfl)) (by kernel_rfl) (fun hsel hlt=>?_) ?_
 ·refine HdJ.keep (fun w=>St w0 F17 ((.blk b6 (enc p8) 132)::(mii qa0x2 a0.gone)::(.own sa0x7 9 1 (encs a0.order))::(.own sa0x8 198 2 (encs a0.marks))::T0::L) w) (fun w h=>trivial)<|hts rfl hsel hlt 0 (sk4 (sc1 rl)) rfl (Ev.move rfl)<|hts rfl hsel hlt 1 (sk4 (sc1 rl)) rfl (Ev.move rfl)<|hts rfl hsel hlt 2 (sk4 (sc1 rl)) rfl (Ev.nilCheck rfl)<|hts rfl hsel hlt 3 (sk4 (sc1 rl)) rfl (Ev.fo 48 rfl U50 rfl Z48 rfl rfl)<|hts rfl hsel hlt 5 (sk4 (sc1 rl)) rfl (Ev.loadA (i:=0) rfl rfl I132 Z132 (ch:=enc p8) el gh0)<|HdJ.step [4,6] (by kernel_rfl) rfl ?_
  refine HdStep.c (fun inv=>?_) ?_
  ·refine lr (Ev.load (i:=5) rfl rfl I48 (v:=Sl.v sa0x9) ((RWldR.get_WayNotes gh0).off rfl))<|hds inv (sk4 (sc1 rl)) ?_
   refine HdJ.o1 6 (fun inv=>?_)
   refine Lst.buildSlice (α:=Note) (xs:=([p8]:List Note)) (pv:=[(0,.agg (enc p8).toArray)]) rfl rfl (by decide) ⟨rfl,rfl,trivial⟩ (run_buildSlice (α:=Note) (z0:=Note.zero) (xs:=([p8]:List Note)) U48 Z132 Tryz.zeroValue132 rfl rfl rfl (by decide) rfl (fill_one rfl rfl)) rfl rfl (by decide) (fun s44 _=>?_)
   refine hds inv (sc1 (sk4 (sc1 rl))) ?_
   refine HdJ.o1 7 (fun inv=>?_)
   refine Lst.append (i:=5) (α:=Note) (xs:=a0.WayNotes) (ys:=([p8]:List Note)) rfl rfl (by decide) rfl rfl U48 Tryz.typeInfo132 rfl rfl rfl rfl rfl rfl (rdo 0 rfl rfl rfl) rfl (room_some h23) rfl (fun s45=>?_)
   refine hds inv (sc1 (sk4 (sc1 rl)))<|HdJ.done (by kernel_rfl)<|At.less (sc1 rl) ?_
   exact At.meetN (s45,a0.WayNotes++([p8]:List Note),a0,ra0x3,ra0x4,ra0x5,ra0x6,sa0x9) fl ⟨rfl,rfl,trivial⟩ rfl ⟨h43,ma0x3,(All.monoLR na0x3 hF18 rl),ma0x4,(All.monoTo na0x4 hF18 rl),ma0x5,(All.monoFrom na0x5 hF18 rl),ma0x6,(All.monoTo na0x6 hF18 rl)⟩
  refine HdStep.c (fun inv=>?_) trivial
  refine Lst.buildSlice (α:=Note) (xs:=([p8]:List Note)) (pv:=[(0,.agg (enc p8).toArray)]) rfl rfl (by decide) ⟨rfl,rfl,trivial⟩ (run_buildSlice (α:=Note) (z0:=Note.zero) (xs:=([p8]:List Note)) U48 Z132 Tryz.zeroValue132 rfl rfl rfl (by decide) rfl (fill_one rfl rfl)) rfl rfl (by decide) (fun s46 _=>?_)
  refine hds inv (sc1 (sk4 (sc1 rl))) ?_
  refine HdJ.o1 4 (fun inv=>?_)
  refine lr (Ev.load (i:=6) rfl rfl I48 (v:=Sl.v sa0x9) ((RWldR.get_WayNotes gh0).off rfl))<|hds inv (sc1 (sk4 (sc1 rl))) ?_
  refine HdJ.o1 7 (fun inv=>?_)
  refine Lst.append (i:=5) (α:=Note) (xs:=a0.WayNotes) (ys:=([p8]:List Note)) rfl rfl (by decide) rfl rfl U48 Tryz.typeInfo132 rfl rfl rfl rfl rfl rfl (rdo 0 rfl rfl rfl) rfl (room_some h23) rfl (fun s47=>?_)
  refine hds inv (sc1 (sk4 (sc1 rl)))<|HdJ.done (by kernel_rfl)<|At.less (sc1 rl) ?_
  exact At.meetN (s47,a0.WayNotes++([p8]:List Note),a0,ra0x3,ra0x4,ra0x5,ra0x6,sa0x9) fl ⟨rfl,rfl,trivial⟩ rfl ⟨h43,ma0x3,(All.monoLR na0x3 hF18 rl),ma0x4,(All.monoTo na0x4 hF18 rl),ma0x5,(All.monoFrom na0x5 hF18 rl),ma0x6,(All.monoTo na0x6 hF18 rl)⟩
 rintro F48 ⟨s26,l27,y28,rs29,rs32,rs35,rs38,s41⟩ hF49 ⟨hy,fm30,fa31,fm33,fa34,fm36,fa37,fm39,fa40⟩
 subst hy
 try dsimp only at H
 refine lr (Ev.nilCheck rfl)<|lr (Ev.fo 48 rfl U50 rfl Z48 rfl rfl)<|lst 5 rfl rfl rfl Z48 (vs:=[Sl.v s26]) rfl rfl rfl (cs':=enc (RWldR.mk ({y28 with gone:=a0.gone,order:=a0.order,marks:=a0.marks,WayNotes:=l27}:RWld) (some qa0x2) rs29 rs32 rs35 rs38 sa0x7 sa0x8 s26)) ((RWldR.put_WayNotes (Put.here (vs:=[Sl.v s26]) rfl)).off rfl) rfl<|Lst.nil ?_
 obtain rfl:=si H
 exact At.ret0 (.inr rfl) rfl (ft hF18 hF49) (sc1 rl) ⟨s26,rs29,rs32,rs35,rs38,rfl,rfl,fm30,(All.monoLR fa31 fl rl),fm33,(All.monoTo fa34 fl rl),fm36,(All.monoFrom fa37 fl rl),fm39,(All.monoTo fa40 fl rl)⟩
theorem partref_World_Say_sim {fu:Nat} {a0:RWld} {a1:Int} {a2:Str} {ba0:Nat} {qa0x2:Nat} {ra0x3:Vector (LR Saying) 6} {ra0x4:Vector ToR 6} {ra0x5:Vector FromR 6} {ra0x6:Vector ToR 6} {sa0x7:Sl} {sa0x8:Sl} {sa0x9:Sl} {r:(List Note)×RWld×Int} (H:partref_World_Say fu a0 a1 a2=some r) (w0:World) (F:Frz) (M L:List Item) (hM:M.Sublist L) (ma0x3:ra0x3.toList.map LR.v=a0.Logs.toList) (na0x3:All LR.rel w0 F M ra0x3.toList) (ma0x4:ra0x4.toList.map ToR.v=a0.want.toList) (na0x4:All ToR.rel w0 F M ra0x4.toList) (ma0x5:ra0x5.toList.map FromR.v=a0.Late.toList) (na0x5:All FromR.rel w0 F M ra0x5.toList) (ma0x6:ra0x6.toList.map ToR.v=a0.in_.toList) (na0x6:All ToR.rel w0 F M ra0x6.toList):Ok Tryz.prog w0 38 [pv ba0 0,iv a1,Str.v a2] F ((mii qa0x2 a0.gone)::(.own sa0x7 9 1 (encs a0.order))::(.own sa0x8 198 2 (encs a0.marks))::(.own sa0x9 132 12 (encs a0.WayNotes))::(.blk ba0 (enc (RWldR.mk a0 (some qa0x2) ra0x3 ra0x4 ra0x5 ra0x6 sa0x7 sa0x8 sa0x9)) 50)::L) (fun Fx L' v=>∃ (s6:Sl) (rs7:Vector (LR Saying) 6) (rs10:Vector ToR 6) (rs13:Vector FromR 6) (rs16:Vector ToR 6),v=iv r.2.2∧L'=(mii qa0x2 a0.gone)::(.own sa0x7 9 1 (encs a0.order))::(.own sa0x8 198 2 (encs a0.marks))::(.own s6 132 12 (encs r.1))::(.blk ba0 (enc (RWldR.mk ({r.2.1 with gone:=a0.gone,order:=a0.order,marks:=a0.marks,WayNotes:=r.1}:RWld) (some qa0x2) rs7 rs10 rs13 rs16 sa0x7 sa0x8 s6)) 50)::L∧rs7.toList.map LR.v=r.2.1.Logs.toList∧All LR.rel w0 Fx M rs7.toList∧rs10.toList.map ToR.v=r.2.1.want.toList∧All ToR.rel w0 Fx M rs10.toList∧rs13.toList.map FromR.v=r.2.1.Late.toList∧All FromR.rel w0 Fx M rs13.toList∧rs16.toList.map ToR.v=r.2.1.in_.toList∧All ToR.rel w0 Fx M rs16.toList):=by
 let T1:=RWldR.mk a0 (some qa0x2) ra0x3 ra0x4 ra0x5 ra0x6 sa0x7 sa0x8 sa0x9
 unfold partref_World_Say at H
 refine Ok.enter (m:=3) (n:=79) Tryz.func38 rfl rfl rfl (by decide)<|Cd.env (e':=[(0,pv ba0 0),(1,iv a1),(2,Str.v a2)]) rfl<|sr0<|as1 rfl<|nt0<|Cd.seq<|sr0<|mv1 rfl<|mv1 rfl ?_
 obtain ⟨r6,h7,H⟩:=bs H
 refine cl1 rfl (vs:=[pv ba0 0,iv a1]) ⟨rfl,rfl,trivial⟩ Tryz.call71 (partref_World_whoErr_sim h7 w0 _ M _ hM ma0x3 (All.monoLR na0x3 fl rl) ma0x4 (All.monoTo na0x4 fl rl) ma0x5 (All.monoFrom na0x5 fl rl) ma0x6 (All.monoTo na0x6 fl rl))<|as1 rfl<|nsr<|mv1 rfl<|lr (Ev.neq rfl rfl)<|nt0 ?_
 rcases ic H with ⟨hb10,H⟩|⟨hb10,H⟩
 ·refine Cd.condT rfl hb10<|sr0<|mv1 rfl<|as1 rfl<|nt0 ?_
  obtain rfl:=si H
  refine Cd.ret<|At.then_ret ?_
  exact At.ret1 rfl (Res.tmp rfl) fl rl ⟨sa0x9,ra0x3,ra0x4,ra0x5,ra0x6,rfl,rfl,ma0x3,(All.monoLR na0x3 fl rl),ma0x4,(All.monoTo na0x4 fl rl),ma0x5,(All.monoFrom na0x5 fl rl),ma0x6,(All.monoTo na0x6 fl rl)⟩
 refine Cd.condF rfl hb10<|Cd.skip<|At.then<|Cd.seq<|sr0<|mv1 rfl<|lr (Ev.lenStr rfl rfl U9)<|lr (Ev.gtr rfl rfl)<|nt0 ?_
 rcases ic H with ⟨hb11,H⟩|⟨hb11,H⟩
 ·refine Cd.condT rfl hb11<|sr0<|as1 rfl<|nt0 ?_
  obtain rfl:=si H
  refine Cd.ret<|At.then_ret ?_
  exact At.ret1 rfl (Res.tmp rfl) fl rl ⟨sa0x9,ra0x3,ra0x4,ra0x5,ra0x6,rfl,rfl,ma0x3,(All.monoLR na0x3 fl rl),ma0x4,(All.monoTo na0x4 fl rl),ma0x5,(All.monoFrom na0x5 fl rl),ma0x6,(All.monoTo na0x6 fl rl)⟩
 refine Cd.condF rfl hb11<|Cd.skip<|At.then<|sr0<|mv1 rfl<|mv1 rfl<|lr (Ev.nilCheck rfl)<|lr (Ev.fo 22 rfl U50 rfl Z46 rfl rfl) ?_
 obtain ⟨x12,h13,H⟩:=bs H
 have g14:=vat_some h13
 obtain ⟨⟨r15v,r15h1⟩,r15g,r15e,r15m,r15l⟩:=vmap_get ma0x5 g14.2.2
 obtain rfl:x12=r15v:=r15e.symm
 have r15q:FromR.rel w0 _ _ (FromR.mk x12 r15h1):=na0x5 _ r15m
 have r15_f1:Rd w0 _ _ _ _:=r15q
 refine lr (Ev.indexAddr (off':=22+a1.toNat * 2) rfl rfl U46 Z45 g14.1 g14.2.1 rfl)<|as1 rfl<|nt0<|Cd.seq<|Cd.seq<|Cd.quiet (by kernel_rfl) (by kernel_rfl)<|qr (Ev.move rfl)<|qr (Ev.nilCheck rfl)<|qr (Ev.fo 48 rfl U50 rfl Z48 rfl rfl)<|qr (Ev.load (i:=4) rfl rfl I48 (v:=Sl.v sa0x9) ((RWldR.get_WayNotes gh0).off rfl))<|qr (Ev.lenS (α:=Note) (xs:=a0.WayNotes) (by decide) rfl rfl U48 (rdo 3 rfl rfl rfl)) ?_
 refine qr (Ev.eql rfl rfl)<|qr (Ev.move rfl) ?_
 obtain ⟨o16,H,HKo16⟩:=bs H
 refine Qt.join (σ:=Bool) 7 (fun y17=>[(0,pv ba0 0),(1,iv a1),(2,Str.v a2),(8,pv ba0 (22+a1.toNat * 2)),(36,.bool y17)]) (fun y17=>y17=o16) ?_ ?_
 ·rcases ic H with ⟨hb18,H⟩|⟨hb18,H⟩
  ·refine qsk rfl hb18<|qsk rfl hb18<|qsk rfl hb18<|qsk rfl hb18<|qsk rfl hb18<|qsk rfl hb18<|qr (Ev.pickT rfl hb18 rfl) ?_
   exact Qt.meet true ⟨rfl,rfl,rfl,rfl,rfl,trivial⟩ (si H)
  refine qg hb18 (Ev.move rfl)<|qg hb18 (Ev.nilCheck rfl)<|qg hb18 (Ev.fo (22+a1.toNat * 2+1) rfl U45 rfl Z43 rfl rfl)<|qg hb18 (Ev.load (i:=4) rfl rfl I43 (v:=Sl.v r15h1) ((RWldR.get_Late (p:=T1) (Get.vecN (s:=2) rfl r15g (FromR.get_Late gh0))).off (by omega)))<|qg hb18 (Ev.lenS (α:=Str) (xs:=x12.Late) (by decide) rfl rfl U43 (r15_f1.mono fl (sc4 (sc1 hM))))<|qg hb18 (Ev.eql rfl rfl)<|qr (Ev.pickF rfl hb18 rfl) ?_
  exact Qt.meet ((x12.Late.length:Int)==(16:Int)) ⟨rfl,rfl,rfl,rfl,rfl,trivial⟩ (si H)
 rintro y17 hy
 subst hy
 refine Qt.as (e':=[(0,pv ba0 0),(1,iv a1),(2,Str.v a2),(8,pv ba0 (22+a1.toNat * 2)),(36,.bool y17)]) ⟨rfl,rfl,rfl,rfl,rfl,trivial⟩ ?_
 replace H:=HKo16
 refine qr (Ev.move rfl) ?_
 obtain ⟨o19,H,HKo19⟩:=bs H
 refine Qt.join (σ:=Bool) 12 (fun y20=>[(0,pv ba0 0),(1,iv a1),(2,Str.v a2),(8,pv ba0 (22+a1.toNat * 2)),(49,.bool y20)]) (fun y20=>y20=o19) ?_ ?_
 ·rcases ic H with ⟨hb21,H⟩|⟨hb21,H⟩
  ·refine qsk rfl hb21<|qsk rfl hb21<|qsk rfl hb21<|qsk rfl hb21<|qsk rfl hb21<|qsk rfl hb21<|qsk rfl hb21<|qsk rfl hb21<|qsk rfl hb21<|qsk rfl hb21<|qsk rfl hb21 ?_
   refine qr (Ev.pickT rfl hb21 rfl) ?_
   exact Qt.meet true ⟨rfl,rfl,rfl,rfl,rfl,trivial⟩ (si H)
  refine qg hb21 (Ev.move rfl)<|qg hb21 (Ev.nilCheck rfl)<|qg hb21 (Ev.fo (22+a1.toNat * 2+0) rfl U45 rfl Z3 rfl rfl)<|qg hb21 (Ev.load (i:=4) rfl rfl I3 (v:=iv x12.Base) ((RWldR.get_Late (p:=T1) (Get.vecN (s:=2) rfl r15g (FromR.get_Base gh0))).off (by omega)))<|qg hb21 (Ev.move rfl)<|qg hb21 (Ev.nilCheck rfl)<|qg hb21 (Ev.fo (22+a1.toNat * 2+1) rfl U45 rfl Z43 rfl rfl)<|qg hb21 (Ev.load (i:=4) rfl rfl I43 (v:=Sl.v r15h1) ((RWldR.get_Late (p:=T1) (Get.vecN (s:=2) rfl r15g (FromR.get_Late gh0))).off (by omega)))<|qg hb21 (Ev.lenS (α:=Str) (xs:=x12.Late) (by decide) rfl rfl U43 (r15_f1.mono fl (sc4 (sc1 hM))))<|qg hb21 (Ev.add rfl rfl)<|qg hb21 (Ev.geq rfl rfl) ?_
  refine qr (Ev.pickF rfl hb21 rfl) ?_
  exact Qt.meet (decide ((w64 (x12.Base+(x12.Late.length:Int)))≥(16777215:Int))) ⟨rfl,rfl,rfl,rfl,rfl,trivial⟩ (si H)
 rintro y20 hy
 subst hy
 refine Qt.as (e':=[(0,pv ba0 0),(1,iv a1),(2,Str.v a2),(8,pv ba0 (22+a1.toNat * 2)),(49,.bool y20)]) ⟨rfl,rfl,rfl,rfl,rfl,trivial⟩ ?_
 replace H:=HKo19
 refine Qt.done<|At.then ?_
 rcases ic H with ⟨hb22,H⟩|⟨hb22,H⟩
 ·refine Cd.condT rfl hb22<|sr0<|as1 rfl<|nt0 ?_
  obtain rfl:=si H
  refine Cd.ret<|At.then_ret ?_
  exact At.ret1 rfl (Res.tmp rfl) fl rl ⟨sa0x9,ra0x3,ra0x4,ra0x5,ra0x6,rfl,rfl,ma0x3,(All.monoLR na0x3 fl rl),ma0x4,(All.monoTo na0x4 fl rl),ma0x5,(All.monoFrom na0x5 fl rl),ma0x6,(All.monoTo na0x6 fl rl)⟩
 refine Cd.condF rfl hb22<|Cd.skip<|At.then<|sr0<|mv1 rfl<|mv1 rfl<|lr (Ev.nilCheck rfl)<|lr (Ev.fo (22+a1.toNat * 2+1) rfl U45 rfl Z43 rfl rfl)<|lr (Ev.load (i:=4) rfl rfl I43 (v:=Sl.v r15h1) ((RWldR.get_Late (p:=T1) (Get.vecN (s:=2) rfl r15g (FromR.get_Late gh0))).off (by omega))) ?_
 obtain ⟨r23,h24,H⟩:=bs H
 refine cl rfl (vs:=[Sl.v r15h1]) ⟨rfl,trivial⟩ Tryz.call45 (slices_Clone_string_string_sim h24 w0 _ M _ (sc4 (sc1 hM)) (r15_f1.mono fl rl)) (fun F27 L' v hF28 hv=>?_)
 obtain ⟨s25,rfl,rfl⟩:=hv
 refine mv1 rfl ?_
 refine Lst.buildSlice (α:=Str) (xs:=([a2]:List Str)) (pv:=[(0,Str.v a2)]) rfl rfl (by decide) ⟨rfl,rfl,trivial⟩ (run_buildSlice (α:=Str) (z0:=([]:Str)) (xs:=([a2]:List Str)) U43 Z9 Tryz.zeroValue9 rfl rfl rfl (by decide) rfl (fill_one rfl rfl)) rfl rfl (by decide) (fun s29 _=>?_)
 obtain ⟨u31,h32,H⟩:=bs H
 refine Lst.append (i:=1) (α:=Str) (xs:=r23) (ys:=([a2]:List Str)) rfl rfl (by decide) rfl rfl U43 Tryz.typeInfo9 rfl rfl rfl rfl rfl rfl (rdo 0 rfl rfl rfl) rfl (room_some h32) rfl (fun s33=>?_)
 let T4:=FromR.mk ({x12 with Late:=r23++([a2]:List Str)}:From) s33
 let T0:=ra0x5.setIfInBounds a1.toNat T4
 refine lr (Ev.nilCheck rfl)<|lr (Ev.fo (22+a1.toNat * 2+1) rfl U45 rfl Z43 rfl rfl) ?_
 obtain ⟨p38,h39,H⟩:=Let_some H
 let T2:=RWldR.mk ({a0 with Late:=p38}:RWld) (some qa0x2) ra0x3 ra0x4 T0 ra0x6 sa0x7 sa0x8 sa0x9
 refine Lst.freeze (i:=1) rfl (fun F34 hF35 hz36=>?_)
 have hq37:Rd w0 F34 [] s33 (r23++([a2]:List Str)):=Rd.frozen hz36 rfl rfl
 have hm40:T0.toList.map FromR.v=p38.toList:=(vmap_set ma0x5 _ _).trans (congrArg Vector.toList h39)
 have ha41:All FromR.rel w0 F34 M T0.toList:=vAll_set (All.monoFrom na0x5 (ft hF28 hF35) rl) ((hq37.mono fl nsl))
 refine lst 5 rfl rfl rfl Z43 (vs:=[Sl.v s33]) rfl rfl rfl (cs':=enc T2) ((RWldR.put_Late (l:=p38) (Put.vecN (s:=2) (y:=T4) rfl r15g (FromR.put_Late (l:=(r23++([a2]:List Str))) (Put.here (vs:=[Sl.v s33]) rfl)))).off (by omega)) rfl<|nt0<|Cd.seq<|Cd.tail 17 (by kernel_rfl) (by kernel_rfl)<|qr (Ev.move rfl)<|qr (Ev.move rfl)<|qr (Ev.move rfl) ?_
 obtain ⟨r42,h43,H⟩:=bs H
 refine Qt.call rfl rfl (by decide) (vs:=[pv ba0 0]) ⟨rfl,trivial⟩ Tryz.call73 (Ok.isPerm (List.Perm.trans (front_perm (i:=5) rfl) (List.Perm.trans (front_perm (i:=5) rfl) (List.Perm.trans (front_perm (i:=5) rfl) (List.Perm.trans (front_perm (i:=5) rfl) (front_perm (i:=5) rfl))))) (partref_World_lead_sim h43 w0 _ M _ (sc1 hM) ma0x3 (All.monoLR na0x3 (ft hF28 hF35) rl) ma0x4 (All.monoTo na0x4 (ft hF28 hF35) rl) hm40 (All.monoFrom ha41 fl rl) ma0x6 (All.monoTo na0x6 (ft hF28 hF35) rl)))<|qr (Ev.move rfl)<|qr (Ev.nilCheck rfl)<|qr (Ev.fo (22+a1.toNat * 2+0) rfl U45 rfl Z3 rfl rfl) ?_
 obtain ⟨x46,h47,H⟩:=bs H
 have g48:=vat_some h47
 obtain ⟨⟨r49v,r49h1⟩,r49g,r49e,r49m,r49l⟩:=vmap_get hm40 g48.2.2
 obtain rfl:x46=r49v:=r49e.symm
 have r49q:FromR.rel w0 _ _ (FromR.mk x46 r49h1):=ha41 _ r49m
 have r49_f1:Rd w0 _ _ _ _:=r49q
 refine qr (Ev.load (i:=5) rfl rfl I3 (v:=iv x46.Base) ((RWldR.get_Late (p:=T2) (Get.vecN (s:=2) rfl r49g (FromR.get_Base gh0))).off (by omega)))<|qr (Ev.move rfl)<|qr (Ev.nilCheck rfl)<|qr (Ev.fo (22+a1.toNat * 2+1) rfl U45 rfl Z43 rfl rfl) ?_
 obtain ⟨x50,h51,H⟩:=bs H
 let T3:=({Note.zero with Kind:=(1:Int),From:=a1,To:=r42,Seq:=w64 ((w64 (x46.Base+(x50.Late.length:Int))) - (1:Int)),Text:=a2}:Note)
 have g52:=vat_some h51
 obtain ⟨⟨r53v,r53h1⟩,r53g,r53e,r53m,r53l⟩:=vmap_get hm40 g52.2.2
 obtain rfl:x50=r53v:=r53e.symm
 have r53q:FromR.rel w0 _ _ (FromR.mk x50 r53h1):=ha41 _ r53m
 have r53_f1:Rd w0 _ _ _ _:=r53q
 refine qr (Ev.load (i:=5) rfl rfl I43 (v:=Sl.v r53h1) ((RWldR.get_Late (p:=T2) (Get.vecN (s:=2) rfl r53g (FromR.get_Late gh0))).off (by omega)))<|qr (Ev.lenS (α:=Str) (xs:=x50.Late) (by decide) rfl rfl U43 (r53_f1.mono fl (sc4 (sc2 hM))))<|qr (Ev.add rfl rfl)<|qr (Ev.sub rfl rfl)<|qr (Ev.move rfl)<|qr (Ev.build (v:=.agg (enc T3).toArray) (pv:=[(0,iv (1:Int)),(1,iv a1),(2,iv r42),(4,iv (w64 ((w64 (x46.Base+(x50.Late.length:Int))) - (1:Int)))),(6,Str.v a2)]) ⟨rfl,rfl,⟨rfl,rfl,⟨rfl,rfl,⟨rfl,rfl,⟨rfl,rfl,trivial⟩⟩⟩⟩⟩ (fun w=>by kernel_rfl))<|Qt.tail ?_
 obtain ⟨r54,h55,H⟩:=bs H
 refine lf 5 rfl<|lf 5 rfl<|lf 5 rfl<|lf 5 rfl<|lf 5 rfl ?_
 refine cl rfl (vs:=[pv ba0 0,.agg (enc T3).toArray]) ⟨rfl,rfl,trivial⟩ Tryz.call72 (partref_World_send_sim h55 w0 _ M _ (sc1 hM) ma0x3 (All.monoLR na0x3 (ft hF28 hF35) rl) ma0x4 (All.monoTo na0x4 (ft hF28 hF35) rl) hm40 (All.monoFrom ha41 fl rl) ma0x6 (All.monoTo na0x6 (ft hF28 hF35) rl)) (fun F69 L' v hF70 hv=>?_)
 obtain ⟨s56,rs57,rs60,rs63,rs66,rfl,rfl,fm58,fa59,fm61,fa62,fm64,fa65,fm67,fa68⟩:=hv
 refine nsr<|as1 rfl<|nt0 ?_
 obtain rfl:=si H
 refine Cd.ret ?_
 exact At.ret1 rfl (Res.tmp rfl) (ft (ft hF28 hF35) hF70) (sk1 (sk4 (sc1 rl))) ⟨s56,rs57,rs60,rs63,rs66,rfl,rfl,fm58,(All.monoLR fa59 fl rl),fm61,(All.monoTo fa62 fl rl),fm64,(All.monoFrom fa65 fl rl),fm67,(All.monoTo fa68 fl rl)⟩
theorem partref_World_Again_sim {fu:Nat} {a0:RWld} {a1:Int} {ba0:Nat} {qa0x2:Nat} {ra0x3:Vector (LR Saying) 6} {ra0x4:Vector ToR 6} {ra0x5:Vector FromR 6} {ra0x6:Vector ToR 6} {sa0x7:Sl} {sa0x8:Sl} {sa0x9:Sl} {r:(List Note)×RWld×Int} (H:partref_World_Again fu a0 a1=some r) (w0:World) (F:Frz) (M L:List Item) (hM:M.Sublist L) (ma0x3:ra0x3.toList.map LR.v=a0.Logs.toList) (na0x3:All LR.rel w0 F M ra0x3.toList) (ma0x4:ra0x4.toList.map ToR.v=a0.want.toList) (na0x4:All ToR.rel w0 F M ra0x4.toList) (ma0x5:ra0x5.toList.map FromR.v=a0.Late.toList) (na0x5:All FromR.rel w0 F M ra0x5.toList) (ma0x6:ra0x6.toList.map ToR.v=a0.in_.toList) (na0x6:All ToR.rel w0 F M ra0x6.toList):Ok Tryz.prog w0 39 [pv ba0 0,iv a1] F ((mii qa0x2 a0.gone)::(.own sa0x7 9 1 (encs a0.order))::(.own sa0x8 198 2 (encs a0.marks))::(.own sa0x9 132 12 (encs a0.WayNotes))::(.blk ba0 (enc (RWldR.mk a0 (some qa0x2) ra0x3 ra0x4 ra0x5 ra0x6 sa0x7 sa0x8 sa0x9)) 50)::L) (fun Fx L' v=>∃ (s6:Sl) (rs7:Vector (LR Saying) 6) (rs10:Vector ToR 6) (rs13:Vector FromR 6) (rs16:Vector ToR 6),v=iv r.2.2∧L'=(mii qa0x2 a0.gone)::(.own sa0x7 9 1 (encs a0.order))::(.own sa0x8 198 2 (encs a0.marks))::(.own s6 132 12 (encs r.1))::(.blk ba0 (enc (RWldR.mk ({r.2.1 with gone:=a0.gone,order:=a0.order,marks:=a0.marks,WayNotes:=r.1}:RWld) (some qa0x2) rs7 rs10 rs13 rs16 sa0x7 sa0x8 s6)) 50)::L∧rs7.toList.map LR.v=r.2.1.Logs.toList∧All LR.rel w0 Fx M rs7.toList∧rs10.toList.map ToR.v=r.2.1.want.toList∧All ToR.rel w0 Fx M rs10.toList∧rs13.toList.map FromR.v=r.2.1.Late.toList∧All FromR.rel w0 Fx M rs13.toList∧rs16.toList.map ToR.v=r.2.1.in_.toList∧All ToR.rel w0 Fx M rs16.toList):=by
 unfold partref_World_Again at H
 refine Ok.enter (m:=2) (n:=59) Tryz.func39 rfl rfl rfl (by decide)<|Cd.env (e':=[(0,pv ba0 0),(1,iv a1)]) rfl<|sr0<|as1 rfl<|nt0<|Cd.seq<|sr0<|mv1 rfl<|mv1 rfl ?_
 obtain ⟨r6,h7,H⟩:=bs H
 refine cl1 rfl (vs:=[pv ba0 0,iv a1]) ⟨rfl,rfl,trivial⟩ Tryz.call71 (partref_World_whoErr_sim h7 w0 _ M _ hM ma0x3 (All.monoLR na0x3 fl rl) ma0x4 (All.monoTo na0x4 fl rl) ma0x5 (All.monoFrom na0x5 fl rl) ma0x6 (All.monoTo na0x6 fl rl))<|as1 rfl<|nsr<|mv1 rfl<|lr (Ev.neq rfl rfl)<|nt0 ?_
 rcases ic H with ⟨hb10,H⟩|⟨hb10,H⟩
 ·refine Cd.condT rfl hb10<|sr0<|mv1 rfl<|as1 rfl<|nt0 ?_
  obtain rfl:=si H
  refine Cd.ret<|At.then_ret ?_
  exact At.ret1 rfl (Res.tmp rfl) fl rl ⟨sa0x9,ra0x3,ra0x4,ra0x5,ra0x6,rfl,rfl,ma0x3,(All.monoLR na0x3 fl rl),ma0x4,(All.monoTo na0x4 fl rl),ma0x5,(All.monoFrom na0x5 fl rl),ma0x6,(All.monoTo na0x6 fl rl)⟩
 refine Cd.condF rfl hb10<|Cd.skip<|At.then<|Cd.seq<|sr0<|mv1 rfl<|mv1 rfl<|lr (Ev.nilCheck rfl)<|lr (Ev.fo 22 rfl U50 rfl Z46 rfl rfl) ?_
 obtain ⟨x11,h12,H⟩:=bs H
 have g13:=vat_some h12
 obtain ⟨⟨r14v,r14h1⟩,r14g,r14e,r14m,r14l⟩:=vmap_get ma0x5 g13.2.2
 obtain rfl:x11=r14v:=r14e.symm
 have r14q:FromR.rel w0 _ _ (FromR.mk x11 r14h1):=na0x5 _ r14m
 have r14_f1:Rd w0 _ _ _ _:=r14q
 refine lr (Ev.indexAddr (off':=22+a1.toNat * 2) rfl rfl U46 Z45 g13.1 g13.2.1 rfl)<|lr (Ev.fo (22+a1.toNat * 2+1) rfl U45 rfl Z43 rfl rfl)<|lr (Ev.load (i:=4) rfl rfl I43 (v:=Sl.v r14h1) ((RWldR.get_Late (p:=(RWldR.mk a0 (some qa0x2) ra0x3 ra0x4 ra0x5 ra0x6 sa0x7 sa0x8 sa0x9)) (Get.vecN (s:=2) rfl r14g (FromR.get_Late gh0))).off (by omega)))<|lr (Ev.lenS (α:=Str) (xs:=x11.Late) (by decide) rfl rfl U43 (r14_f1.mono fl (sc4 (sc1 hM))))<|mv1 rfl<|nt0<|Cd.block ?_
 refine Cd.bound (Rd.le (α:=Str) (xs:=x11.Late) (by decide) (r14_f1.mono fl (sc4 (sc1 hM)))) (fun hN87=>?_)
 obtain ⟨ol15,H,HKl15⟩:=bs H
 refine Cd.loop (σ:=Nat×Nat×RWld×(Vector (LR Saying) 6)×(Vector ToR 6)×(Vector FromR 6)×(Vector ToR 6)×Sl×(List Note)) (fun (i15,k15,y16,rs17,rs20,rs23,rs26,s29,l30)=>[(0,pv ba0 0),(1,iv a1),(20,Sl.v r14h1),(21,iv (x11.Late.length:Int)),(22,iv (i15:Int))]) (fun (i15,k15,y16,rs17,rs20,rs23,rs26,s29,l30)=>(mii qa0x2 a0.gone)::(.own sa0x7 9 1 (encs a0.order))::(.own sa0x8 198 2 (encs a0.marks))::(.own s29 132 12 (encs l30))::(.blk ba0 (enc (RWldR.mk ({y16 with gone:=a0.gone,order:=a0.order,marks:=a0.marks,WayNotes:=l30}:RWld) (some qa0x2) rs17 rs20 rs23 rs26 sa0x7 sa0x8 s29)) 50)::L) (fun Fx=>(fun (i15,k15,y16,rs17,rs20,rs23,rs26,s29,l30)=>rangeF (partref_World_Again_B0 fu a0 a1 x11) k15 i15 (y16,l30)=some ol15∧i15+k15=x11.Late.length∧rs17.toList.map LR.v=y16.Logs.toList∧All LR.rel w0 Fx M rs17.toList∧rs20.toList.map ToR.v=y16.want.toList∧All ToR.rel w0 Fx M rs20.toList∧rs23.toList.map FromR.v=y16.Late.toList∧All FromR.rel w0 Fx M rs23.toList∧rs26.toList.map ToR.v=y16.in_.toList∧All ToR.rel w0 Fx M rs26.toList)) (fun (i15,k15,y16,rs17,rs20,rs23,rs26,s29,l30)=>k15) (0,x11.Late.length,a0,ra0x3,ra0x4,ra0x5,ra0x6,sa0x9,a0.WayNotes) ⟨rfl,rfl,rfl,rfl,rfl,trivial⟩ rfl ⟨H,by omega,ma0x3,(All.monoLR na0x3 fl rl),ma0x4,(All.monoTo na0x4 fl rl),ma0x5,(All.monoFrom na0x5 fl rl),ma0x6,(All.monoTo na0x6 fl rl)⟩ ?_
 rintro F31 ⟨i15,k15,y16,rs17,rs20,rs23,rs26,s29,l30⟩ hF32 ⟨H,hik15,fm18,fa19,fm21,fa22,fm24,fa25,fm27,fa28⟩
 let T0:=({y16 with gone:=a0.gone,order:=a0.order,marks:=a0.marks,WayNotes:=l30}:RWld)
 rcases k15 with _ | k15
 ·have hc15:decide ((i15:Int) < (x11.Late.length:Int))=false:=decide_eq_false (by omega)
  replace H:=rangeF_end H
  refine sr0<|lr (Ev.lss rfl rfl)<|nt0<|Cd.seq<|Cd.condF rfl hc15<|Cd.exit<|At.then_exit<|At.then_exit<|At.in_exit ?_
  subst H
  replace H:=HKl15
  refine At.then<|Cd.seq<|Cd.tail 12 (by kernel_rfl) (by kernel_rfl)<|qr (Ev.move rfl)<|qr (Ev.move rfl)<|qr (Ev.move rfl) ?_
  obtain ⟨r62,h63,H⟩:=bs H
  refine Qt.call rfl rfl (by decide) (vs:=[pv ba0 0]) ⟨rfl,trivial⟩ Tryz.call73 (partref_World_lead_sim h63 w0 _ M _ hM fm18 (All.monoLR fa19 fl rl) fm21 (All.monoTo fa22 fl rl) fm24 (All.monoFrom fa25 fl rl) fm27 (All.monoTo fa28 fl rl))<|qr (Ev.move rfl)<|qr (Ev.move rfl)<|qr (Ev.nilCheck rfl)<|qr (Ev.fo 10 rfl U50 rfl Z42 rfl rfl) ?_
  obtain ⟨x66,h67,H⟩:=bs H
  let T2:=({Note.zero with Kind:=(3:Int),From:=a1,To:=r62,Seq:=x66.Next}:Note)
  have g68:=vat_some h67
  obtain ⟨⟨r69v,r69h1⟩,r69g,r69e,r69m,r69l⟩:=vmap_get fm21 g68.2.2
  obtain rfl:x66=r69v:=r69e.symm
  have r69q:ToR.rel w0 _ _ (ToR.mk x66 r69h1):=fa22 _ r69m
  have r69_f1:Rd w0 _ _ _ _:=r69q
  refine qr (Ev.indexAddr (off':=10+a1.toNat * 2) rfl rfl U42 Z41 g68.1 g68.2.1 rfl)<|qr (Ev.fo (10+a1.toNat * 2+0) rfl U41 rfl Z3 rfl rfl)<|qr (Ev.load (i:=4) rfl rfl I3 (v:=iv x66.Next) ((RWldR.get_want (p:=(RWldR.mk T0 (some qa0x2) rs17 rs20 rs23 rs26 sa0x7 sa0x8 s29)) (Get.vecN (s:=2) rfl r69g (ToR.get_Next gh0))).off (by omega)))<|qr (Ev.build (v:=.agg (enc T2).toArray) (pv:=[(0,iv (3:Int)),(1,iv a1),(2,iv r62),(4,iv x66.Next)]) ⟨rfl,rfl,⟨rfl,rfl,⟨rfl,rfl,⟨rfl,rfl,trivial⟩⟩⟩⟩ (fun w=>by kernel_rfl))<|Qt.tail ?_
  obtain ⟨r70,h71,H⟩:=bs H
  refine cl rfl (vs:=[pv ba0 0,.agg (enc T2).toArray]) ⟨rfl,rfl,trivial⟩ Tryz.call72 (partref_World_send_sim h71 w0 _ M _ hM fm18 (All.monoLR fa19 fl rl) fm21 (All.monoTo fa22 fl rl) fm24 (All.monoFrom fa25 fl rl) fm27 (All.monoTo fa28 fl rl)) (fun F85 L' v hF86 hv=>?_)
  obtain ⟨s72,rs73,rs76,rs79,rs82,rfl,rfl,fm74,fa75,fm77,fa78,fm80,fa81,fm83,fa84⟩:=hv
  refine nsr<|as1 rfl<|nt0 ?_
  obtain rfl:=si H
  refine Cd.ret ?_
  exact At.ret1 rfl (Res.tmp rfl) (ft hF32 hF86) rl ⟨s72,rs73,rs76,rs79,rs82,rfl,rfl,fm74,(All.monoLR fa75 fl rl),fm77,(All.monoTo fa78 fl rl),fm80,(All.monoFrom fa81 fl rl),fm83,(All.monoTo fa84 fl rl)⟩
 have hc15:decide ((i15:Int) < (x11.Late.length:Int))=true:=decide_eq_true (by omega)
 obtain ⟨c15,H,hgo15⟩:=rangeF_go H
 unfold partref_World_Again_B0 at H
 try dsimp only at H
 refine sr0<|lr (Ev.lss rfl rfl)<|nt0<|Cd.seq<|Cd.condT rfl hc15<|Cd.skip<|At.then<|Cd.seq<|Cd.block<|sr0<|mv1 rfl ?_
 obtain ⟨x33,h34,H⟩:=bs H
 have g35:=lat_some h34
 refine lr (Ev.indexS (α:=Str) (xs:=x11.Late) rfl rfl U43 Z9 rfl (by decide) (r14_f1.mono hF32 (sc4 (sc1 hM))) g35.1 g35.2.1)<|lr (Ev.loadS (α:=Str) rfl (r14_f1.mono hF32 (sc4 (sc1 hM))) I9 (v:=Str.v x33) ((Get.elemN (s:=1) (x:=x33) rfl g35.2.2 gh0).off (by omega)))<|as1 rfl<|as1 rfl<|nsr<|mv1 rfl<|lr (Ev.lss rfl rfl)<|nt0 ?_
 rcases ic2 H with ⟨hb36,H⟩|⟨hb36,H⟩
 ·refine Cd.condF rfl hb36<|Cd.skip<|At.in_normal<|At.then<|Cd.region<|lr (Ev.incr (by omega) rfl rfl)<|mv1 rfl<|Lst.nil ?_
  exact At.meet (i15+1,k15,T0,rs17,rs20,rs23,rs26,s29,l30) hF32 ⟨rfl,rfl,rfl,rfl,rfl,trivial⟩ rfl ⟨⟨hgo15 _ (sj H),by omega,fm18,(All.monoLR fa19 fl rl),fm21,(All.monoTo fa22 fl rl),fm24,(All.monoFrom fa25 fl rl),fm27,(All.monoTo fa28 fl rl)⟩,nls⟩
 refine Cd.condT rfl hb36<|Cd.tail 15 (by kernel_rfl) (by kernel_rfl)<|qr (Ev.move rfl)<|qr (Ev.move rfl)<|qr (Ev.move rfl) ?_
 obtain ⟨r37,h38,H⟩:=bs H
 refine Qt.call rfl rfl (by decide) (vs:=[pv ba0 0]) ⟨rfl,trivial⟩ Tryz.call73 (partref_World_lead_sim h38 w0 _ M _ hM fm18 (All.monoLR fa19 fl rl) fm21 (All.monoTo fa22 fl rl) fm24 (All.monoFrom fa25 fl rl) fm27 (All.monoTo fa28 fl rl))<|qr (Ev.move rfl)<|qr (Ev.move rfl)<|qr (Ev.nilCheck rfl)<|qr (Ev.fo 22 rfl U50 rfl Z46 rfl rfl) ?_
 obtain ⟨x41,h42,H⟩:=bs H
 let T1:=({Note.zero with Kind:=(1:Int),From:=a1,To:=r37,Seq:=w64 (x41.Base+(i15:Int)),Text:=x33}:Note)
 have g43:=vat_some h42
 obtain ⟨⟨r44v,r44h1⟩,r44g,r44e,r44m,r44l⟩:=vmap_get fm24 g43.2.2
 obtain rfl:x41=r44v:=r44e.symm
 have r44q:FromR.rel w0 _ _ (FromR.mk x41 r44h1):=fa25 _ r44m
 have r44_f1:Rd w0 _ _ _ _:=r44q
 refine qr (Ev.indexAddr (off':=22+a1.toNat * 2) rfl rfl U46 Z45 g43.1 g43.2.1 rfl)<|qr (Ev.fo (22+a1.toNat * 2+0) rfl U45 rfl Z3 rfl rfl)<|qr (Ev.load (i:=4) rfl rfl I3 (v:=iv x41.Base) ((RWldR.get_Late (p:=(RWldR.mk T0 (some qa0x2) rs17 rs20 rs23 rs26 sa0x7 sa0x8 s29)) (Get.vecN (s:=2) rfl r44g (FromR.get_Base gh0))).off (by omega)))<|qr (Ev.move rfl)<|qr (Ev.add rfl rfl)<|qr (Ev.move rfl)<|qr (Ev.build (v:=.agg (enc T1).toArray) (pv:=[(0,iv (1:Int)),(1,iv a1),(2,iv r37),(4,iv (w64 (x41.Base+(i15:Int)))),(6,Str.v x33)]) ⟨rfl,rfl,⟨rfl,rfl,⟨rfl,rfl,⟨rfl,rfl,⟨rfl,rfl,trivial⟩⟩⟩⟩⟩ (fun w=>by kernel_rfl))<|Qt.tail ?_
 obtain ⟨r45,h46,H⟩:=bs H
 refine cl rfl (vs:=[pv ba0 0,.agg (enc T1).toArray]) ⟨rfl,rfl,trivial⟩ Tryz.call72 (partref_World_send_sim h46 w0 _ M _ hM fm18 (All.monoLR fa19 fl rl) fm21 (All.monoTo fa22 fl rl) fm24 (All.monoFrom fa25 fl rl) fm27 (All.monoTo fa28 fl rl)) (fun F60 L' v hF61 hv=>?_)
 obtain ⟨s47,rs48,rs51,rs54,rs57,rfl,rfl,fm49,fa50,fm52,fa53,fm55,fa56,fm58,fa59⟩:=hv
 refine Lst.nil<|At.in_normal<|At.then<|Cd.region<|lr (Ev.incr (by omega) rfl rfl)<|mv1 rfl<|Lst.nil ?_
 exact At.meet (i15+1,k15,({r45.2 with gone:=a0.gone,order:=a0.order,marks:=a0.marks,WayNotes:=r45.1}:RWld),rs48,rs51,rs54,rs57,s47,r45.1) (ft hF32 hF61) ⟨rfl,rfl,rfl,rfl,rfl,trivial⟩ rfl ⟨⟨hgo15 _ (sj H),by omega,fm49,(All.monoLR fa50 fl rl),fm52,(All.monoTo fa53 fl rl),fm55,(All.monoFrom fa56 fl rl),fm58,(All.monoTo fa59 fl rl)⟩,nls⟩
theorem slices_Grow_api_Note_api_Note_sim {a1:Int} {r:(List Note)} (H:slices_Grow_api_Note_api_Note a1=some r) (w0:World) (F:Frz) (M L:List Item) (hM:M.Sublist L):Ok Tryz.prog w0 129 [Sl.v Sl.nil,iv a1] F (L) (fun _ L' v=>∃ (s1:Sl),v=Sl.v s1∧L'=(.own s1 132 12 (encs r))::L):=by
 unfold slices_Grow_api_Note_api_Note at H
 refine Ok.enter (m:=2) (n:=27) Tryz.func129 rfl rfl rfl (by decide)<|Cd.env (e':=[(0,Sl.v Sl.nil),(1,iv a1)]) rfl<|sr0<|Lst.addNil 132 12<|as1 rfl<|nt0<|Cd.seq<|sr0<|mv1 rfl<|lr (Ev.lss rfl rfl)<|nt0 ?_
 rcases ic H with ⟨hb2,H⟩|⟨hb2,H⟩
 ·cases H
 refine Cd.condF rfl hb2<|Cd.skip<|At.then ?_
 obtain ⟨o6,H,HKo6⟩:=bs H
 refine Cd.join (σ:=Sl×(List Note)) (fun (s3,l4)=>[(0,Sl.v s3)]) (fun (s3,l4)=>(.own s3 132 12 (encs l4))::(.own Sl.nil 132 12 (encs ([]:List Note)))::L) (fun _ (s3,l4)=>l4=o6) ?_ ?_
 ·refine sr0<|mv1 rfl<|mv1 rfl<|lr (Ev.capNil rfl rfl U48)<|mv1 rfl<|lr (Ev.lenNil rfl rfl U48)<|lr (Ev.sub rfl rfl)<|lr (Ev.sub rfl rfl)<|as1 rfl<|nsr<|mv1 rfl ?_
  refine lr (Ev.gtr rfl rfl)<|nt0 ?_
  rcases ic2 H with ⟨hb7,H⟩|⟨hb7,H⟩
  ·refine Cd.condF rfl hb7<|Cd.skip<|At.addNil 132 12 ?_
   exact At.meet (Sl.nil,([]:List Note)) fl ⟨rfl,trivial⟩ rfl (si H)
  refine Cd.condT rfl hb7<|Cd.region<|mv1 rfl<|mv1 rfl<|lr (Ev.capNil rfl rfl U48)<|lr (Ev.cutNil rfl rfl U48 Z132)<|mv1 rfl ?_
  obtain ⟨n10,h11,H⟩:=bs H
  have g12:=mkLen_some h11
  refine Lst.addNil 132 12 ?_
  refine Lst.appendZeros (α:=Note) (i:=0) (k:=n10) Note.zero rfl rfl (by decide) rfl (congrArg some (congrArg (Value.int .i64) g12.1)) U48 U3 Tryz.typeInfo132 rfl rfl rfl rfl rfl g12.2 rfl rfl (fun s13=>?_)
  refine mv1 rfl<|lr (Ev.lenNil rfl rfl U48) ?_
  obtain ⟨m14,h15,H⟩:=bs H
  obtain ⟨g16,gl17⟩:=cutL_some h15
  try dsimp only at g16
  refine lr (Ev.cut (α:=Note) (xs:=(List.replicate n10 Note.zero)) (i:=0) (j:=(0:Int)) rfl rfl rfl U48 Z132 rfl (by decide) (rdo 0 rfl rfl rfl) g16.1 g16.2.1 g16.2.2)<|Lst.cutOwn (i:=0) (α:=Note) (lo:=(0:Int).toNat) (hi:=((0:Int):Int).toNat) rfl rfl rfl (by decide) (by omega) (by omega) (L':=(.own (s13.cut (0:Int).toNat ((0:Int):Int).toNat 12) 132 12 (encs m14))::(.own Sl.nil 132 12 (encs ([]:List Note)))::L) (by subst gl17; rfl)<|as1 rfl<|Lst.nil ?_
  exact At.meet ((s13.cut (0:Int).toNat ((0:Int):Int).toNat 12),m14) fl ⟨rfl,trivial⟩ rfl (si H)
 rintro F19 ⟨s3,l4⟩ hF20 hy
 subst hy
 replace H:=HKo6
 refine sr0<|mv1 rfl<|as1 rfl<|nt0 ?_
 obtain rfl:=si H
 refine Cd.ret ?_
 exact At.ret1 rfl (Res.tmp rfl) hF20 (sk1 (sc1 rl)) ⟨s3,rfl,rfl⟩
theorem slices_Concat_api_Note_api_Note_sim {a0:List (List Note)} {sa0:Sl} {ra0:List (LR Note)} {r:(List Note)} (H:slices_Concat_api_Note_api_Note a0=some r) (w0:World) (F:Frz) (M L:List Item) (hM:M.Sublist L) (ma0:ra0.map LR.v=a0) (pa0:Rd w0 F M sa0 ra0) (na0:All LR.rel w0 F M ra0):Ok Tryz.prog w0 74 [Sl.v sa0] F (L) (fun _ L' v=>∃ (s1:Sl),v=Sl.v s1∧L'=(.own s1 132 12 (encs r))::L):=by
 unfold slices_Concat_api_Note_api_Note at H
 refine Ok.enter (m:=1) (n:=36) Tryz.func74 rfl rfl rfl (by decide)<|Cd.env (e':=[(0,Sl.v sa0)]) rfl<|sr0<|Lst.addNil 132 12<|as1 rfl<|nsr<|as1 rfl<|nt0<|Cd.seq<|sr0<|mv1 rfl ?_
 refine lr (Ev.lenM (map_len ma0) (Ev.lenS (α:=LR Note) (xs:=ra0) (by decide) rfl rfl U193 (pa0.mono fl (sc1 hM))))<|mv1 rfl<|nt0<|Cd.block ?_
 refine Cd.bound (Rd.le (α:=LR Note) (xs:=ra0) (by decide) (pa0.mono fl (sc1 hM))) (fun hN32=>?_)
 rw [map_len ma0] at hN32
 obtain ⟨ol3,H,HKl3⟩:=bs H
 refine Cd.loop (σ:=Nat×Nat×Int) (fun (i3,k3,y4)=>[(0,Sl.v sa0),(3,iv y4),(9,Sl.v sa0),(10,iv (a0.length:Int)),(11,iv (i3:Int))]) (fun (i3,k3,y4)=>(.own Sl.nil 132 12 (encs ([]:List Note)))::L) (fun _=>(fun (i3,k3,y4)=>rangeF (slices_Concat_api_Note_api_Note_B0 a0) k3 i3 y4=some ol3∧i3+k3=a0.length)) (fun (i3,k3,y4)=>k3) (0,a0.length,(0:Int)) ⟨rfl,rfl,rfl,rfl,rfl,trivial⟩ rfl ⟨H,by omega⟩ ?_
 rintro F5 ⟨i3,k3,y4⟩ hF6 ⟨H,hik3⟩
 rcases k3 with _ | k3
 ·have hc3:decide ((i3:Int) < (a0.length:Int))=false:=decide_eq_false (by omega)
  replace H:=rangeF_end H
  refine sr0<|lr (Ev.lss rfl rfl)<|nt0<|Cd.seq<|Cd.condF rfl hc3<|Cd.exit<|At.then_exit<|At.then_exit<|At.in_exit ?_
  subst H
  replace H:=HKl3
  refine At.then<|sr0<|mv1 rfl ?_
  obtain ⟨r12,h13,H⟩:=bs H
  refine cl rfl (vs:=[Sl.v Sl.nil,iv y4]) ⟨rfl,rfl,trivial⟩ Tryz.call129 (slices_Grow_api_Note_api_Note_sim h13 w0 _ M _ (sc1 hM)) (fun F16 L' v hF17 hv=>?_)
  obtain ⟨s14,rfl,rfl⟩:=hv
  refine as1 rfl<|nt0<|Cd.seq<|sr0<|mv1 rfl<|lr (Ev.lenM (map_len ma0) (Ev.lenS (α:=LR Note) (xs:=ra0) (by decide) rfl rfl U193 (pa0.mono (ft hF6 hF17) (sc2 hM))))<|mv1 rfl<|nt0<|Cd.block ?_
  refine Cd.bound (Rd.le (α:=LR Note) (xs:=ra0) (by decide) (pa0.mono (ft hF6 hF17) (sc2 hM))) (fun hN31=>?_)
  rw [map_len ma0] at hN31
  obtain ⟨ol19,H,HKl19⟩:=bs H
  refine Cd.loop (σ:=Nat×Nat×Sl×(List Note)) (fun (i19,k19,s20,l21)=>[(6,Sl.v s20),(25,Sl.v sa0),(26,iv (a0.length:Int)),(27,iv (i19:Int))]) (fun (i19,k19,s20,l21)=>(.own s20 132 12 (encs l21))::(.own Sl.nil 132 12 (encs ([]:List Note)))::L) (fun _=>(fun (i19,k19,s20,l21)=>rangeF (slices_Concat_api_Note_api_Note_B2 a0) k19 i19 l21=some ol19∧i19+k19=a0.length)) (fun (i19,k19,s20,l21)=>k19) (0,a0.length,s14,r12) ⟨rfl,rfl,rfl,rfl,trivial⟩ rfl ⟨H,by omega⟩ ?_
  rintro F22 ⟨i19,k19,s20,l21⟩ hF23 ⟨H,hik19⟩
  let T0:=ft (ft hF6 hF17) hF23
  rcases k19 with _ | k19
  ·have hc19:decide ((i19:Int) < (a0.length:Int))=false:=decide_eq_false (by omega)
   replace H:=rangeF_end H
   refine sr0<|lr (Ev.lss rfl rfl)<|nt0<|Cd.seq<|Cd.condF rfl hc19<|Cd.exit<|At.then_exit<|At.then_exit<|At.in_exit ?_
   subst H
   replace H:=HKl19
   refine At.then<|sr0<|mv1 rfl<|as1 rfl<|nt0 ?_
   obtain rfl:=si H
   refine Cd.ret ?_
   exact At.ret1 rfl (Res.tmp rfl) T0 (sk1 (sc1 rl)) ⟨s20,rfl,rfl⟩
  have hc19:decide ((i19:Int) < (a0.length:Int))=true:=decide_eq_true (by omega)
  obtain ⟨c19,H,hgo19⟩:=rangeF_go H
  unfold slices_Concat_api_Note_api_Note_B2 at H
  try dsimp only at H
  refine sr0<|lr (Ev.lss rfl rfl)<|nt0<|Cd.seq<|Cd.condT rfl hc19<|Cd.skip<|At.then<|Cd.seq<|Cd.block<|sr0 ?_
  obtain ⟨x24,h25,H⟩:=bs H
  have g26:=lat_some h25
  obtain ⟨⟨r27v,r27h⟩,r27g,r27e,r27m⟩:=map_get ma0 g26.2.2
  obtain rfl:x24=r27v:=r27e.symm
  have r27q:Rd w0 _ _ r27h x24:=na0 _ r27m
  refine lr (Ev.indexS (α:=LR Note) (xs:=ra0) rfl rfl U193 Z48 rfl (by decide) (pa0.mono T0 (sc2 hM)) g26.1 (by have:=map_len ma0; omega))<|lr (Ev.loadS (α:=LR Note) rfl (pa0.mono T0 (sc2 hM)) I48 (v:=Sl.v r27h) ((Get.elemN (s:=1) rfl r27g gh0).off (by omega)))<|as1 rfl<|nt0<|Cd.region<|mv1 rfl<|mv1 rfl ?_
  obtain ⟨u28,h29,H⟩:=bs H
  refine Lst.append (i:=0) (α:=Note) (xs:=l21) (ys:=x24) rfl rfl (by decide) rfl rfl U48 Tryz.typeInfo132 rfl rfl rfl rfl rfl rfl (r27q.mono T0 (sc2 hM)) rfl (room_some h29) rfl (fun s30=>?_)
  refine as1 rfl<|Lst.nil<|At.in_normal<|At.then<|Cd.region<|lr (Ev.incr (by omega) rfl rfl)<|mv1 rfl<|Lst.nil ?_
  exact At.meet (i19+1,k19,s30,l21++x24) hF23 ⟨rfl,rfl,rfl,rfl,trivial⟩ rfl ⟨⟨hgo19 _ (sj H),by omega⟩,nls⟩
 have hc3:decide ((i3:Int) < (a0.length:Int))=true:=decide_eq_true (by omega)
 obtain ⟨c3,H,hgo3⟩:=rangeF_go H
 unfold slices_Concat_api_Note_api_Note_B0 at H
 try dsimp only at H
 refine sr0<|lr (Ev.lss rfl rfl)<|nt0<|Cd.seq<|Cd.condT rfl hc3<|Cd.skip<|At.then<|Cd.seq<|Cd.block<|sr0 ?_
 obtain ⟨x7,h8,H⟩:=bs H
 have g9:=lat_some h8
 obtain ⟨⟨r10v,r10h⟩,r10g,r10e,r10m⟩:=map_get ma0 g9.2.2
 obtain rfl:x7=r10v:=r10e.symm
 have r10q:Rd w0 _ _ r10h x7:=na0 _ r10m
 refine lr (Ev.indexS (α:=LR Note) (xs:=ra0) rfl rfl U193 Z48 rfl (by decide) (pa0.mono hF6 (sc1 hM)) g9.1 (by have:=map_len ma0; omega))<|lr (Ev.loadS (α:=LR Note) rfl (pa0.mono hF6 (sc1 hM)) I48 (v:=Sl.v r10h) ((Get.elemN (s:=1) rfl r10g gh0).off (by omega)))<|as1 rfl<|nsr<|mv1 rfl<|mv1 rfl<|lr (Ev.lenS (α:=Note) (xs:=x7) (by decide) rfl rfl U48 (r10q.mono hF6 (sc1 hM)))<|lr (Ev.add rfl rfl)<|as1 rfl<|nsr<|mv1 rfl ?_
 refine lr (Ev.lss rfl rfl)<|nt0 ?_
 rcases ic H with ⟨hb11,H⟩|⟨hb11,H⟩
 ·cases H
 refine Cd.condF rfl hb11<|Cd.skip<|At.in_normal<|At.then<|Cd.region<|lr (Ev.incr (by omega) rfl rfl)<|mv1 rfl<|Lst.nil ?_
 exact At.meet (i3+1,k3,w64 (y4+(x7.length:Int))) hF6 ⟨rfl,rfl,rfl,rfl,rfl,trivial⟩ rfl ⟨⟨hgo3 _ (sj H),by omega⟩,nls⟩
theorem partref_TakeParcel_sim {fu:Nat} {a0:To} {a1:Parcel} {sa0x1:Sl} {r:To×(List Str)} (H:partref_TakeParcel fu a0 a1=some r) (w0:World) (F:Frz) (M L:List Item) (hM:M.Sublist L) (pa0x1:Rd w0 F M sa0x1 a0.Early):Ok Tryz.prog w0 130 [.agg (enc (ToR.mk a0 sa0x1)).toArray,.agg (enc a1).toArray] F (L) (fun _ L' v=>∃ (s1:Sl) (s3:Sl),v=.tuple #[.agg (enc (ToR.mk r.1 s1)).toArray,Sl.v s3]∧L'=(.own s1 146 2 (encs r.1.Early))::(.own s3 9 1 (encs r.2))::L):=by
 let T4:=({To.zero with Next:=a0.Next}:To)
 let T2:Item:=.own Sl.nil 146 2 (encs ([]:List Parcel))
 let T0:=ToR.mk ({To.zero with Early:=([]:List Parcel)}:To) Sl.nil
 unfold partref_TakeParcel at H
 refine Ok.enter (m:=2) (n:=108) Tryz.func130 rfl rfl rfl (by decide)<|Cd.env (e':=[(0,.agg (enc (ToR.mk a0 sa0x1)).toArray),(1,.agg (enc a1).toArray)]) rfl<|sr0 ?_
 refine Lst.box rfl rfl (by decide) rfl (cs:=enc (ToR.mk a0 sa0x1)) rfl (fun b1=>?_)
 let T3:Item:=.blk b1 (enc (ToR.mk a0 sa0x1)) 41
 refine Lst.box rfl rfl (by decide) rfl (cs:=enc a1) rfl (fun b3=>?_)
 refine Lst.addNil 146 2 ?_
 refine Lst.alloc (cs:=enc T0) rfl rfl (by decide) Tryz.zeroValue41 rfl (fun b6=>?_)
 refine Lst.addNil 9 1<|as1 rfl<|nsr ?_
 refine Lst.makeMap (fun x:Int=>(iv x:Value)) (fun x:Str=>(Str.v x:Value)) rfl rfl (by decide) (fun b9=>?_)
 refine as1 rfl<|nt0<|Cd.seq<|sr0<|lr (Ev.fo 1 rfl U41 rfl Z39 rfl rfl)<|lr (Ev.load (i:=5) rfl rfl I39 (v:=Sl.v sa0x1) ((ToR.get_Early gh0).off rfl))<|lr (Ev.lenS (α:=Parcel) (xs:=a0.Early) (by decide) rfl rfl U39 (pa0x1.mono fl (sc4 (sc2 hM))))<|mv1 rfl<|nt0<|Cd.block ?_
 refine Cd.bound (Rd.le (α:=Parcel) (xs:=a0.Early) (by decide) (pa0x1.mono fl (sc4 (sc2 hM)))) (fun hN87=>?_)
 obtain ⟨ol11,H,HKl11⟩:=bs H
 refine Cd.loop (σ:=Nat×Nat×(List (Int×Str))) (fun (i11,k11,l12)=>[(2,pv b1 0),(3,pv b3 0),(4,pv b6 0),(6,.map (some b9)),(20,Sl.v sa0x1),(21,iv (a0.Early.length:Int)),(22,iv (i11:Int))]) (fun (i11,k11,l12)=>(mitem b9 (fun x:Int=>(iv x:Value)) (fun x:Str=>(Str.v x:Value)) l12)::(.own Sl.nil 9 1 (encs ([]:List Str)))::(.blk b6 (enc T0) 41)::T2::(.blk b3 (enc a1) 146)::T3::L) (fun _=>(fun (i11,k11,l12)=>rangeF (partref_TakeParcel_B0 a0) k11 i11 l12=some ol11∧i11+k11=a0.Early.length)) (fun (i11,k11,l12)=>k11) (0,a0.Early.length,([]:List (Int×Str))) ⟨rfl,rfl,rfl,rfl,rfl,rfl,rfl,trivial⟩ rfl ⟨H,by omega⟩ ?_
 rintro F13 ⟨i11,k11,l12⟩ hF14 ⟨H,hik11⟩
 rcases k11 with _ | k11
 ·have hc11:decide ((i11:Int) < (a0.Early.length:Int))=false:=decide_eq_false (by omega)
  replace H:=rangeF_end H
  refine sr0<|lr (Ev.lss rfl rfl)<|nt0<|Cd.seq<|Cd.condF rfl hc11<|Cd.exit<|At.then_exit<|At.then_exit<|At.in_exit ?_
  subst H
  replace H:=HKl11
  refine At.then ?_
  obtain ⟨o23,H,HKo23⟩:=bs H
  refine Cd.join (σ:=(List (Int×Str))) (fun l22=>[(2,pv b1 0),(4,pv b6 0),(6,.map (some b9))]) (fun l22=>(mitem b9 (fun x:Int=>(iv x:Value)) (fun x:Str=>(Str.v x:Value)) l22)::(.own Sl.nil 9 1 (encs ([]:List Str)))::(.blk b6 (enc T0) 41)::T2::(.blk b3 (enc a1) 146)::T3::L) (fun _ l22=>l22=o23) ?_ ?_
  ·refine sr0<|mv1 rfl<|lr (Ev.fo 0 rfl U146 rfl Z3 rfl rfl)<|lr (Ev.load (i:=4) rfl rfl I3 (v:=iv a1.Seq) ((Parcel.get_Seq gh0).off rfl))<|lr (Ev.lookup2 (i:=0) (kf:=(fun x:Int=>(iv x:Value))) (vf:=(fun x:Str=>(Str.v x:Value))) (m:=l12) (k:=a1.Seq) (z0:=([]:Str)) rfl rfl rfl (KeyOk.int U3) U259 Tryz.zeroValue9)<|mv1 rfl<|lr (Ev.extract rfl rfl)<|lr (Ev.extract rfl rfl)<|as1 rfl<|as1 rfl<|nsr ?_
   refine mv1 rfl<|lr (Ev.not rfl)<|mv1 rfl ?_
   obtain ⟨o24,H,HKo24⟩:=bs H
   refine Lst.join (σ:=Bool) 6 (fun y25=>[(2,pv b1 0),(3,pv b3 0),(4,pv b6 0),(6,.map (some b9)),(47,.bool y25)]) (fun y25=>(mitem b9 (fun x:Int=>(iv x:Value)) (fun x:Str=>(Str.v x:Value)) l12)::(.own Sl.nil 9 1 (encs ([]:List Str)))::(.blk b6 (enc T0) 41)::T2::(.blk b3 (enc a1) 146)::T3::L) (fun _ y25=>y25=o24) ?_ ?_
   ·rcases ic2 H with ⟨hb26,H⟩|⟨hb26,H⟩
    ·refine lsk rfl hb26<|lsk rfl hb26<|lsk rfl hb26<|lsk rfl hb26<|lsk rfl hb26<|lr (Ev.pickF rfl hb26 rfl)<|Lst.nil ?_
     exact At.meet false fl ⟨rfl,rfl,rfl,rfl,rfl,trivial⟩ rfl (si H)
    refine lg hb26 (Ev.fo 0 rfl U146 rfl Z3 rfl rfl)<|lg hb26 (Ev.load (i:=4) rfl rfl I3 (v:=iv a1.Seq) ((Parcel.get_Seq gh0).off rfl))<|lg hb26 (Ev.fo 0 rfl U41 rfl Z3 rfl rfl)<|lg hb26 (Ev.load (i:=5) rfl rfl I3 (v:=iv a0.Next) ((ToR.get_Next gh0).off rfl))<|lg hb26 (Ev.geq rfl rfl)<|lr (Ev.pickT rfl hb26 rfl)<|Lst.nil ?_
    exact At.meet (decide (a1.Seq≥a0.Next)) fl ⟨rfl,rfl,rfl,rfl,rfl,trivial⟩ rfl (si H)
   rintro F27 y25 hF28 hy
   subst hy
   replace H:=HKo24
   refine mv1 rfl ?_
   obtain ⟨o29,H,HKo29⟩:=bs H
   refine Lst.join (σ:=Bool) 7 (fun y30=>[(2,pv b1 0),(3,pv b3 0),(4,pv b6 0),(6,.map (some b9)),(55,.bool y30)]) (fun y30=>(mitem b9 (fun x:Int=>(iv x:Value)) (fun x:Str=>(Str.v x:Value)) l12)::(.own Sl.nil 9 1 (encs ([]:List Str)))::(.blk b6 (enc T0) 41)::T2::(.blk b3 (enc a1) 146)::T3::L) (fun _ y30=>y30=o29) ?_ ?_
   ·rcases ic2 H with ⟨hb31,H⟩|⟨hb31,H⟩
    ·refine lsk rfl hb31<|lsk rfl hb31<|lsk rfl hb31<|lsk rfl hb31<|lsk rfl hb31<|lsk rfl hb31<|lr (Ev.pickF rfl hb31 rfl)<|Lst.nil ?_
     exact At.meet false fl ⟨rfl,rfl,rfl,rfl,rfl,trivial⟩ rfl (si H)
    refine lg hb31 (Ev.fo 0 rfl U146 rfl Z3 rfl rfl)<|lg hb31 (Ev.load (i:=4) rfl rfl I3 (v:=iv a1.Seq) ((Parcel.get_Seq gh0).off rfl))<|lg hb31 (Ev.fo 0 rfl U41 rfl Z3 rfl rfl)<|lg hb31 (Ev.load (i:=5) rfl rfl I3 (v:=iv a0.Next) ((ToR.get_Next gh0).off rfl))<|lg hb31 (Ev.add rfl rfl)<|lg hb31 (Ev.lss rfl rfl)<|lr (Ev.pickT rfl hb31 rfl)<|Lst.nil ?_
    exact At.meet (decide (a1.Seq < (w64 (a0.Next+(16:Int))))) fl ⟨rfl,rfl,rfl,rfl,rfl,trivial⟩ rfl (si H)
   rintro F32 y30 hF33 hy
   subst hy
   replace H:=HKo29
   refine nt0 ?_
   rcases ic2 H with ⟨hb34,H⟩|⟨hb34,H⟩
   ·refine Cd.condF rfl hb34<|Cd.skip ?_
    exact At.meet l12 (ft hF28 hF33) ⟨rfl,rfl,rfl,trivial⟩ rfl (si H)
   refine Cd.condT rfl hb34<|Cd.region<|mv1 rfl<|lr (Ev.fo 0 rfl U146 rfl Z3 rfl rfl)<|lr (Ev.load (i:=4) rfl rfl I3 (v:=iv a1.Seq) ((Parcel.get_Seq gh0).off rfl))<|lr (Ev.fo 1 rfl U146 rfl Z9 rfl rfl)<|lr (Ev.load (i:=4) rfl rfl I9 (v:=Str.v a1.Text) ((Parcel.get_Text gh0).off rfl)) ?_
   obtain ⟨m35,h36,H⟩:=Let_some H
   refine Lst.mapUpdate (i:=0) (kf:=(fun x:Int=>(iv x:Value))) (vf:=(fun x:Str=>(Str.v x:Value))) (m:=l12) (k:=a1.Seq) (v:=a1.Text) rfl rfl rfl rfl rfl rfl (KeyOk.int U3) U259<|Lst.its (L':=(mitem b9 (fun x:Int=>(iv x:Value)) (fun x:Str=>(Str.v x:Value)) m35)::(.own Sl.nil 9 1 (encs ([]:List Str)))::(.blk b6 (enc T0) 41)::T2::(.blk b3 (enc a1) 146)::T3::L) (by (try dsimp +zetaDelta only); rw [← h36]; rfl)<|Lst.nil ?_
   exact At.meet m35 (ft hF28 hF33) ⟨rfl,rfl,rfl,trivial⟩ rfl (si H)
  rintro F37 l22 hF38 hy
  subst hy
  replace H:=HKo23
  refine sr0<|lr (Ev.fo 0 rfl U41 rfl Z3 rfl rfl)<|lr (Ev.load (i:=5) rfl rfl I3 (v:=iv a0.Next) ((ToR.get_Next gh0).off rfl))<|lr (Ev.build (v:=.agg (enc (ToR.mk T4 Sl.nil)).toArray) (pv:=[(0,iv a0.Next)]) ⟨rfl,rfl,trivial⟩ (fun w=>by kernel_rfl))<|Lst.addNil 146 2 ?_
  refine Lst.alloc (cs:=enc T0) rfl rfl (by decide) Tryz.zeroValue41 rfl (fun b40=>?_)
  refine lst 0 rfl rfl rfl Z41 (vs:=enc (ToR.mk T4 Sl.nil)) rfl el (Enc.one _) (cs':=enc (ToR.mk T4 Sl.nil)) phl rfl<|nsr<|Lst.addNil 9 1<|as1 rfl<|nt0<|Cd.seq<|Cd.block ?_
  obtain ⟨ol43,H,HKl43⟩:=andThen_some H
  refine Cd.loop (σ:=Nat×To×Sl×(List Str)) (fun (k43,y44,s45,l46)=>[(2,pv b1 0),(4,pv b6 0),(6,.map (some b9)),(11,pv b40 0),(12,Sl.v s45)]) (fun (k43,y44,s45,l46)=>(.own s45 9 1 (encs l46))::(.blk b40 (enc (ToR.mk ({y44 with Early:=[]}:To) Sl.nil)) 41)::T2::(mitem b9 (fun x:Int=>(iv x:Value)) (fun x:Str=>(Str.v x:Value)) l22)::(.own Sl.nil 9 1 (encs ([]:List Str)))::(.blk b6 (enc T0) 41)::T2::(.blk b3 (enc a1) 146)::T3::L) (fun _=>(fun (k43,y44,s45,l46)=>whileM (partref_TakeParcel_B2 l22) k43 (y44,l46)=some ol43)) (fun (k43,y44,s45,l46)=>k43) (fu,T4,Sl.nil,([]:List Str)) ⟨rfl,rfl,rfl,rfl,rfl,trivial⟩ rfl H ?_
  rintro F47 ⟨k43,y44,s45,l46⟩ hF48 H
  rcases k43 with _ | k43
  ·cases H
  obtain ⟨c43,H,hgo43,hbrk43,hret43⟩:=whileM_go H
  unfold partref_TakeParcel_B2 at H
  try dsimp only at H
  refine Cd.block<|sr0<|mv1 rfl<|lr (Ev.fo 0 rfl U41 rfl Z3 rfl rfl)<|lr (Ev.load (i:=1) rfl rfl I3 (v:=iv y44.Next) ((ToR.get_Next gh0).off rfl))<|lr (Ev.lookup2 (i:=3) (kf:=(fun x:Int=>(iv x:Value))) (vf:=(fun x:Str=>(Str.v x:Value))) (m:=l22) (k:=y44.Next) (z0:=([]:Str)) rfl rfl rfl (KeyOk.int U3) U259 Tryz.zeroValue9)<|mv1 rfl<|lr (Ev.extract rfl rfl)<|lr (Ev.extract rfl rfl)<|as1 rfl<|as1 rfl ?_
  refine nt0<|Cd.seq<|sr0<|mv1 rfl<|lr (Ev.not rfl)<|nt0 ?_
  rcases ic H with ⟨hb49,H⟩|⟨hb49,H⟩
  ·refine Cd.condT rfl hb49<|Cd.exit<|At.then_exit<|At.in_other rfl<|At.then_exit<|At.in_exit ?_
   have H:=hbrk43 _ (sj H)
   subst H
   replace H:=HKl43
   refine At.then<|Cd.seq<|sr0<|lr (Ev.fo 0 rfl U41 rfl Z3 rfl rfl)<|lr (Ev.load (i:=1) rfl rfl I3 (v:=iv y44.Next) ((ToR.get_Next gh0).off rfl))<|lr (Ev.add rfl rfl)<|as1 rfl<|nt0<|Cd.block<|Cd.addNil 146 2 ?_
   obtain ⟨ol50,H,HKl50⟩:=andThen_some H
   refine Cd.loop (σ:=Nat×Int×To×Sl) (fun (k50,y52,y53,s54)=>[(2,pv b1 0),(4,pv b6 0),(6,.map (some b9)),(11,pv b40 0),(12,Sl.v s45),(15,iv y52)]) (fun (k50,y52,y53,s54)=>(.own s54 146 2 (encs y53.Early))::(.own s45 9 1 (encs l46))::(.blk b40 (enc (ToR.mk y53 s54)) 41)::T2::(mitem b9 (fun x:Int=>(iv x:Value)) (fun x:Str=>(Str.v x:Value)) l22)::(.own Sl.nil 9 1 (encs ([]:List Str)))::(.blk b6 (enc T0) 41)::T2::(.blk b3 (enc a1) 146)::T3::L) (fun _=>(fun (k50,y52,y53,s54)=>whileM (partref_TakeParcel_B4 a0 l22) k50 (y52,y53)=some ol50)) (fun (k50,y52,y53,s54)=>k50) (fu,w64 (y44.Next+(1:Int)),({y44 with Early:=([]:List Parcel)}:To),Sl.nil) ⟨rfl,rfl,rfl,rfl,rfl,rfl,trivial⟩ rfl H ?_
   rintro F56 ⟨k50,y52,y53,s54⟩ hF57 H
   let T1:=({Parcel.zero with Seq:=y52,Text:=(mget l22 y52).getD ([]:Str)}:Parcel)
   rcases k50 with _ | k50
   ·cases H
   obtain ⟨c50,H,hgo50,hbrk50,hret50⟩:=whileM_go H
   unfold partref_TakeParcel_B4 at H
   try dsimp only at H
   refine Cd.seq<|sr0<|mv1 rfl<|lr (Ev.fo 0 rfl U41 rfl Z3 rfl rfl)<|lr (Ev.load (i:=9) rfl rfl I3 (v:=iv a0.Next) ((ToR.get_Next gh0).off rfl))<|lr (Ev.add rfl rfl)<|lr (Ev.lss rfl rfl)<|nt0 ?_
   rcases ic2 H with ⟨hb58,H⟩|⟨hb58,H⟩
   ·refine Cd.condF rfl hb58<|Cd.exit<|At.then_exit<|At.then_exit<|At.in_exit ?_
    have H:=hbrk50 _ (sj H)
    subst H
    replace H:=HKl50
    refine At.then<|sr0<|lr (Ev.loadA (i:=2) rfl rfl I41 Z41 (ch:=enc (ToR.mk y53 s54)) el gh0)<|mv1 rfl<|lst 6 rfl rfl rfl Z41 (vs:=enc (ToR.mk y53 s54)) rfl el (Enc.one _) (cs':=enc (ToR.mk y53 s54)) phl rfl<|as1 rfl<|nt0 ?_
    obtain rfl:=si H
    refine Cd.ret ?_
    exact At.ret2 rfl (Res.cellA (i:=6) rfl rfl I41 Z41 el) (Res.tmp rfl) (ft (ft (ft hF14 hF38) hF48) hF57) (sk2 (sc8 rl)) ⟨s54,s45,rfl,rfl⟩
   refine Cd.condT rfl hb58<|Cd.skip<|At.then<|Cd.seq<|Cd.block<|sr0<|mv1 rfl<|mv1 rfl<|lr (Ev.lookup2 (i:=4) (kf:=(fun x:Int=>(iv x:Value))) (vf:=(fun x:Str=>(Str.v x:Value))) (m:=l22) (k:=y52) (z0:=([]:Str)) rfl rfl rfl (KeyOk.int U3) U259 Tryz.zeroValue9)<|mv1 rfl<|lr (Ev.extract rfl rfl) ?_
   refine lr (Ev.extract rfl rfl)<|as1 rfl<|as1 rfl<|nsr<|mv1 rfl<|nt0 ?_
   rcases ic2 H with ⟨hb59,H⟩|⟨hb59,H⟩
   ·refine Cd.condF rfl hb59<|Cd.skip<|At.in_normal<|At.then<|Cd.region<|mv1 rfl<|lr (Ev.add rfl rfl)<|as1 rfl<|Lst.nil ?_
    exact At.meet (k50,w64 (y52+(1:Int)),y53,s54) hF57 ⟨rfl,rfl,rfl,rfl,rfl,rfl,trivial⟩ rfl ⟨hgo50 _ (sj H),nls⟩
   refine Cd.condT rfl hb59<|Cd.region<|lr (Ev.fo 1 rfl U41 rfl Z39 rfl rfl)<|lr (Ev.load (i:=2) rfl rfl I39 (v:=Sl.v s54) ((ToR.get_Early gh0).off rfl))<|mv1 rfl<|mv1 rfl<|lr (Ev.build (v:=.agg (enc T1).toArray) (pv:=[(0,iv y52),(1,Str.v ((mget l22 y52).getD ([]:Str)))]) ⟨rfl,rfl,⟨rfl,rfl,trivial⟩⟩ (fun w=>by kernel_rfl)) ?_
   refine Lst.buildSlice (α:=Parcel) (xs:=([T1]:List Parcel)) (pv:=[(0,.agg (enc T1).toArray)]) rfl rfl (by decide) ⟨rfl,rfl,trivial⟩ (run_buildSlice (α:=Parcel) (z0:=Parcel.zero) (xs:=([T1]:List Parcel)) U39 Z146 Tryz.zeroValue146 rfl rfl rfl (by decide) rfl (fill_one rfl rfl)) rfl rfl (by decide) (fun s60 _=>?_)
   obtain ⟨u62,h63,H⟩:=bs H
   refine Lst.append (i:=1) (α:=Parcel) (xs:=y53.Early) (ys:=([T1]:List Parcel)) rfl rfl (by decide) rfl rfl U39 Tryz.typeInfo146 rfl rfl rfl rfl rfl rfl (rdo 0 rfl rfl rfl) rfl (room_some h63) rfl (fun s64=>?_)
   refine lr (Ev.fo 1 rfl U41 rfl Z39 rfl rfl)<|lst 3 rfl rfl rfl Z39 (vs:=[Sl.v s64]) rfl rfl rfl (cs':=enc (ToR.mk ({y53 with Early:=y53.Early++([T1]:List Parcel)}:To) s64)) ((ToR.put_Early (Put.here (vs:=[Sl.v s64]) rfl)).off rfl) rfl<|Lst.nil<|At.in_normal<|At.then<|Cd.region<|mv1 rfl<|lr (Ev.add rfl rfl)<|as1 rfl<|Lst.nil<|At.less (sc1 rl) ?_
   exact At.meet (k50,w64 (y52+(1:Int)),({y53 with Early:=y53.Early++([T1]:List Parcel)}:To),s64) hF57 ⟨rfl,rfl,rfl,rfl,rfl,rfl,trivial⟩ rfl ⟨hgo50 _ (sj H),nls⟩
  refine Cd.condF rfl hb49<|Cd.skip<|At.then<|sr0<|mv1 rfl<|mv1 rfl ?_
  refine Lst.buildSlice (α:=Str) (xs:=([(mget l22 y44.Next).getD ([]:Str)]:List Str)) (pv:=[(0,Str.v ((mget l22 y44.Next).getD ([]:Str)))]) rfl rfl (by decide) ⟨rfl,rfl,trivial⟩ (run_buildSlice (α:=Str) (z0:=([]:Str)) (xs:=([(mget l22 y44.Next).getD ([]:Str)]:List Str)) U43 Z9 Tryz.zeroValue9 rfl rfl rfl (by decide) rfl (fill_one rfl rfl)) rfl rfl (by decide) (fun s65 _=>?_)
  obtain ⟨u67,h68,H⟩:=bs H
  refine Lst.append (i:=1) (α:=Str) (xs:=l46) (ys:=([(mget l22 y44.Next).getD ([]:Str)]:List Str)) rfl rfl (by decide) rfl rfl U43 Tryz.typeInfo9 rfl rfl rfl rfl rfl rfl (rdo 0 rfl rfl rfl) rfl (room_some h68) rfl (fun s69=>?_)
  refine as1 rfl<|nt0<|Cd.region<|lr (Ev.fo 0 rfl U41 rfl Z3 rfl rfl)<|lr (Ev.load (i:=2) rfl rfl I3 (v:=iv y44.Next) ((ToR.get_Next gh0).off rfl))<|lr (Ev.add rfl rfl)<|lr (Ev.fo 0 rfl U41 rfl Z3 rfl rfl) ?_
  obtain ⟨p70,h71,H⟩:=Let_some H
  refine lst 2 rfl rfl rfl Z3 (vs:=[iv (w64 (y44.Next+(1:Int)))]) rfl rfl rfl (cs':=enc (ToR.mk ({y44 with Next:=p70,Early:=[]}:To) Sl.nil)) (by (try dsimp +zetaDelta only); rw [← h71]; exact (ToR.put_Next (Put.here (vs:=[iv (w64 (y44.Next+(1:Int)))]) rfl)).off rfl) rfl<|Lst.nil<|At.in_normal<|At.less (sc1 rl) ?_
  exact At.meet (k43,({y44 with Next:=p70,Early:=[]}:To),s69,l46++([(mget l22 y44.Next).getD ([]:Str)]:List Str)) hF48 ⟨rfl,rfl,rfl,rfl,rfl,trivial⟩ rfl ⟨hgo43 _ (sj H),nls⟩
 have hc11:decide ((i11:Int) < (a0.Early.length:Int))=true:=decide_eq_true (by omega)
 obtain ⟨c11,H,hgo11⟩:=rangeF_go H
 unfold partref_TakeParcel_B0 at H
 try dsimp only at H
 refine sr0<|lr (Ev.lss rfl rfl)<|nt0<|Cd.seq<|Cd.condT rfl hc11<|Cd.skip<|At.then<|Cd.seq<|Cd.block<|sr0 ?_
 obtain ⟨x15,h16,H⟩:=bs H
 have g17:=lat_some h16
 refine lr (Ev.indexS (α:=Parcel) (xs:=a0.Early) rfl rfl U39 Z146 rfl (by decide) (pa0x1.mono hF14 (sc4 (sc2 hM))) g17.1 g17.2.1)<|lr (Ev.loadSA (α:=Parcel) rfl (pa0x1.mono hF14 (sc4 (sc2 hM))) I146 Z146 (ch:=enc x15) el (by decide) ((Get.elemN (s:=2) (x:=x15) rfl g17.2.2 gh0).off (by omega))) ?_
 refine Lst.alloc (cs:=enc Parcel.zero) rfl rfl (by decide) Tryz.zeroValue146 rfl (fun b18=>?_)
 refine lst 0 rfl rfl rfl Z146 (vs:=enc x15) rfl el (Enc.one _) (cs':=enc x15) phl rfl<|nt0<|Cd.region<|mv1 rfl<|lr (Ev.fo 0 rfl U146 rfl Z3 rfl rfl)<|lr (Ev.load (i:=0) rfl rfl I3 (v:=iv x15.Seq) ((Parcel.get_Seq gh0).off rfl))<|lr (Ev.fo 1 rfl U146 rfl Z9 rfl rfl)<|lr (Ev.load (i:=0) rfl rfl I9 (v:=Str.v x15.Text) ((Parcel.get_Text gh0).off rfl)) ?_
 obtain ⟨m20,h21,H⟩:=Let_some H
 refine Lst.mapUpdate (i:=1) (kf:=(fun x:Int=>(iv x:Value))) (vf:=(fun x:Str=>(Str.v x:Value))) (m:=l12) (k:=x15.Seq) (v:=x15.Text) rfl rfl rfl rfl rfl rfl (KeyOk.int U3) U259<|Lst.its (L':=(.blk b18 (enc x15) 146)::(mitem b9 (fun x:Int=>(iv x:Value)) (fun x:Str=>(Str.v x:Value)) m20)::(.own Sl.nil 9 1 (encs ([]:List Str)))::(.blk b6 (enc T0) 41)::T2::(.blk b3 (enc a1) 146)::T3::L) (by (try dsimp +zetaDelta only); rw [← h21]; rfl)<|Lst.nil<|At.in_normal<|At.then<|Cd.region<|lr (Ev.incr (by omega) rfl rfl)<|mv1 rfl<|Lst.nil<|At.less (sc1 rl) ?_
 exact At.meet (i11+1,k11,m20) hF14 ⟨rfl,rfl,rfl,rfl,rfl,rfl,rfl,trivial⟩ rfl ⟨⟨hgo11 _ (sj H),by omega⟩,nls⟩
theorem partref_World_tell_sim {fu:Nat} {a0:RWld} {a1:Int} {a2:Int} {ba0:Nat} {qa0x2:Nat} {ra0x3:Vector (LR Saying) 6} {ra0x4:Vector ToR 6} {ra0x5:Vector FromR 6} {ra0x6:Vector ToR 6} {sa0x7:Sl} {sa0x8:Sl} {sa0x9:Sl} {r:(List Note)×RWld} (H:partref_World_tell fu a0 a1 a2=some r) (w0:World) (F:Frz) (M L:List Item) (hM:M.Sublist L) (hT:Tab Tryz.prog w0) (ma0x3:ra0x3.toList.map LR.v=a0.Logs.toList) (na0x3:All LR.rel w0 F M ra0x3.toList) (ma0x4:ra0x4.toList.map ToR.v=a0.want.toList) (na0x4:All ToR.rel w0 F M ra0x4.toList) (ma0x5:ra0x5.toList.map FromR.v=a0.Late.toList) (na0x5:All FromR.rel w0 F M ra0x5.toList) (ma0x6:ra0x6.toList.map ToR.v=a0.in_.toList) (na0x6:All ToR.rel w0 F M ra0x6.toList):Ok Tryz.prog w0 131 [pv ba0 0,iv a1,iv a2] F ((mii qa0x2 a0.gone)::(.own sa0x7 9 1 (encs a0.order))::(.own sa0x8 198 2 (encs a0.marks))::(.own sa0x9 132 12 (encs a0.WayNotes))::(.blk ba0 (enc (RWldR.mk a0 (some qa0x2) ra0x3 ra0x4 ra0x5 ra0x6 sa0x7 sa0x8 sa0x9)) 50)::L) (fun Fx L' v=>∃ (s6:Sl) (rs7:Vector (LR Saying) 6) (rs10:Vector ToR 6) (rs13:Vector FromR 6) (rs16:Vector ToR 6),v=.tuple #[]∧L'=(mii qa0x2 a0.gone)::(.own sa0x7 9 1 (encs a0.order))::(.own sa0x8 198 2 (encs a0.marks))::(.own s6 132 12 (encs r.1))::(.blk ba0 (enc (RWldR.mk ({r.2 with gone:=a0.gone,order:=a0.order,marks:=a0.marks,WayNotes:=r.1}:RWld) (some qa0x2) rs7 rs10 rs13 rs16 sa0x7 sa0x8 s6)) 50)::L∧rs7.toList.map LR.v=r.2.Logs.toList∧All LR.rel w0 Fx M rs7.toList∧rs10.toList.map ToR.v=r.2.want.toList∧All ToR.rel w0 Fx M rs10.toList∧rs13.toList.map FromR.v=r.2.Late.toList∧All FromR.rel w0 Fx M rs13.toList∧rs16.toList.map ToR.v=r.2.in_.toList∧All ToR.rel w0 Fx M rs16.toList):=by
 unfold partref_World_tell at H
 refine Ok.enter (m:=3) (n:=42) Tryz.func131 rfl rfl rfl (by decide)<|Cd.env (e':=[(0,pv ba0 0),(1,iv a1),(2,iv a2)]) rfl<|Cd.tail 35 (by kernel_rfl) (by kernel_rfl)<|qr (Ev.move rfl)<|qr (Ev.move rfl) ?_
 obtain ⟨r6,h7,H⟩:=bs H
 refine Qt.call rfl rfl (by decide) (vs:=[pv ba0 0]) ⟨rfl,trivial⟩ Tryz.call73 (partref_World_lead_sim h7 w0 _ M _ hM ma0x3 (All.monoLR na0x3 fl rl) ma0x4 (All.monoTo na0x4 fl rl) ma0x5 (All.monoFrom na0x5 fl rl) ma0x6 (All.monoTo na0x6 fl rl))<|qr (Ev.move rfl)<|qr (Ev.move rfl)<|qr (Ev.move rfl)<|qr (Ev.nilCheck rfl)<|qr (Ev.fo 47 rfl U50 rfl Z47 rfl rfl)<|qr (Ev.load (i:=4) rfl rfl I47 (v:=Sl.v sa0x8) ((RWldR.get_marks gh0).off rfl))<|qr (Ev.move rfl) ?_
 obtain ⟨x10,h11,H⟩:=bs H
 have g12:=lat_some h11
 refine qr (Ev.indexS (α:=Mark) (xs:=a0.marks) rfl rfl U47 Z198 rfl (by decide) (rdo 2 rfl rfl rfl) g12.1 g12.2.1)<|qr (Ev.fieldS (α:=Mark) (f':=a2.toNat * 2+0) rfl (rdo 2 rfl rfl rfl) ((Get.elemN (s:=2) (x:=x10) rfl g12.2.2 gh0).off (by omega)) rfl U198 rfl Z3 rfl rfl rfl)<|qr (Ev.loadS (α:=Mark) rfl (rdo 2 rfl rfl rfl) I3 (v:=iv x10.from_) ((Get.elemN (s:=2) (x:=x10) rfl g12.2.2 (Mark.get_from_ gh0)).off (by omega))) ?_
 obtain ⟨r13,h14,H⟩:=bs H
 refine Qt.call rfl rfl (by decide) (vs:=[iv x10.from_]) ⟨rfl,trivial⟩ Tryz.call55 (strconv_Itoa_sim h14 w0 _ M _ (sc4 (sc1 hM)) hT) ?_
 obtain ⟨u17,h18,H⟩:=bs H
 refine qr (Ev.addStr (s:=r13) (m:=([58]:Str)) rfl rfl (room_some h18))<|qr (Ev.move rfl)<|qr (Ev.nilCheck rfl)<|qr (Ev.fo 47 rfl U50 rfl Z47 rfl rfl)<|qr (Ev.load (i:=4) rfl rfl I47 (v:=Sl.v sa0x8) ((RWldR.get_marks gh0).off rfl))<|qr (Ev.move rfl) ?_
 obtain ⟨x19,h20,H⟩:=bs H
 have g21:=lat_some h20
 refine qr (Ev.indexS (α:=Mark) (xs:=a0.marks) rfl rfl U47 Z198 rfl (by decide) (rdo 2 rfl rfl rfl) g21.1 g21.2.1)<|qr (Ev.fieldS (α:=Mark) (f':=a2.toNat * 2+1) rfl (rdo 2 rfl rfl rfl) ((Get.elemN (s:=2) (x:=x19) rfl g21.2.2 gh0).off (by omega)) rfl U198 rfl Z3 rfl rfl rfl)<|qr (Ev.loadS (α:=Mark) rfl (rdo 2 rfl rfl rfl) I3 (v:=iv x19.seq) ((Get.elemN (s:=2) (x:=x19) rfl g21.2.2 (Mark.get_seq gh0)).off (by omega))) ?_
 obtain ⟨r22,h23,H⟩:=bs H
 refine Qt.call rfl rfl (by decide) (vs:=[iv x19.seq]) ⟨rfl,trivial⟩ Tryz.call55 (strconv_Itoa_sim h23 w0 _ M _ (sc4 (sc1 hM)) hT) ?_
 obtain ⟨u26,h27,H⟩:=bs H
 refine qr (Ev.addStr (s:=r13++([58]:Str)) (m:=r22) rfl rfl (room_some h27)) ?_
 obtain ⟨u28,h29,H⟩:=bs H
 refine qr (Ev.addStr (s:=(r13++([58]:Str))++r22) (m:=([58]:Str)) rfl rfl (room_some h29))<|qr (Ev.move rfl)<|qr (Ev.nilCheck rfl)<|qr (Ev.fo 46 rfl U50 rfl Z43 rfl rfl)<|qr (Ev.load (i:=4) rfl rfl I43 (v:=Sl.v sa0x7) ((RWldR.get_order gh0).off rfl))<|qr (Ev.move rfl) ?_
 obtain ⟨x30,h31,H⟩:=bs H
 let T0:=({Note.zero with Kind:=(2:Int),From:=r6,To:=a1,Seq:=a2,Text:=(((r13++([58]:Str))++r22)++([58]:Str))++x30}:Note)
 have g32:=lat_some h31
 refine qr (Ev.indexS (α:=Str) (xs:=a0.order) rfl rfl U43 Z9 rfl (by decide) (rdo 1 rfl rfl rfl) g32.1 g32.2.1)<|qr (Ev.loadS (α:=Str) rfl (rdo 1 rfl rfl rfl) I9 (v:=Str.v x30) ((Get.elemN (s:=1) (x:=x30) rfl g32.2.2 gh0).off (by omega))) ?_
 obtain ⟨u33,h34,H⟩:=bs H
 refine qr (Ev.addStr (s:=((r13++([58]:Str))++r22)++([58]:Str)) (m:=x30) rfl rfl (room_some h34))<|qr (Ev.build (v:=.agg (enc T0).toArray) (pv:=[(0,iv (2:Int)),(1,iv r6),(2,iv a1),(4,iv a2),(6,Str.v ((((r13++([58]:Str))++r22)++([58]:Str))++x30))]) ⟨rfl,rfl,⟨rfl,rfl,⟨rfl,rfl,⟨rfl,rfl,⟨rfl,rfl,trivial⟩⟩⟩⟩⟩ (fun w=>by kernel_rfl))<|Qt.tail ?_
 obtain ⟨r35,h36,H⟩:=bs H
 refine cl rfl (vs:=[pv ba0 0,.agg (enc T0).toArray]) ⟨rfl,rfl,trivial⟩ Tryz.call72 (partref_World_send_sim h36 w0 _ M _ hM ma0x3 (All.monoLR na0x3 fl rl) ma0x4 (All.monoTo na0x4 fl rl) ma0x5 (All.monoFrom na0x5 fl rl) ma0x6 (All.monoTo na0x6 fl rl)) (fun F50 L' v hF51 hv=>?_)
 obtain ⟨s37,rs38,rs41,rs44,rs47,rfl,rfl,fm39,fa40,fm42,fa43,fm45,fa46,fm48,fa49⟩:=hv
 refine Lst.nil ?_
 obtain rfl:=si H
 exact At.ret0 (.inr rfl) rfl hF51 rl ⟨s37,rs38,rs41,rs44,rs47,rfl,rfl,fm39,(All.monoLR fa40 fl rl),fm42,(All.monoTo fa43 fl rl),fm45,(All.monoFrom fa46 fl rl),fm48,(All.monoTo fa49 fl rl)⟩
end Go.Proofs.YtchmclllcdknjaaGreatDoor
