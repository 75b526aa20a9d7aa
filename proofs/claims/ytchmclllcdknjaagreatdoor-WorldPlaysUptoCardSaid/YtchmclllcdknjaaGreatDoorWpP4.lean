/-
  The functions compute their specs; printed by a program.
-/
import Derived.Test.YtchmclllcdknjaaGreatDoorWpP3
namespace Go.Proofs.YtchmclllcdknjaaGreatDoor
open Go.RowKit Enc
set_option linter.unusedVariables false
set_option linter.unusedSimpArgs false
set_option maxRecDepth 20000
abbrev U38 := @Tryz.runUnderlying38
abbrev U201 := @Tryz.runUnderlying201
abbrev U299 := @Tryz.runUnderlying299
abbrev Z38 := @Tryz.sizeOf38
abbrev Z299 := @Tryz.sizeOf299
abbrev I198 := @Tryz.isAgg198
abbrev I299 := @Tryz.isAgg299
set_option maxHeartbeats 2000000 in
theorem partref_World_comes_sim {fu:Nat} {a0:RWld} {a1:Note} {ba0:Nat} {qa0x2:Nat} {ra0x3:Vector (LR Saying) 6} {ra0x4:Vector ToR 6} {ra0x5:Vector FromR 6} {ra0x6:Vector ToR 6} {sa0x7:Sl} {sa0x8:Sl} {sa0x9:Sl} {r:(List Str)×(List Mark)×(List Note)×RWld} (H:partref_World_comes fu a0 a1=some r) (w0:World) (F:Frz) (M L:List Item) (hM:M.Sublist L) (hT:Tab Tryz.prog w0) (ma0x3:ra0x3.toList.map LR.v=a0.Logs.toList) (na0x3:All LR.rel w0 F M ra0x3.toList) (ma0x4:ra0x4.toList.map ToR.v=a0.want.toList) (na0x4:All ToR.rel w0 F M ra0x4.toList) (ma0x5:ra0x5.toList.map FromR.v=a0.Late.toList) (na0x5:All FromR.rel w0 F M ra0x5.toList) (ma0x6:ra0x6.toList.map ToR.v=a0.in_.toList) (na0x6:All ToR.rel w0 F M ra0x6.toList):Ok Tryz.prog w0 76 [pv ba0 0,.agg (enc a1).toArray] F ((mii qa0x2 a0.gone)::(.own sa0x7 9 1 (encs a0.order))::(.own sa0x8 198 2 (encs a0.marks))::(.own sa0x9 132 12 (encs a0.WayNotes))::(.blk ba0 (enc (RWldR.mk a0 (some qa0x2) ra0x3 ra0x4 ra0x5 ra0x6 sa0x7 sa0x8 sa0x9)) 50)::L) (fun Fx L' v=>∃ (s6:Sl) (s7:Sl) (s8:Sl) (rs9:Vector (LR Saying) 6) (rs12:Vector ToR 6) (rs15:Vector FromR 6) (rs18:Vector ToR 6),v=.tuple #[]∧L'=(mii qa0x2 a0.gone)::(.own s6 9 1 (encs r.1))::(.own s7 198 2 (encs r.2.1))::(.own s8 132 12 (encs r.2.2.1))::(.blk ba0 (enc (RWldR.mk ({r.2.2.2 with gone:=a0.gone,order:=r.1,marks:=r.2.1,WayNotes:=r.2.2.1}:RWld) (some qa0x2) rs9 rs12 rs15 rs18 s6 s7 s8)) 50)::L∧rs9.toList.map LR.v=r.2.2.2.Logs.toList∧All LR.rel w0 Fx M rs9.toList∧rs12.toList.map ToR.v=r.2.2.2.want.toList∧All ToR.rel w0 Fx M rs12.toList∧rs15.toList.map FromR.v=r.2.2.2.Late.toList∧All FromR.rel w0 Fx M rs15.toList∧rs18.toList.map ToR.v=r.2.2.2.in_.toList∧All ToR.rel w0 Fx M rs18.toList):=by
 let T15:=ToR.mk ({To.zero with Early:=([]:List Parcel)}:To) Sl.nil
 let T12:=({Parcel.zero with Seq:=a1.Seq,Text:=a1.Text}:Parcel)
 let T11:Item:=.own sa0x7 9 1 (encs a0.order)
 let T9:Item:=.own sa0x8 198 2 (encs a0.marks)
 let T8:Item:=.own sa0x9 132 12 (encs a0.WayNotes)
 let T2:=RWldR.mk a0 (some qa0x2) ra0x3 ra0x4 ra0x5 ra0x6 sa0x7 sa0x8 sa0x9
 unfold partref_World_comes at H
 refine Ok.enter (m:=2) (n:=245) Tryz.func76 rfl rfl rfl (by decide)<|Cd.env (e':=[(0,pv ba0 0),(1,.agg (enc a1).toArray)]) rfl<|sr0 ?_
 refine Lst.box rfl rfl (by decide) rfl (cs:=enc a1) rfl (fun b6=>?_)
 refine nsr<|lr (Ev.fo 0 rfl U132 rfl Z3 rfl rfl)<|lr (Ev.load (i:=0) rfl rfl I3 (v:=iv a1.Kind) ((Note.get_Kind gh0).off rfl))<|nt0<|Cd.block<|sr0<|lr (Ev.eql rfl rfl)<|as1 rfl<|nt0 ?_
 rcases ic H with ⟨hb8,H⟩|⟨hb8,H⟩
 ·refine Cd.condT rfl hb8<|Cd.seq<|Cd.quiet (by kernel_rfl) (by kernel_rfl)<|qr (Ev.move rfl)<|qr (Ev.fo 1 rfl U132 rfl Z3 rfl rfl)<|qr (Ev.load (i:=0) rfl rfl I3 (v:=iv a1.From) ((Note.get_From gh0).off rfl))<|qr (Ev.nilCheck rfl)<|qr (Ev.fo 34 rfl U50 rfl Z42 rfl rfl) ?_
  obtain ⟨x9,h10,H⟩:=bs H
  have g11:=vat_some h10
  obtain ⟨⟨r12v,r12h1⟩,r12g,r12e,r12m,r12l⟩:=vmap_get ma0x6 g11.2.2
  obtain rfl:x9=r12v:=r12e.symm
  have r12q:ToR.rel w0 _ _ (ToR.mk x9 r12h1):=na0x6 _ r12m
  have r12_f1:Rd w0 _ _ _ _:=r12q
  refine qr (Ev.indexAddr (off':=34+a1.From.toNat * 2) rfl rfl U42 Z41 g11.1 g11.2.1 rfl)<|qr (Ev.fo (34+a1.From.toNat * 2+0) rfl U41 rfl Z3 rfl rfl)<|qr (Ev.load (i:=5) rfl rfl I3 (v:=iv x9.Next) ((RWldR.get_in_ (p:=T2) (Get.vecN (s:=2) rfl r12g (ToR.get_Next gh0))).off (by omega)))<|qr (Ev.assign rfl)<|Qt.done<|At.then<|Cd.seq ?_
  obtain ⟨x13,h14,H⟩:=bs H
  obtain ⟨r17,h18,H⟩:=bs H
  obtain ⟨o34,h35,H⟩:=Let_some H
  refine Cd.headMeet (σ:=Nat×Sl×(List Parcel)×Sl×(List Str)) 18 (fun (b29,s30,l31,s32,l33)=>[(0,pv ba0 0),(3,pv b6 0),(4,iv x9.Next),(5,pv b29 0),(44,Sl.v s32)]) (fun (b29,s30,l31,s32,l33)=>(.blk b29 (enc (ToR.mk ({r17.1 with Early:=l31}:To) s30)) 41)::(.own s30 146 2 (encs l31))::(.own s32 9 1 (encs l33))::(.blk b6 (enc a1) 132)::(mii qa0x2 a0.gone)::T11::T9::T8::(.blk ba0 (enc T2) 50)::L) (fun _ (b29,s30,l31,s32,l33)=>(l31,l33)=o34) (by kernel_rfl) (by kernel_rfl) (behind_sink (by kernel_rfl) (by kernel_rfl) (by kernel_rfl)) (by kernel_rfl) (fun hsel hlt=>?_) ?_
  ·refine HdJ.keep (fun w=>St w0 F ((.blk b6 (enc a1) 132)::(mii qa0x2 a0.gone)::T11::T9::T8::(.blk ba0 (enc T2) 50)::L) w) (fun w h=>trivial)<|hts rfl hsel hlt 0 rl rfl (Ev.move rfl)<|hts rfl hsel hlt 1 rl rfl (Ev.fo 1 rfl U132 rfl Z3 rfl rfl)<|hts rfl hsel hlt 2 rl rfl (Ev.load (i:=0) rfl rfl I3 (v:=iv a1.From) ((Note.get_From gh0).off rfl))<|hts rfl hsel hlt 3 rl rfl (Ev.nilCheck rfl)<|hts rfl hsel hlt 4 rl rfl (Ev.fo 34 rfl U50 rfl Z42 rfl rfl) ?_
   have g36:=vat_some h14
   obtain ⟨⟨r37v,r37h1⟩,r37g,r37e,r37m,r37l⟩:=vmap_get ma0x6 g36.2.2
   obtain rfl:x13=r37v:=r37e.symm
   have r37q:ToR.rel w0 _ _ (ToR.mk x13 r37h1):=na0x6 _ r37m
   have r37_f1:Rd w0 _ _ _ _:=r37q
   refine hts rfl hsel hlt 5 rl rfl (Ev.indexAddr (off':=34+a1.From.toNat * 2) rfl rfl U42 Z41 g36.1 g36.2.1 rfl)<|hts rfl hsel hlt 6 rl rfl (Ev.loadA (i:=5) rfl rfl I41 Z41 (ch:=enc (ToR.mk x13 r37h1)) el ((RWldR.get_in_ (p:=T2) (Get.vecN (s:=2) rfl r37g gh0)).off (by omega)))<|hts rfl hsel hlt 7 rl rfl (Ev.fo 4 rfl U132 rfl Z3 rfl rfl)<|hts rfl hsel hlt 8 rl rfl (Ev.load (i:=0) rfl rfl I3 (v:=iv a1.Seq) ((Note.get_Seq gh0).off rfl))<|hts rfl hsel hlt 9 rl rfl (Ev.fo 11 rfl U132 rfl Z9 rfl rfl)<|hts rfl hsel hlt 10 rl rfl (Ev.load (i:=0) rfl rfl I9 (v:=Str.v a1.Text) ((Note.get_Text gh0).off rfl))<|hts rfl hsel hlt 11 rl rfl (Ev.build (v:=.agg (enc T12).toArray) (pv:=[(0,iv a1.Seq),(1,Str.v a1.Text)]) ⟨rfl,rfl,⟨rfl,rfl,trivial⟩⟩ (fun w=>by kernel_rfl))<|HdJ.step [12,16] (by kernel_rfl) rfl ?_
   refine HdStep.c (fun inv=>?_) ?_
   ·refine cl rfl (vs:=[.agg (enc (ToR.mk x13 r37h1)).toArray,.agg (enc T12).toArray]) ⟨rfl,rfl,trivial⟩ Tryz.call130 (partref_TakeParcel_sim h18 w0 _ M _ (sc4 (sc2 hM)) (r37_f1.mono fl rl)) (fun F40 L' v hF41 hv=>?_)
    obtain ⟨s38,s39,rfl,rfl⟩:=hv
    refine Lst.nil<|At.hd inv (fun w h=>(h.weaken hF41).sublist (sc2 rl))<|HdJ.keep (fun w=>St w0 F40 ((.own s38 146 2 (encs r17.1.Early))::(.own s39 9 1 (encs r17.2))::(.blk b6 (enc a1) 132)::(mii qa0x2 a0.gone)::T11::T9::T8::(.blk ba0 (enc T2) 50)::L) w) (fun w h=>(h.weaken hF41).sublist (sc2 rl))<|hts rfl hsel hlt 13 rl rfl (Ev.move rfl)<|hts rfl hsel hlt 14 rl rfl (Ev.extract rfl rfl)<|hts rfl hsel hlt 15 rl rfl (Ev.extract rfl rfl) ?_
    refine HdJ.o1 16 (fun inv=>?_)
    refine Lst.addNil 146 2 ?_
    refine Lst.alloc (cs:=enc T15) rfl rfl (by decide) Tryz.zeroValue41 rfl (fun b42=>?_)
    refine hds inv (sc2 rl) ?_
    refine HdJ.o1 17 (fun inv=>?_)
    refine lst 0 rfl rfl rfl Z41 (vs:=enc (ToR.mk r17.1 s38)) rfl el (Enc.one _) (cs':=enc (ToR.mk r17.1 s38)) phl rfl<|hds inv (sc2 rl)<|HdJ.done (by kernel_rfl)<|At.less (sk1 (sc1 rl)) ?_
    exact At.meetN (b42,s38,r17.1.Early,s39,r17.2) hF41 ⟨rfl,rfl,rfl,rfl,rfl,trivial⟩ rfl h35
   refine HdStep.c (fun inv=>?_) trivial
   refine Lst.addNil 146 2 ?_
   refine Lst.alloc (cs:=enc T15) rfl rfl (by decide) Tryz.zeroValue41 rfl (fun b43=>?_)
   refine hds inv (sc2 rl) ?_
   refine HdJ.o1 12 (fun inv=>?_)
   refine cl rfl (vs:=[.agg (enc (ToR.mk x13 r37h1)).toArray,.agg (enc T12).toArray]) ⟨rfl,rfl,trivial⟩ Tryz.call130 (partref_TakeParcel_sim h18 w0 _ M _ (sc8 hM) (r37_f1.mono fl rl)) (fun F46 L' v hF47 hv=>?_)
   obtain ⟨s44,s45,rfl,rfl⟩:=hv
   refine Lst.nil<|At.hd inv (fun w h=>(h.weaken hF47).sublist (sc4 rl))<|HdJ.keep (fun w=>St w0 F46 ((.own s44 146 2 (encs r17.1.Early))::(.own s45 9 1 (encs r17.2))::(.own Sl.nil 146 2 (encs ([]:List Parcel)))::(.blk b6 (enc a1) 132)::(mii qa0x2 a0.gone)::T11::T9::T8::(.blk ba0 (enc T2) 50)::L) w) (fun w h=>(h.weaken hF47).sublist (sc1 (sc2 rl)))<|hts rfl hsel hlt 13 (sk2 (sc1 rl)) rfl (Ev.move rfl)<|hts rfl hsel hlt 14 (sk2 (sc1 rl)) rfl (Ev.extract rfl rfl)<|hts rfl hsel hlt 15 (sk2 (sc1 rl)) rfl (Ev.extract rfl rfl) ?_
   refine HdJ.o1 17 (fun inv=>?_)
   refine lst 2 rfl rfl rfl Z41 (vs:=enc (ToR.mk r17.1 s44)) rfl el (Enc.one _) (cs':=enc (ToR.mk r17.1 s44)) phl rfl<|hds inv (sk2 (sc1 rl))<|HdJ.done (by kernel_rfl)<|af 2 rfl<|At.less (sk1 (sk2 (sc1 rl))) ?_
   exact At.meetN (b43,s44,r17.1.Early,s45,r17.2) hF47 ⟨rfl,rfl,rfl,rfl,rfl,trivial⟩ rfl h35
  rintro F48 ⟨b29,s30,l31,s32,l33⟩ hF49 hy
  let T6:=ToR.mk ({r17.1 with Early:=l31}:To) s30
  let T18:=ra0x6.setIfInBounds a1.From.toNat T6
  subst hy
  try dsimp only at H
  refine as1 rfl<|nt0<|Cd.seq<|Cd.tail 7 (by kernel_rfl) (by kernel_rfl)<|qr (Ev.move rfl)<|qr (Ev.fo 1 rfl U132 rfl Z3 rfl rfl)<|qr (Ev.load (i:=3) rfl rfl I3 (v:=iv a1.From) ((Note.get_From gh0).off rfl))<|qr (Ev.loadA (i:=0) rfl rfl I41 Z41 (ch:=enc T6) el gh0)<|qr (Ev.nilCheck rfl)<|qr (Ev.fo 34 rfl U50 rfl Z42 rfl rfl) ?_
  obtain ⟨x50,h51,H⟩:=bs H
  have g52:=vat_some h51
  obtain ⟨⟨r53v,r53h1⟩,r53g,r53e,r53m,r53l⟩:=vmap_get ma0x6 g52.2.2
  obtain rfl:x50=r53v:=r53e.symm
  have r53q:ToR.rel w0 _ _ (ToR.mk x50 r53h1):=na0x6 _ r53m
  have r53_f1:Rd w0 _ _ _ _:=r53q
  refine qr (Ev.indexAddr (off':=34+a1.From.toNat * 2) rfl rfl U42 Z41 g52.1 g52.2.1 rfl)<|Qt.tail ?_
  obtain ⟨p58,h59,H⟩:=Let_some H
  refine Lst.freeze (i:=1) rfl (fun F54 hF55 hz56=>?_)
  have hq57:Rd w0 F54 [] s30 l31:=Rd.frozen hz56 rfl rfl
  have hm60:T18.toList.map ToR.v=p58.toList:=(vmap_set ma0x6 _ _).trans (congrArg Vector.toList h59)
  have ha61:All ToR.rel w0 F54 M T18.toList:=vAll_set (All.monoTo na0x6 (ft hF49 hF55) rl) ((hq57.mono fl nsl))
  refine lst 7 rfl rfl rfl Z41 (vs:=enc T6) rfl el (Enc.one _) (cs':=enc (RWldR.mk ({a0 with in_:=p58}:RWld) (some qa0x2) ra0x3 ra0x4 ra0x5 T18 sa0x7 sa0x8 sa0x9)) ((RWldR.put_in_ (l:=p58) (Put.vecN (s:=2) (y:=T6) rfl r53g phl)).off (by omega)) rfl<|nsr<|mv1 rfl<|lr (Ev.lenS (α:=Str) (xs:=l33) (by decide) rfl rfl U43 (rdo 1 rfl rfl rfl))<|mv1 rfl<|nt0<|Cd.block ?_
  refine Cd.bound (Rd.le (α:=Str) (xs:=l33) (by decide) (rdo 1 rfl rfl rfl)) (fun hN164=>?_)
  obtain ⟨ol62,H,HKl62⟩:=bs H
  refine Cd.loop (σ:=Nat×Nat×RWld×(Vector (LR Saying) 6)×(Vector ToR 6)×(Vector FromR 6)×(Vector ToR 6)×Sl×(List Str)×Sl×(List Mark)×Sl×(List Note)) (fun (i62,k62,y63,rs64,rs67,rs70,rs73,s76,l77,s78,l79,s80,l81)=>[(0,pv ba0 0),(3,pv b6 0),(4,iv x9.Next),(52,Sl.v s32),(53,iv (l33.length:Int)),(54,iv (i62:Int))]) (fun (i62,k62,y63,rs64,rs67,rs70,rs73,s76,l77,s78,l79,s80,l81)=>(.blk b29 (enc T6) 41)::(.own s32 9 1 (encs l33))::(.blk b6 (enc a1) 132)::(mii qa0x2 a0.gone)::(.own s76 9 1 (encs l77))::(.own s78 198 2 (encs l79))::(.own s80 132 12 (encs l81))::(.blk ba0 (enc (RWldR.mk ({y63 with gone:=a0.gone,order:=l77,marks:=l79,WayNotes:=l81}:RWld) (some qa0x2) rs64 rs67 rs70 rs73 s76 s78 s80)) 50)::L) (fun Fx=>(fun (i62,k62,y63,rs64,rs67,rs70,rs73,s76,l77,s78,l79,s80,l81)=>rangeF (partref_World_comes_B1 fu a0 a1 x9 l33) k62 i62 (y63,l77,l79,l81)=some ol62∧i62+k62=l33.length∧rs64.toList.map LR.v=y63.Logs.toList∧All LR.rel w0 Fx M rs64.toList∧rs67.toList.map ToR.v=y63.want.toList∧All ToR.rel w0 Fx M rs67.toList∧rs70.toList.map FromR.v=y63.Late.toList∧All FromR.rel w0 Fx M rs70.toList∧rs73.toList.map ToR.v=y63.in_.toList∧All ToR.rel w0 Fx M rs73.toList)) (fun (i62,k62,y63,rs64,rs67,rs70,rs73,s76,l77,s78,l79,s80,l81)=>k62) (0,l33.length,({a0 with in_:=p58}:RWld),ra0x3,ra0x4,ra0x5,T18,sa0x7,a0.order,sa0x8,a0.marks,sa0x9,a0.WayNotes) ⟨rfl,rfl,rfl,rfl,rfl,rfl,trivial⟩ rfl ⟨H,by omega,ma0x3,(All.monoLR na0x3 (ft hF49 hF55) rl),ma0x4,(All.monoTo na0x4 (ft hF49 hF55) rl),ma0x5,(All.monoFrom na0x5 (ft hF49 hF55) rl),hm60,(All.monoTo ha61 fl rl)⟩ ?_
  rintro F82 ⟨i62,k62,y63,rs64,rs67,rs70,rs73,s76,l77,s78,l79,s80,l81⟩ hF83 ⟨H,hik62,fm65,fa66,fm68,fa69,fm71,fa72,fm74,fa75⟩
  let T1:=({Mark.zero with from_:=a1.From,seq:=w64 (x9.Next+(i62:Int))}:Mark)
  rcases k62 with _ | k62
  ·have hc62:decide ((i62:Int) < (l33.length:Int))=false:=decide_eq_false (by omega)
   replace H:=rangeF_end H
   refine sr0<|lr (Ev.lss rfl rfl)<|nt0<|Cd.seq<|Cd.condF rfl hc62<|Cd.exit<|At.then_exit<|At.then_exit<|At.in_exit ?_
   subst H
   replace H:=HKl62
   refine At.in_normal ?_
   obtain rfl:=si H
   exact At.ret0 (.inr rfl) rfl (ft (ft hF49 hF55) hF83) (sc1 (sc2 rl)) ⟨s76,s78,s80,rs64,rs67,rs70,rs73,rfl,rfl,fm65,(All.monoLR fa66 fl rl),fm68,(All.monoTo fa69 fl rl),fm71,(All.monoFrom fa72 fl rl),fm74,(All.monoTo fa75 fl rl)⟩
  have hc62:decide ((i62:Int) < (l33.length:Int))=true:=decide_eq_true (by omega)
  obtain ⟨c62,H,hgo62⟩:=rangeF_go H
  unfold partref_World_comes_B1 at H
  try dsimp only at H
  refine sr0<|lr (Ev.lss rfl rfl)<|nt0<|Cd.seq<|Cd.condT rfl hc62<|Cd.skip<|At.then<|Cd.seq<|Cd.block<|sr0<|mv1 rfl ?_
  obtain ⟨x84,h85,H⟩:=bs H
  let T23:=({y63 with gone:=a0.gone,order:=l77++([x84]:List Str),WayNotes:=l81}:RWld)
  have g86:=lat_some h85
  refine lr (Ev.indexS (α:=Str) (xs:=l33) rfl rfl U43 Z9 rfl (by decide) (rdo 1 rfl rfl rfl) g86.1 g86.2.1)<|lr (Ev.loadS (α:=Str) rfl (rdo 1 rfl rfl rfl) I9 (v:=Str.v x84) ((Get.elemN (s:=1) (x:=x84) rfl g86.2.2 gh0).off (by omega)))<|as1 rfl<|as1 rfl<|nsr<|mv1 rfl<|mv1 rfl<|lr (Ev.nilCheck rfl)<|lr (Ev.fo 46 rfl U50 rfl Z43 rfl rfl)<|lr (Ev.load (i:=7) rfl rfl I43 (v:=Sl.v s76) ((RWldR.get_order gh0).off rfl))<|mv1 rfl ?_
  refine Lst.buildSlice (α:=Str) (xs:=([x84]:List Str)) (pv:=[(0,Str.v x84)]) rfl rfl (by decide) ⟨rfl,rfl,trivial⟩ (run_buildSlice (α:=Str) (z0:=([]:Str)) (xs:=([x84]:List Str)) U43 Z9 Tryz.zeroValue9 rfl rfl rfl (by decide) rfl (fill_one rfl rfl)) rfl rfl (by decide) (fun s87 _=>?_)
  let T24:Item:=.own s87 9 1 (encs ([x84]:List Str))
  obtain ⟨u89,h90,H⟩:=bs H
  refine Lst.append (i:=5) (α:=Str) (xs:=l77) (ys:=([x84]:List Str)) rfl rfl (by decide) rfl rfl U43 Tryz.typeInfo9 rfl rfl rfl rfl rfl rfl (rdo 0 rfl rfl rfl) rfl (room_some h90) rfl (fun s91=>?_)
  let T22:Item:=.own s91 9 1 (encs (l77++([x84]:List Str)))
  refine lr (Ev.nilCheck rfl)<|lr (Ev.fo 46 rfl U50 rfl Z43 rfl rfl)<|lst 8 rfl rfl rfl Z43 (vs:=[Sl.v s91]) rfl rfl rfl (cs':=enc (RWldR.mk ({y63 with gone:=a0.gone,order:=l77++([x84]:List Str),marks:=l79,WayNotes:=l81}:RWld) (some qa0x2) rs64 rs67 rs70 rs73 s91 s78 s80)) ((RWldR.put_order (Put.here (vs:=[Sl.v s91]) rfl)).off rfl) rfl<|nt0<|Cd.seq ?_
  obtain ⟨u94,h95,H⟩:=bs H
  obtain ⟨o114,h115,H⟩:=Let_some H
  refine Cd.headMeet (σ:=Sl×(List Mark)×RWld×(Vector (LR Saying) 6)×(Vector ToR 6)×(Vector FromR 6)×(Vector ToR 6)×Sl) 13 (fun (s98,l99,y100,rs101,rs104,rs107,rs110,s113)=>[(0,pv ba0 0),(3,pv b6 0),(4,iv x9.Next),(52,Sl.v s32),(53,iv (l33.length:Int)),(54,iv (i62:Int)),(69,pv ba0 0),(81,Sl.v s98)]) (fun (s98,l99,y100,rs101,rs104,rs107,rs110,s113)=>T24::(.blk b29 (enc T6) 41)::(.own s32 9 1 (encs l33))::(.blk b6 (enc a1) 132)::(mii qa0x2 a0.gone)::T22::(.own s98 198 2 (encs l99))::(.own s80 132 12 (encs l81))::(.blk ba0 (enc (RWldR.mk ({y100 with gone:=a0.gone,order:=l77++([x84]:List Str),WayNotes:=l81}:RWld) (some qa0x2) rs101 rs104 rs107 rs110 s91 s113 s80)) 50)::L) (fun Fx (s98,l99,y100,rs101,rs104,rs107,rs110,s113)=>(l99,y100)=o114∧rs101.toList.map LR.v=y100.Logs.toList∧All LR.rel w0 Fx M rs101.toList∧rs104.toList.map ToR.v=y100.want.toList∧All ToR.rel w0 Fx M rs104.toList∧rs107.toList.map FromR.v=y100.Late.toList∧All FromR.rel w0 Fx M rs107.toList∧rs110.toList.map ToR.v=y100.in_.toList∧All ToR.rel w0 Fx M rs110.toList) (by kernel_rfl) (by kernel_rfl) (behind_sink (by kernel_rfl) (by kernel_rfl) (by kernel_rfl)) (by kernel_rfl) (fun hsel hlt=>?_) ?_
  ·refine HdJ.keep (fun w=>St w0 F82 (T24::(.blk b29 (enc T6) 41)::(.own s32 9 1 (encs l33))::(.blk b6 (enc a1) 132)::(mii qa0x2 a0.gone)::T22::(.own s80 132 12 (encs l81))::L) w) (fun w h=>trivial)<|hts rfl hsel hlt 0 (sk2 (sk4 (sc1 (sk1 (sc1 rl))))) rfl (Ev.move rfl)<|hts rfl hsel hlt 1 (sk2 (sk4 (sc1 (sk1 (sc1 rl))))) rfl (Ev.move rfl)<|hts rfl hsel hlt 2 (sk2 (sk4 (sc1 (sk1 (sc1 rl))))) rfl (Ev.nilCheck rfl)<|hts rfl hsel hlt 3 (sk2 (sk4 (sc1 (sk1 (sc1 rl))))) rfl (Ev.fo 47 rfl U50 rfl Z47 rfl rfl)<|hts rfl hsel hlt 5 (sk2 (sk4 (sc1 (sk1 (sc1 rl))))) rfl (Ev.fo 1 rfl U132 rfl Z3 rfl rfl)<|hts rfl hsel hlt 6 (sk2 (sk4 (sc1 (sk1 (sc1 rl))))) rfl (Ev.load (i:=3) rfl rfl I3 (v:=iv a1.From) ((Note.get_From gh0).off rfl))<|hts rfl hsel hlt 7 (sk2 (sk4 (sc1 (sk1 (sc1 rl))))) rfl (Ev.move rfl)<|hts rfl hsel hlt 8 (sk2 (sk4 (sc1 (sk1 (sc1 rl))))) rfl (Ev.move rfl)<|hts rfl hsel hlt 9 (sk2 (sk4 (sc1 (sk1 (sc1 rl))))) rfl (Ev.add rfl rfl)<|hts rfl hsel hlt 10 (sk2 (sk4 (sc1 (sk1 (sc1 rl))))) rfl (Ev.build (v:=.agg (enc T1).toArray) (pv:=[(0,iv a1.From),(1,iv (w64 (x9.Next+(i62:Int))))]) ⟨rfl,rfl,⟨rfl,rfl,trivial⟩⟩ (fun w=>by kernel_rfl)) ?_
   refine HdJ.step [4,11] (by kernel_rfl) rfl ?_
   refine HdStep.c (fun inv=>?_) ?_
   ·refine lr (Ev.load (i:=8) rfl rfl I47 (v:=Sl.v s78) ((RWldR.get_marks gh0).off rfl))<|hds inv (sk2 (sk4 (sc1 (sk1 (sc1 rl))))) ?_
    refine HdJ.o1 11 (fun inv=>?_)
    refine Lst.buildSlice (α:=Mark) (xs:=([T1]:List Mark)) (pv:=[(0,.agg (enc T1).toArray)]) rfl rfl (by decide) ⟨rfl,rfl,trivial⟩ (run_buildSlice (α:=Mark) (z0:=Mark.zero) (xs:=([T1]:List Mark)) U47 Z198 Tryz.zeroValue198 rfl rfl rfl (by decide) rfl (fill_one rfl rfl)) rfl rfl (by decide) (fun s116 _=>?_)
    refine hds inv (sc1 (sk2 (sk4 (sc1 (sk1 (sc1 rl)))))) ?_
    refine HdJ.o1 12 (fun inv=>?_)
    refine Lst.append (i:=7) (α:=Mark) (xs:=l79) (ys:=([T1]:List Mark)) rfl rfl (by decide) rfl rfl U47 Tryz.typeInfo198 rfl rfl rfl rfl rfl rfl (rdo 0 rfl rfl rfl) rfl (room_some h95) rfl (fun s117=>?_)
    refine hds inv (sc1 (sk2 (sk4 (sc1 (sk1 (sc1 rl))))))<|HdJ.done (by kernel_rfl)<|At.less (sc1 rl) ?_
    exact At.meetN (s117,l79++([T1]:List Mark),T23,rs64,rs67,rs70,rs73,s78) fl ⟨rfl,rfl,rfl,rfl,rfl,rfl,rfl,rfl,trivial⟩ rfl ⟨h115,fm65,(All.monoLR fa66 fl rl),fm68,(All.monoTo fa69 fl rl),fm71,(All.monoFrom fa72 fl rl),fm74,(All.monoTo fa75 fl rl)⟩
   refine HdStep.c (fun inv=>?_) trivial
   refine Lst.buildSlice (α:=Mark) (xs:=([T1]:List Mark)) (pv:=[(0,.agg (enc T1).toArray)]) rfl rfl (by decide) ⟨rfl,rfl,trivial⟩ (run_buildSlice (α:=Mark) (z0:=Mark.zero) (xs:=([T1]:List Mark)) U47 Z198 Tryz.zeroValue198 rfl rfl rfl (by decide) rfl (fill_one rfl rfl)) rfl rfl (by decide) (fun s118 _=>?_)
   refine hds inv (sc1 (sk2 (sk4 (sc1 (sk1 (sc1 rl)))))) ?_
   refine HdJ.o1 4 (fun inv=>?_)
   refine lr (Ev.load (i:=9) rfl rfl I47 (v:=Sl.v s78) ((RWldR.get_marks gh0).off rfl))<|hds inv (sc1 (sk2 (sk4 (sc1 (sk1 (sc1 rl)))))) ?_
   refine HdJ.o1 12 (fun inv=>?_)
   refine Lst.append (i:=7) (α:=Mark) (xs:=l79) (ys:=([T1]:List Mark)) rfl rfl (by decide) rfl rfl U47 Tryz.typeInfo198 rfl rfl rfl rfl rfl rfl (rdo 0 rfl rfl rfl) rfl (room_some h95) rfl (fun s119=>?_)
   refine hds inv (sc1 (sk2 (sk4 (sc1 (sk1 (sc1 rl))))))<|HdJ.done (by kernel_rfl)<|At.less (sc1 rl) ?_
   exact At.meetN (s119,l79++([T1]:List Mark),T23,rs64,rs67,rs70,rs73,s78) fl ⟨rfl,rfl,rfl,rfl,rfl,rfl,rfl,rfl,trivial⟩ rfl ⟨h115,fm65,(All.monoLR fa66 fl rl),fm68,(All.monoTo fa69 fl rl),fm71,(All.monoFrom fa72 fl rl),fm74,(All.monoTo fa75 fl rl)⟩
  rintro F120 ⟨s98,l99,y100,rs101,rs104,rs107,rs110,s113⟩ hF121 ⟨hy,fm102,fa103,fm105,fa106,fm108,fa109,fm111,fa112⟩
  let T20:=({y100 with gone:=a0.gone,order:=l77++([x84]:List Str),marks:=l99,WayNotes:=l81}:RWld)
  subst hy
  try dsimp only at H
  refine lr (Ev.nilCheck rfl)<|lr (Ev.fo 47 rfl U50 rfl Z47 rfl rfl)<|lst 8 rfl rfl rfl Z47 (vs:=[Sl.v s98]) rfl rfl rfl (cs':=enc (RWldR.mk T20 (some qa0x2) rs101 rs104 rs107 rs110 s91 s98 s80)) ((RWldR.put_marks (Put.here (vs:=[Sl.v s98]) rfl)).off rfl) rfl<|nsr<|mv1 rfl<|lr (Ev.nilCheck rfl)<|lr (Ev.fo 0 rfl U50 rfl Z3 rfl rfl)<|lr (Ev.load (i:=8) rfl rfl I3 (v:=iv y100.n) ((RWldR.get_n gh0).off rfl))<|mv1 rfl<|nt0<|Cd.block ?_
  obtain ⟨nn140,hN163,H⟩:=bs H
  replace hN163:=upTo_some hN163
  obtain ⟨ol122,H,HKl122⟩:=bs H
  refine Cd.loop (σ:=Nat×Nat×RWld×(Vector (LR Saying) 6)×(Vector ToR 6)×(Vector FromR 6)×(Vector ToR 6)×Sl×(List Note)) (fun (i122,k122,y123,rs124,rs127,rs130,rs133,s136,l137)=>[(0,pv ba0 0),(3,pv b6 0),(4,iv x9.Next),(52,Sl.v s32),(53,iv (l33.length:Int)),(54,iv (i62:Int)),(87,iv y100.n),(88,iv (i122:Int))]) (fun (i122,k122,y123,rs124,rs127,rs130,rs133,s136,l137)=>T24::(.blk b29 (enc T6) 41)::(.own s32 9 1 (encs l33))::(.blk b6 (enc a1) 132)::(mii qa0x2 a0.gone)::T22::(.own s98 198 2 (encs l99))::(.own s136 132 12 (encs l137))::(.blk ba0 (enc (RWldR.mk ({y123 with gone:=a0.gone,order:=l77++([x84]:List Str),marks:=l99,WayNotes:=l137}:RWld) (some qa0x2) rs124 rs127 rs130 rs133 s91 s98 s136)) 50)::L) (fun Fx=>(fun (i122,k122,y123,rs124,rs127,rs130,rs133,s136,l137)=>rangeF (partref_World_comes_B3 fu a0 l77 x84 l99) k122 i122 (y123,l137)=some ol122∧i122+k122=nn140∧rs124.toList.map LR.v=y123.Logs.toList∧All LR.rel w0 Fx M rs124.toList∧rs127.toList.map ToR.v=y123.want.toList∧All ToR.rel w0 Fx M rs127.toList∧rs130.toList.map FromR.v=y123.Late.toList∧All FromR.rel w0 Fx M rs130.toList∧rs133.toList.map ToR.v=y123.in_.toList∧All ToR.rel w0 Fx M rs133.toList)) (fun (i122,k122,y123,rs124,rs127,rs130,rs133,s136,l137)=>k122) (0,nn140,T20,rs101,rs104,rs107,rs110,s80,l81) ⟨rfl,rfl,rfl,rfl,rfl,rfl,rfl,rfl,trivial⟩ rfl ⟨H,by omega,fm102,(All.monoLR fa103 fl rl),fm105,(All.monoTo fa106 fl rl),fm108,(All.monoFrom fa109 fl rl),fm111,(All.monoTo fa112 fl rl)⟩ ?_
  rintro F138 ⟨i122,k122,y123,rs124,rs127,rs130,rs133,s136,l137⟩ hF139 ⟨H,hik122,fm125,fa126,fm128,fa129,fm131,fa132,fm134,fa135⟩
  let T19:=({y123 with gone:=a0.gone,order:=l77++([x84]:List Str),marks:=l99,WayNotes:=l137}:RWld)
  rcases k122 with _ | k122
  ·have hc122:decide ((i122:Int) < y100.n)=false:=decide_eq_false (by omega)
   replace H:=rangeF_end H
   refine sr0<|lr (Ev.lss rfl rfl)<|nt0<|Cd.seq<|Cd.condF rfl hc122<|Cd.exit<|At.then_exit<|At.then_exit<|At.in_exit ?_
   subst H
   replace H:=HKl122
   refine At.in_normal<|At.then<|Cd.region<|lr (Ev.incr (by omega) rfl rfl)<|mv1 rfl<|Lst.nil<|At.less (sc1 rl) ?_
   exact At.meet (i62+1,k62,T19,rs124,rs127,rs130,rs133,s91,l77++([x84]:List Str),s98,l99,s136,l137) (ft (ft hF83 hF121) hF139) ⟨rfl,rfl,rfl,rfl,rfl,rfl,trivial⟩ rfl ⟨⟨hgo62 _ (sj H),by omega,fm125,(All.monoLR fa126 fl rl),fm128,(All.monoTo fa129 fl rl),fm131,(All.monoFrom fa132 fl rl),fm134,(All.monoTo fa135 fl rl)⟩,nls⟩
  have hc122:decide ((i122:Int) < y100.n)=true:=decide_eq_true (by omega)
  obtain ⟨c122,H,hgo122⟩:=rangeF_go H
  unfold partref_World_comes_B3 at H
  try dsimp only at H
  refine sr0<|lr (Ev.lss rfl rfl)<|nt0<|Cd.seq<|Cd.condT rfl hc122<|Cd.skip<|At.then<|Cd.seq<|Cd.block<|sr0<|mv1 rfl ?_
  refine as1 rfl<|nsr<|mv1 rfl<|mv1 rfl ?_
  obtain ⟨r141,h142,H⟩:=bs H
  refine lf 8 rfl<|lf 8 rfl<|lf 8 rfl<|lf 8 rfl<|lf 8 rfl<|cl1 rfl (vs:=[pv ba0 0,iv (i122:Int)]) ⟨rfl,rfl,trivial⟩ Tryz.call75 (partref_World_Here_sim h142 w0 _ M _ (sc4 hM) fm125 (All.monoLR fa126 fl rl) fm128 (All.monoTo fa129 fl rl) fm131 (All.monoFrom fa132 fl rl) fm134 (All.monoTo fa135 fl rl))<|nt0 ?_
  rcases ic2 H with ⟨hb145,H⟩|⟨hb145,H⟩
  ·refine Cd.condF rfl hb145<|Cd.skip<|At.in_normal<|At.then<|Cd.region<|lr (Ev.incr (by omega) rfl rfl)<|mv1 rfl<|Lst.nil<|af 8 rfl<|af 8 rfl<|af 8 rfl ?_
   refine af 8 rfl ?_
   exact At.meet (i122+1,k122,T19,rs124,rs127,rs130,rs133,s136,l137) hF139 ⟨rfl,rfl,rfl,rfl,rfl,rfl,rfl,rfl,trivial⟩ rfl ⟨⟨hgo122 _ (sj H),by omega,fm125,(All.monoLR fa126 fl rl),fm128,(All.monoTo fa129 fl rl),fm131,(All.monoFrom fa132 fl rl),fm134,(All.monoTo fa135 fl rl)⟩,nls⟩
  refine Cd.condT rfl hb145<|Cd.region<|mv1 rfl<|mv1 rfl<|mv1 rfl<|lr (Ev.nilCheck rfl)<|lr (Ev.fo 46 rfl U50 rfl Z43 rfl rfl)<|lr (Ev.load (i:=4) rfl rfl I43 (v:=Sl.v s91) ((RWldR.get_order gh0).off rfl))<|lr (Ev.lenS (α:=Str) (xs:=(l77++([x84]:List Str))) (by decide) rfl rfl U43 (rdo 1 rfl rfl rfl))<|lr (Ev.sub rfl rfl) ?_
  obtain ⟨r146,h147,H⟩:=bs H
  refine cl rfl (vs:=[pv ba0 0,iv (i122:Int),iv (w64 (((l77++([x84]:List Str)).length:Int) - (1:Int)))]) ⟨rfl,rfl,rfl,trivial⟩ Tryz.call131 (partref_World_tell_sim h147 w0 _ M _ (sc4 hM) hT fm125 (All.monoLR fa126 fl rl) fm128 (All.monoTo fa129 fl rl) fm131 (All.monoFrom fa132 fl rl) fm134 (All.monoTo fa135 fl rl)) (fun F161 L' v hF162 hv=>?_)
  obtain ⟨s148,rs149,rs152,rs155,rs158,rfl,rfl,fm150,fa151,fm153,fa154,fm156,fa157,fm159,fa160⟩:=hv
  refine Lst.nil<|At.in_normal<|At.then<|Cd.region<|lr (Ev.incr (by omega) rfl rfl)<|mv1 rfl<|Lst.nil<|af 8 rfl<|af 8 rfl<|af 8 rfl<|af 8 rfl ?_
  exact At.meet (i122+1,k122,({r146.2 with gone:=a0.gone,order:=l77++([x84]:List Str),marks:=l99,WayNotes:=r146.1}:RWld),rs149,rs152,rs155,rs158,s148,r146.1) (ft hF139 hF162) ⟨rfl,rfl,rfl,rfl,rfl,rfl,rfl,rfl,trivial⟩ rfl ⟨⟨hgo122 _ (sj H),by omega,fm150,(All.monoLR fa151 fl rl),fm153,(All.monoTo fa154 fl rl),fm156,(All.monoFrom fa157 fl rl),fm159,(All.monoTo fa160 fl rl)⟩,nls⟩
 refine Cd.condF rfl hb8<|sr0<|lr (Ev.eql rfl rfl)<|as1 rfl<|nt0 ?_
 rcases ic H with ⟨hb165,H⟩|⟨hb165,H⟩
 ·refine Cd.condT rfl hb165<|sr0<|lr (Ev.fo 4 rfl U132 rfl Z3 rfl rfl)<|lr (Ev.load (i:=0) rfl rfl I3 (v:=iv a1.Seq) ((Note.get_Seq gh0).off rfl))<|as1 rfl<|nt0<|Cd.block ?_
  obtain ⟨ol166,H,HKl166⟩:=andThen_some H
  refine Cd.loop (σ:=Nat×Int×RWld×(Vector (LR Saying) 6)×(Vector ToR 6)×(Vector FromR 6)×(Vector ToR 6)×Sl×(List Note)) (fun (k166,y167,y168,rs169,rs172,rs175,rs178,s181,l182)=>[(0,pv ba0 0),(3,pv b6 0),(10,iv y167)]) (fun (k166,y167,y168,rs169,rs172,rs175,rs178,s181,l182)=>(.blk b6 (enc a1) 132)::(mii qa0x2 a0.gone)::T11::T9::(.own s181 132 12 (encs l182))::(.blk ba0 (enc (RWldR.mk ({y168 with gone:=a0.gone,order:=a0.order,marks:=a0.marks,WayNotes:=l182}:RWld) (some qa0x2) rs169 rs172 rs175 rs178 sa0x7 sa0x8 s181)) 50)::L) (fun Fx=>(fun (k166,y167,y168,rs169,rs172,rs175,rs178,s181,l182)=>whileM (partref_World_comes_B5 fu a0 a1) k166 (y167,y168,l182)=some ol166∧rs169.toList.map LR.v=y168.Logs.toList∧All LR.rel w0 Fx M rs169.toList∧rs172.toList.map ToR.v=y168.want.toList∧All ToR.rel w0 Fx M rs172.toList∧rs175.toList.map FromR.v=y168.Late.toList∧All FromR.rel w0 Fx M rs175.toList∧rs178.toList.map ToR.v=y168.in_.toList∧All ToR.rel w0 Fx M rs178.toList)) (fun (k166,y167,y168,rs169,rs172,rs175,rs178,s181,l182)=>k166) (fu,a1.Seq,a0,ra0x3,ra0x4,ra0x5,ra0x6,sa0x9,a0.WayNotes) ⟨rfl,rfl,rfl,trivial⟩ rfl ⟨H,ma0x3,(All.monoLR na0x3 fl rl),ma0x4,(All.monoTo na0x4 fl rl),ma0x5,(All.monoFrom na0x5 fl rl),ma0x6,(All.monoTo na0x6 fl rl)⟩ ?_
  rintro F183 ⟨k166,y167,y168,rs169,rs172,rs175,rs178,s181,l182⟩ hF184 ⟨H,fm170,fa171,fm173,fa174,fm176,fa177,fm179,fa180⟩
  rcases k166 with _ | k166
  ·cases H
  obtain ⟨c166,H,hgo166,hbrk166,hret166⟩:=whileM_go H
  unfold partref_World_comes_B5 at H
  try dsimp only at H
  refine Cd.seq<|Cd.seq<|Cd.quiet (by kernel_rfl) (by kernel_rfl)<|qr (Ev.move rfl)<|qr (Ev.move rfl)<|qr (Ev.nilCheck rfl)<|qr (Ev.fo 46 rfl U50 rfl Z43 rfl rfl)<|qr (Ev.load (i:=5) rfl rfl I43 (v:=Sl.v sa0x7) ((RWldR.get_order gh0).off rfl))<|qr (Ev.lenS (α:=Str) (xs:=a0.order) (by decide) rfl rfl U43 (rdo 2 rfl rfl rfl))<|qr (Ev.fo 4 rfl U132 rfl Z3 rfl rfl)<|qr (Ev.load (i:=0) rfl rfl I3 (v:=iv a1.Seq) ((Note.get_Seq gh0).off rfl)) ?_
  refine qr (Ev.add rfl rfl)<|qr (Ev.min2 rfl rfl)<|qr (Ev.lss rfl rfl)<|Qt.done<|At.then ?_
  rcases ic2 H with ⟨hb185,H⟩|⟨hb185,H⟩
  ·refine Cd.condF rfl hb185<|Cd.exit<|At.then_exit<|At.then_exit<|At.in_exit ?_
   have H:=hbrk166 _ (sj H)
   subst H
   replace H:=HKl166
   refine At.in_normal ?_
   obtain rfl:=si H
   exact At.ret0 (.inr rfl) rfl hF184 (sc1 rl) ⟨sa0x7,sa0x8,s181,rs169,rs172,rs175,rs178,rfl,rfl,fm170,(All.monoLR fa171 fl rl),fm173,(All.monoTo fa174 fl rl),fm176,(All.monoFrom fa177 fl rl),fm179,(All.monoTo fa180 fl rl)⟩
  refine Cd.condT rfl hb185<|Cd.skip<|At.then<|Cd.seq<|Cd.block<|Cd.region<|mv1 rfl<|lr (Ev.fo 1 rfl U132 rfl Z3 rfl rfl)<|lr (Ev.load (i:=0) rfl rfl I3 (v:=iv a1.From) ((Note.get_From gh0).off rfl))<|mv1 rfl ?_
  obtain ⟨r186,h187,H⟩:=bs H
  refine lf 5 rfl<|lf 5 rfl<|lf 5 rfl<|lf 5 rfl<|lf 5 rfl ?_
  refine cl rfl (vs:=[pv ba0 0,iv a1.From,iv y167]) ⟨rfl,rfl,rfl,trivial⟩ Tryz.call131 (partref_World_tell_sim h187 w0 _ M _ (sc1 hM) hT fm170 (All.monoLR fa171 fl rl) fm173 (All.monoTo fa174 fl rl) fm176 (All.monoFrom fa177 fl rl) fm179 (All.monoTo fa180 fl rl)) (fun F201 L' v hF202 hv=>?_)
  obtain ⟨s188,rs189,rs192,rs195,rs198,rfl,rfl,fm190,fa191,fm193,fa194,fm196,fa197,fm199,fa200⟩:=hv
  refine Lst.nil<|At.in_normal<|At.then<|Cd.region<|mv1 rfl<|lr (Ev.add rfl rfl)<|as1 rfl<|Lst.nil<|af 5 rfl ?_
  exact At.meet (k166,w64 (y167+(1:Int)),({r186.2 with gone:=a0.gone,order:=a0.order,marks:=a0.marks,WayNotes:=r186.1}:RWld),rs189,rs192,rs195,rs198,s188,r186.1) (ft hF184 hF202) ⟨rfl,rfl,rfl,trivial⟩ rfl ⟨⟨hgo166 _ (sj H),fm190,(All.monoLR fa191 fl rl),fm193,(All.monoTo fa194 fl rl),fm196,(All.monoFrom fa197 fl rl),fm199,(All.monoTo fa200 fl rl)⟩,nls⟩
 refine Cd.condF rfl hb165<|sr0<|lr (Ev.eql rfl rfl)<|as1 rfl<|nt0 ?_
 rcases ic2 H with ⟨hb203,H⟩|⟨hb203,H⟩
 ·refine Cd.condF rfl hb203<|Cd.skip<|At.in_normal ?_
  obtain rfl:=si H
  exact At.ret0 (.inr rfl) rfl fl (sc1 rl) ⟨sa0x7,sa0x8,sa0x9,ra0x3,ra0x4,ra0x5,ra0x6,rfl,rfl,ma0x3,(All.monoLR na0x3 fl rl),ma0x4,(All.monoTo na0x4 fl rl),ma0x5,(All.monoFrom na0x5 fl rl),ma0x6,(All.monoTo na0x6 fl rl)⟩
 refine Cd.condT rfl hb203<|Cd.seq<|Cd.quiet (by kernel_rfl) (by kernel_rfl)<|qr (Ev.move rfl)<|qr (Ev.fo 2 rfl U132 rfl Z3 rfl rfl)<|qr (Ev.load (i:=0) rfl rfl I3 (v:=iv a1.To) ((Note.get_To gh0).off rfl))<|qr (Ev.nilCheck rfl)<|qr (Ev.fo 10 rfl U50 rfl Z42 rfl rfl) ?_
 obtain ⟨x204,h205,H⟩:=bs H
 have g206:=vat_some h205
 obtain ⟨⟨r207v,r207h1⟩,r207g,r207e,r207m,r207l⟩:=vmap_get ma0x4 g206.2.2
 obtain rfl:x204=r207v:=r207e.symm
 have r207q:ToR.rel w0 _ _ (ToR.mk x204 r207h1):=na0x4 _ r207m
 have r207_f1:Rd w0 _ _ _ _:=r207q
 refine qr (Ev.indexAddr (off':=10+a1.To.toNat * 2) rfl rfl U42 Z41 g206.1 g206.2.1 rfl)<|qr (Ev.fo (10+a1.To.toNat * 2+0) rfl U41 rfl Z3 rfl rfl)<|qr (Ev.load (i:=5) rfl rfl I3 (v:=iv x204.Next) ((RWldR.get_want (p:=T2) (Get.vecN (s:=2) rfl r207g (ToR.get_Next gh0))).off (by omega)))<|qr (Ev.assign rfl)<|Qt.done<|At.then<|Cd.seq ?_
 obtain ⟨x208,h209,H⟩:=bs H
 obtain ⟨r212,h213,H⟩:=bs H
 obtain ⟨o229,h230,H⟩:=Let_some H
 refine Cd.headMeet (σ:=Nat×Sl×(List Parcel)×Sl×(List Str)) 18 (fun (b224,s225,l226,s227,l228)=>[(0,pv ba0 0),(3,pv b6 0),(11,iv x204.Next),(12,pv b224 0),(152,Sl.v s227)]) (fun (b224,s225,l226,s227,l228)=>(.blk b224 (enc (ToR.mk ({r212.1 with Early:=l226}:To) s225)) 41)::(.own s225 146 2 (encs l226))::(.own s227 9 1 (encs l228))::(.blk b6 (enc a1) 132)::(mii qa0x2 a0.gone)::T11::T9::T8::(.blk ba0 (enc T2) 50)::L) (fun _ (b224,s225,l226,s227,l228)=>(l226,l228)=o229) (by kernel_rfl) (by kernel_rfl) (behind_sink (by kernel_rfl) (by kernel_rfl) (by kernel_rfl)) (by kernel_rfl) (fun hsel hlt=>?_) ?_
 ·refine HdJ.keep (fun w=>St w0 F ((.blk b6 (enc a1) 132)::(mii qa0x2 a0.gone)::T11::T9::T8::(.blk ba0 (enc T2) 50)::L) w) (fun w h=>trivial)<|hts rfl hsel hlt 0 rl rfl (Ev.move rfl)<|hts rfl hsel hlt 1 rl rfl (Ev.fo 2 rfl U132 rfl Z3 rfl rfl)<|hts rfl hsel hlt 2 rl rfl (Ev.load (i:=0) rfl rfl I3 (v:=iv a1.To) ((Note.get_To gh0).off rfl))<|hts rfl hsel hlt 3 rl rfl (Ev.nilCheck rfl)<|hts rfl hsel hlt 4 rl rfl (Ev.fo 10 rfl U50 rfl Z42 rfl rfl) ?_
  have g231:=vat_some h209
  obtain ⟨⟨r232v,r232h1⟩,r232g,r232e,r232m,r232l⟩:=vmap_get ma0x4 g231.2.2
  obtain rfl:x208=r232v:=r232e.symm
  have r232q:ToR.rel w0 _ _ (ToR.mk x208 r232h1):=na0x4 _ r232m
  have r232_f1:Rd w0 _ _ _ _:=r232q
  refine hts rfl hsel hlt 5 rl rfl (Ev.indexAddr (off':=10+a1.To.toNat * 2) rfl rfl U42 Z41 g231.1 g231.2.1 rfl)<|hts rfl hsel hlt 6 rl rfl (Ev.loadA (i:=5) rfl rfl I41 Z41 (ch:=enc (ToR.mk x208 r232h1)) el ((RWldR.get_want (p:=T2) (Get.vecN (s:=2) rfl r232g gh0)).off (by omega)))<|hts rfl hsel hlt 7 rl rfl (Ev.fo 4 rfl U132 rfl Z3 rfl rfl)<|hts rfl hsel hlt 8 rl rfl (Ev.load (i:=0) rfl rfl I3 (v:=iv a1.Seq) ((Note.get_Seq gh0).off rfl))<|hts rfl hsel hlt 9 rl rfl (Ev.fo 11 rfl U132 rfl Z9 rfl rfl)<|hts rfl hsel hlt 10 rl rfl (Ev.load (i:=0) rfl rfl I9 (v:=Str.v a1.Text) ((Note.get_Text gh0).off rfl))<|hts rfl hsel hlt 11 rl rfl (Ev.build (v:=.agg (enc T12).toArray) (pv:=[(0,iv a1.Seq),(1,Str.v a1.Text)]) ⟨rfl,rfl,⟨rfl,rfl,trivial⟩⟩ (fun w=>by kernel_rfl))<|HdJ.step [12,16] (by kernel_rfl) rfl ?_
  refine HdStep.c (fun inv=>?_) ?_
  ·refine cl rfl (vs:=[.agg (enc (ToR.mk x208 r232h1)).toArray,.agg (enc T12).toArray]) ⟨rfl,rfl,trivial⟩ Tryz.call130 (partref_TakeParcel_sim h213 w0 _ M _ (sc4 (sc2 hM)) (r232_f1.mono fl rl)) (fun F235 L' v hF236 hv=>?_)
   obtain ⟨s233,s234,rfl,rfl⟩:=hv
   refine Lst.nil<|At.hd inv (fun w h=>(h.weaken hF236).sublist (sc2 rl))<|HdJ.keep (fun w=>St w0 F235 ((.own s233 146 2 (encs r212.1.Early))::(.own s234 9 1 (encs r212.2))::(.blk b6 (enc a1) 132)::(mii qa0x2 a0.gone)::T11::T9::T8::(.blk ba0 (enc T2) 50)::L) w) (fun w h=>(h.weaken hF236).sublist (sc2 rl))<|hts rfl hsel hlt 13 rl rfl (Ev.move rfl)<|hts rfl hsel hlt 14 rl rfl (Ev.extract rfl rfl)<|hts rfl hsel hlt 15 rl rfl (Ev.extract rfl rfl) ?_
   refine HdJ.o1 16 (fun inv=>?_)
   refine Lst.addNil 146 2 ?_
   refine Lst.alloc (cs:=enc T15) rfl rfl (by decide) Tryz.zeroValue41 rfl (fun b237=>?_)
   refine hds inv (sc2 rl) ?_
   refine HdJ.o1 17 (fun inv=>?_)
   refine lst 0 rfl rfl rfl Z41 (vs:=enc (ToR.mk r212.1 s233)) rfl el (Enc.one _) (cs':=enc (ToR.mk r212.1 s233)) phl rfl<|hds inv (sc2 rl)<|HdJ.done (by kernel_rfl)<|At.less (sk1 (sc1 rl)) ?_
   exact At.meetN (b237,s233,r212.1.Early,s234,r212.2) hF236 ⟨rfl,rfl,rfl,rfl,rfl,trivial⟩ rfl h230
  refine HdStep.c (fun inv=>?_) trivial
  refine Lst.addNil 146 2 ?_
  refine Lst.alloc (cs:=enc T15) rfl rfl (by decide) Tryz.zeroValue41 rfl (fun b238=>?_)
  refine hds inv (sc2 rl) ?_
  refine HdJ.o1 12 (fun inv=>?_)
  refine cl rfl (vs:=[.agg (enc (ToR.mk x208 r232h1)).toArray,.agg (enc T12).toArray]) ⟨rfl,rfl,trivial⟩ Tryz.call130 (partref_TakeParcel_sim h213 w0 _ M _ (sc8 hM) (r232_f1.mono fl rl)) (fun F241 L' v hF242 hv=>?_)
  obtain ⟨s239,s240,rfl,rfl⟩:=hv
  refine Lst.nil<|At.hd inv (fun w h=>(h.weaken hF242).sublist (sc4 rl))<|HdJ.keep (fun w=>St w0 F241 ((.own s239 146 2 (encs r212.1.Early))::(.own s240 9 1 (encs r212.2))::(.own Sl.nil 146 2 (encs ([]:List Parcel)))::(.blk b6 (enc a1) 132)::(mii qa0x2 a0.gone)::T11::T9::T8::(.blk ba0 (enc T2) 50)::L) w) (fun w h=>(h.weaken hF242).sublist (sc1 (sc2 rl)))<|hts rfl hsel hlt 13 (sk2 (sc1 rl)) rfl (Ev.move rfl)<|hts rfl hsel hlt 14 (sk2 (sc1 rl)) rfl (Ev.extract rfl rfl)<|hts rfl hsel hlt 15 (sk2 (sc1 rl)) rfl (Ev.extract rfl rfl) ?_
  refine HdJ.o1 17 (fun inv=>?_)
  refine lst 2 rfl rfl rfl Z41 (vs:=enc (ToR.mk r212.1 s239)) rfl el (Enc.one _) (cs':=enc (ToR.mk r212.1 s239)) phl rfl<|hds inv (sk2 (sc1 rl))<|HdJ.done (by kernel_rfl)<|af 2 rfl<|At.less (sk1 (sk2 (sc1 rl))) ?_
  exact At.meetN (b238,s239,r212.1.Early,s240,r212.2) hF242 ⟨rfl,rfl,rfl,rfl,rfl,trivial⟩ rfl h230
 rintro F243 ⟨b224,s225,l226,s227,l228⟩ hF244 hy
 let T7:=ToR.mk ({r212.1 with Early:=l226}:To) s225
 let T21:=ra0x4.setIfInBounds a1.To.toNat T7
 subst hy
 try dsimp only at H
 refine as1 rfl<|nt0<|Cd.seq<|Cd.tail 7 (by kernel_rfl) (by kernel_rfl)<|qr (Ev.move rfl)<|qr (Ev.fo 2 rfl U132 rfl Z3 rfl rfl)<|qr (Ev.load (i:=3) rfl rfl I3 (v:=iv a1.To) ((Note.get_To gh0).off rfl))<|qr (Ev.loadA (i:=0) rfl rfl I41 Z41 (ch:=enc T7) el gh0)<|qr (Ev.nilCheck rfl)<|qr (Ev.fo 10 rfl U50 rfl Z42 rfl rfl) ?_
 obtain ⟨x245,h246,H⟩:=bs H
 have g247:=vat_some h246
 obtain ⟨⟨r248v,r248h1⟩,r248g,r248e,r248m,r248l⟩:=vmap_get ma0x4 g247.2.2
 obtain rfl:x245=r248v:=r248e.symm
 have r248q:ToR.rel w0 _ _ (ToR.mk x245 r248h1):=na0x4 _ r248m
 have r248_f1:Rd w0 _ _ _ _:=r248q
 refine qr (Ev.indexAddr (off':=10+a1.To.toNat * 2) rfl rfl U42 Z41 g247.1 g247.2.1 rfl)<|Qt.tail ?_
 obtain ⟨p253,h254,H⟩:=Let_some H
 refine Lst.freeze (i:=1) rfl (fun F249 hF250 hz251=>?_)
 have hq252:Rd w0 F249 [] s225 l226:=Rd.frozen hz251 rfl rfl
 have hm255:T21.toList.map ToR.v=p253.toList:=(vmap_set ma0x4 _ _).trans (congrArg Vector.toList h254)
 have ha256:All ToR.rel w0 F249 M T21.toList:=vAll_set (All.monoTo na0x4 (ft hF244 hF250) rl) ((hq252.mono fl nsl))
 refine lst 7 rfl rfl rfl Z41 (vs:=enc T7) rfl el (Enc.one _) (cs':=enc (RWldR.mk ({a0 with want:=p253}:RWld) (some qa0x2) ra0x3 T21 ra0x5 ra0x6 sa0x7 sa0x8 sa0x9)) ((RWldR.put_want (l:=p253) (Put.vecN (s:=2) (y:=T7) rfl r248g phl)).off (by omega)) rfl<|nsr<|mv1 rfl<|lr (Ev.lenS (α:=Str) (xs:=l228) (by decide) rfl rfl U43 (rdo 1 rfl rfl rfl))<|mv1 rfl<|nt0<|Cd.block ?_
 refine Cd.bound (Rd.le (α:=Str) (xs:=l228) (by decide) (rdo 1 rfl rfl rfl)) (fun hN353=>?_)
 obtain ⟨ol257,H,HKl257⟩:=bs H
 refine Cd.loop (σ:=Nat×Nat×RWld×(Vector (LR Saying) 6)×(Vector ToR 6)×(Vector FromR 6)×(Vector ToR 6)) (fun (i257,k257,y258,rs259,rs262,rs265,rs268)=>[(0,pv ba0 0),(3,pv b6 0),(11,iv x204.Next),(161,iv (l228.length:Int)),(162,iv (i257:Int))]) (fun (i257,k257,y258,rs259,rs262,rs265,rs268)=>(.blk b224 (enc T7) 41)::(.own s227 9 1 (encs l228))::(.blk b6 (enc a1) 132)::(mii qa0x2 a0.gone)::T11::T9::T8::(.blk ba0 (enc (RWldR.mk ({y258 with gone:=a0.gone,order:=a0.order,marks:=a0.marks,WayNotes:=a0.WayNotes}:RWld) (some qa0x2) rs259 rs262 rs265 rs268 sa0x7 sa0x8 sa0x9)) 50)::L) (fun Fx=>(fun (i257,k257,y258,rs259,rs262,rs265,rs268)=>rangeF (partref_World_comes_B7 a0 a1 x204) k257 i257 y258=some ol257∧i257+k257=l228.length∧rs259.toList.map LR.v=y258.Logs.toList∧All LR.rel w0 Fx M rs259.toList∧rs262.toList.map ToR.v=y258.want.toList∧All ToR.rel w0 Fx M rs262.toList∧rs265.toList.map FromR.v=y258.Late.toList∧All FromR.rel w0 Fx M rs265.toList∧rs268.toList.map ToR.v=y258.in_.toList∧All ToR.rel w0 Fx M rs268.toList)) (fun (i257,k257,y258,rs259,rs262,rs265,rs268)=>k257) (0,l228.length,({a0 with want:=p253}:RWld),ra0x3,T21,ra0x5,ra0x6) ⟨rfl,rfl,rfl,rfl,rfl,trivial⟩ rfl ⟨H,by omega,ma0x3,(All.monoLR na0x3 (ft hF244 hF250) rl),hm255,(All.monoTo ha256 fl rl),ma0x5,(All.monoFrom na0x5 (ft hF244 hF250) rl),ma0x6,(All.monoTo na0x6 (ft hF244 hF250) rl)⟩ ?_
 rintro F271 ⟨i257,k257,y258,rs259,rs262,rs265,rs268⟩ hF272 ⟨H,hik257,fm260,fa261,fm263,fa264,fm266,fa267,fm269,fa270⟩
 let T10:=RWldR.mk ({y258 with gone:=a0.gone,order:=a0.order,marks:=a0.marks,WayNotes:=a0.WayNotes}:RWld) (some qa0x2) rs259 rs262 rs265 rs268 sa0x7 sa0x8 sa0x9
 rcases k257 with _ | k257
 ·have hc257:decide ((i257:Int) < (l228.length:Int))=false:=decide_eq_false (by omega)
  replace H:=rangeF_end H
  refine sr0<|lr (Ev.lss rfl rfl)<|nt0<|Cd.seq<|Cd.condF rfl hc257<|Cd.exit<|At.then_exit<|At.then_exit<|At.in_exit ?_
  subst H
  replace H:=HKl257
  refine At.in_normal ?_
  obtain rfl:=si H
  exact At.ret0 (.inr rfl) rfl (ft (ft hF244 hF250) hF272) (sc1 (sc2 rl)) ⟨sa0x7,sa0x8,sa0x9,rs259,rs262,rs265,rs268,rfl,rfl,fm260,(All.monoLR fa261 fl rl),fm263,(All.monoTo fa264 fl rl),fm266,(All.monoFrom fa267 fl rl),fm269,(All.monoTo fa270 fl rl)⟩
 have hc257:decide ((i257:Int) < (l228.length:Int))=true:=decide_eq_true (by omega)
 obtain ⟨c257,H,hgo257⟩:=rangeF_go H
 unfold partref_World_comes_B7 at H
 try dsimp only at H
 refine sr0<|lr (Ev.lss rfl rfl)<|nt0<|Cd.seq<|Cd.condT rfl hc257<|Cd.skip<|At.then<|Cd.seq<|Cd.block<|sr0<|mv1 rfl ?_
 refine as1 rfl<|nsr<|mv1 rfl<|lr (Ev.nilCheck rfl)<|lr (Ev.fo 47 rfl U50 rfl Z47 rfl rfl)<|lr (Ev.load (i:=7) rfl rfl I47 (v:=Sl.v sa0x8) ((RWldR.get_marks gh0).off rfl))<|mv1 rfl<|mv1 rfl<|lr (Ev.add rfl rfl) ?_
 obtain ⟨x273,h274,H⟩:=bs H
 have g275:=lat_some h274
 refine lr (Ev.indexS (α:=Mark) (xs:=a0.marks) rfl rfl U47 Z198 rfl (by decide) (rdo 5 rfl rfl rfl) g275.1 g275.2.1)<|lr (Ev.loadSA (α:=Mark) rfl (rdo 5 rfl rfl rfl) I198 Z198 (ch:=enc x273) el (by decide) ((Get.elemN (s:=2) (x:=x273) rfl g275.2.2 gh0).off (by omega))) ?_
 refine Lst.alloc (cs:=enc Mark.zero) rfl rfl (by decide) Tryz.zeroValue198 rfl (fun b276=>?_)
 refine lst 0 rfl rfl rfl Z198 (vs:=enc x273) rfl el (Enc.one _) (cs':=enc x273) phl rfl<|nt0<|Cd.seq ?_
 obtain ⟨x278,h279,H⟩:=bs H
 obtain ⟨r282,h283,H⟩:=bs H
 obtain ⟨x288,h289,H⟩:=bs H
 let T4:=({Saying.zero with From:=x273.from_,Text:=x288}:Saying)
 obtain ⟨u293,h294,H⟩:=bs H
 obtain ⟨o299,h300,H⟩:=Let_some H
 refine Cd.headMeet (σ:=Sl×(List Saying)) 27 (fun (s297,l298)=>[(0,pv ba0 0),(3,pv b6 0),(11,iv x204.Next),(15,pv b276 0),(161,iv (l228.length:Int)),(162,iv (i257:Int)),(176,iv a1.To),(198,Sl.v s297),(200,pv ba0 4)]) (fun (s297,l298)=>(.own s297 62 2 (encs l298))::(.blk b276 (enc x273) 198)::(.blk b224 (enc T7) 41)::(.own s227 9 1 (encs l228))::(.blk b6 (enc a1) 132)::(mii qa0x2 a0.gone)::T11::T9::T8::(.blk ba0 (enc T10) 50)::L) (fun _ (s297,l298)=>l298=o299) (by kernel_rfl) (by kernel_rfl) (behind_sink (by kernel_rfl) (by kernel_rfl) (by kernel_rfl)) (by kernel_rfl) (fun hsel hlt=>?_) ?_
 ·refine HdJ.keep (fun w=>St w0 F271 ((.blk b276 (enc x273) 198)::(.blk b224 (enc T7) 41)::(.own s227 9 1 (encs l228))::(.blk b6 (enc a1) 132)::(mii qa0x2 a0.gone)::T11::T9::T8::(.blk ba0 (enc T10) 50)::L) w) (fun w h=>trivial)<|hts rfl hsel hlt 0 rl rfl (Ev.move rfl)<|hts rfl hsel hlt 1 rl rfl (Ev.fo 2 rfl U132 rfl Z3 rfl rfl)<|hts rfl hsel hlt 2 rl rfl (Ev.load (i:=3) rfl rfl I3 (v:=iv a1.To) ((Note.get_To gh0).off rfl))<|hts rfl hsel hlt 3 rl rfl (Ev.move rfl)<|hts rfl hsel hlt 4 rl rfl (Ev.fo 2 rfl U132 rfl Z3 rfl rfl)<|hts rfl hsel hlt 5 rl rfl (Ev.load (i:=3) rfl rfl I3 (v:=iv a1.To) ((Note.get_To gh0).off rfl))<|hts rfl hsel hlt 6 rl rfl (Ev.nilCheck rfl)<|hts rfl hsel hlt 7 rl rfl (Ev.fo 4 rfl U50 rfl Z38 rfl rfl) ?_
  have g301:=vat_some h279
  obtain ⟨⟨r302v,r302h⟩,r302g,r302e,r302m,r302l⟩:=vmap_get fm260 g301.2.2
  obtain rfl:x278=r302v:=r302e.symm
  have r302q:Rd w0 _ _ r302h x278:=fa261 _ r302m
  refine hts rfl hsel hlt 8 rl rfl (Ev.indexAddr (off':=4+a1.To.toNat * 1) rfl rfl U38 Z37 g301.1 g301.2.1 rfl)<|hts rfl hsel hlt 9 rl rfl (Ev.load (i:=8) rfl rfl I37 (v:=Sl.v r302h) ((RWldR.get_Logs (p:=T10) (Get.vecN (s:=1) rfl r302g gh0)).off (by omega)))<|hts rfl hsel hlt 11 rl rfl (Ev.fo 0 rfl U198 rfl Z3 rfl rfl)<|hts rfl hsel hlt 12 rl rfl (Ev.load (i:=0) rfl rfl I3 (v:=iv x273.from_) ((Mark.get_from_ gh0).off rfl))<|hts rfl hsel hlt 13 rl rfl (Ev.move rfl)<|hts rfl hsel hlt 14 rl rfl (Ev.nilCheck rfl)<|hts rfl hsel hlt 15 rl rfl (Ev.fo 46 rfl U50 rfl Z43 rfl rfl)<|hts rfl hsel hlt 16 rl rfl (Ev.load (i:=8) rfl rfl I43 (v:=Sl.v sa0x7) ((RWldR.get_order gh0).off rfl))<|hts rfl hsel hlt 17 rl rfl (Ev.move rfl)<|hts rfl hsel hlt 18 rl rfl (Ev.move rfl)<|hts rfl hsel hlt 19 rl rfl (Ev.add rfl rfl) ?_
  have g303:=lat_some h289
  refine hts rfl hsel hlt 20 rl rfl (Ev.indexS (α:=Str) (xs:=a0.order) rfl rfl U43 Z9 rfl (by decide) (rdo 5 rfl rfl rfl) g303.1 g303.2.1)<|hts rfl hsel hlt 21 rl rfl (Ev.loadS (α:=Str) rfl (rdo 5 rfl rfl rfl) I9 (v:=Str.v x288) ((Get.elemN (s:=1) (x:=x288) rfl g303.2.2 gh0).off (by omega)))<|hts rfl hsel hlt 22 rl rfl (Ev.build (v:=.agg (enc T4).toArray) (pv:=[(0,iv x273.from_),(1,Str.v x288)]) ⟨rfl,rfl,⟨rfl,rfl,trivial⟩⟩ (fun w=>by kernel_rfl))<|hts rfl hsel hlt 25 rl rfl (Ev.nilCheck rfl)<|hts rfl hsel hlt 26 rl rfl (Ev.fo 4 rfl U50 rfl Z38 rfl rfl)<|HdJ.step [10,23] (by kernel_rfl) rfl ?_
  refine HdStep.c (fun inv=>?_) ?_
  ·refine cl rfl (vs:=[Sl.v r302h]) ⟨rfl,trivial⟩ Tryz.call44 (slices_Clone_api_Saying_api_Saying_sim h283 w0 _ M _ (sc8 (sc1 hM)) (r302q.mono fl rl)) (fun F305 L' v hF306 hv=>?_)
   obtain ⟨s304,rfl,rfl⟩:=hv
   refine Lst.nil<|At.hd inv (fun w h=>(h.weaken hF306).sublist (sc1 rl)) ?_
   refine HdJ.o1 23 (fun inv=>?_)
   refine Lst.buildSlice (α:=Saying) (xs:=([T4]:List Saying)) (pv:=[(0,.agg (enc T4).toArray)]) rfl rfl (by decide) ⟨rfl,rfl,trivial⟩ (run_buildSlice (α:=Saying) (z0:=Saying.zero) (xs:=([T4]:List Saying)) U37 Z62 Tryz.zeroValue62 rfl rfl rfl (by decide) rfl (fill_one rfl rfl)) rfl rfl (by decide) (fun s307 _=>?_)
   refine Lst.nil<|At.hd inv (fun w h=>(h.weaken hF306).sublist (sc2 rl)) ?_
   refine HdJ.o1 24 (fun inv=>?_)
   refine Lst.append (i:=1) (α:=Saying) (xs:=r282) (ys:=([T4]:List Saying)) rfl rfl (by decide) rfl rfl U37 Tryz.typeInfo62 rfl rfl rfl rfl rfl rfl (rdo 0 rfl rfl rfl) rfl (room_some h294) rfl (fun s308=>?_)
   refine Lst.nil<|At.hd inv (fun w h=>(h.weaken hF306).sublist (sc2 rl))<|HdJ.done (by kernel_rfl)<|At.less (sc1 rl) ?_
   exact At.meetN (s308,r282++([T4]:List Saying)) hF306 ⟨rfl,rfl,rfl,rfl,rfl,rfl,rfl,rfl,rfl,trivial⟩ rfl h300
  refine HdStep.c (fun inv=>?_) trivial
  refine Lst.buildSlice (α:=Saying) (xs:=([T4]:List Saying)) (pv:=[(0,.agg (enc T4).toArray)]) rfl rfl (by decide) ⟨rfl,rfl,trivial⟩ (run_buildSlice (α:=Saying) (z0:=Saying.zero) (xs:=([T4]:List Saying)) U37 Z62 Tryz.zeroValue62 rfl rfl rfl (by decide) rfl (fill_one rfl rfl)) rfl rfl (by decide) (fun s309 _=>?_)
  refine hds inv (sc1 rl) ?_
  refine HdJ.o1 10 (fun inv=>?_)
  refine cl rfl (vs:=[Sl.v r302h]) ⟨rfl,trivial⟩ Tryz.call44 (slices_Clone_api_Saying_api_Saying_sim h283 w0 _ M _ (sc8 (sc2 hM)) (r302q.mono fl rl)) (fun F311 L' v hF312 hv=>?_)
  obtain ⟨s310,rfl,rfl⟩:=hv
  refine Lst.nil<|At.hd inv (fun w h=>(h.weaken hF312).sublist (sc2 rl)) ?_
  refine HdJ.o1 24 (fun inv=>?_)
  refine Lst.append (i:=0) (α:=Saying) (xs:=r282) (ys:=([T4]:List Saying)) rfl rfl (by decide) rfl rfl U37 Tryz.typeInfo62 rfl rfl rfl rfl rfl rfl (rdo 1 rfl rfl rfl) rfl (room_some h294) rfl (fun s313=>?_)
  refine Lst.nil<|At.hd inv (fun w h=>(h.weaken hF312).sublist (sc2 rl))<|HdJ.done (by kernel_rfl)<|At.less (sk1 (sc1 rl)) ?_
  exact At.meetN (s313,r282++([T4]:List Saying)) hF312 ⟨rfl,rfl,rfl,rfl,rfl,rfl,rfl,rfl,rfl,trivial⟩ rfl h300
 rintro F314 ⟨s297,l298⟩ hF315 hy
 let T13:=rs259.setIfInBounds a1.To.toNat (LR.mk l298 s297)
 subst hy
 obtain ⟨x316,h317,H⟩:=bs H
 have g318:=vat_some h317
 obtain ⟨⟨r319v,r319h⟩,r319g,r319e,r319m,r319l⟩:=vmap_get fm260 g318.2.2
 obtain rfl:x316=r319v:=r319e.symm
 have r319q:Rd w0 _ _ r319h x316:=fa261 _ r319m
 refine lr (Ev.indexAddr (off':=4+a1.To.toNat * 1) rfl rfl U38 Z37 g318.1 g318.2.1 rfl) ?_
 obtain ⟨p324,h325,H⟩:=Let_some H
 let T17:=({y258 with gone:=a0.gone,Logs:=p324,order:=a0.order,marks:=a0.marks,WayNotes:=a0.WayNotes}:RWld)
 let T3:=RWldR.mk T17 (some qa0x2) T13 rs262 rs265 rs268 sa0x7 sa0x8 sa0x9
 refine Lst.freeze (i:=0) rfl (fun F320 hF321 hz322=>?_)
 have hq323:Rd w0 F320 [] s297 l298:=Rd.frozen hz322 rfl rfl
 have hm326:T13.toList.map LR.v=p324.toList:=(vmap_set fm260 _ _).trans (congrArg Vector.toList h325)
 have ha327:All LR.rel w0 F320 M T13.toList:=vAll_set (All.monoLR fa261 (ft hF315 hF321) rl) ((hq323.mono fl nsl))
 refine lst 8 rfl rfl rfl Z37 (vs:=[Sl.v s297]) rfl rfl rfl (cs':=enc T3) ((RWldR.put_Logs (l:=p324) (Put.vecN (s:=1) (y:=(LR.mk l298 s297)) rfl r319g (Put.here (vs:=[Sl.v s297]) rfl))).off (by omega)) rfl<|nt0<|Cd.seq<|Cd.quiet (by kernel_rfl) (by kernel_rfl)<|qr (Ev.move rfl)<|qr (Ev.fo 2 rfl U132 rfl Z3 rfl rfl)<|qr (Ev.load (i:=3) rfl rfl I3 (v:=iv a1.To) ((Note.get_To gh0).off rfl))<|qr (Ev.nilCheck rfl)<|qr (Ev.fo 22 rfl U50 rfl Z46 rfl rfl) ?_
 obtain ⟨x328,h329,H⟩:=bs H
 have g330:=vat_some h329
 obtain ⟨⟨r331v,r331h1⟩,r331g,r331e,r331m,r331l⟩:=vmap_get fm266 g330.2.2
 let T5:=r331h1.cut (w64 ((w64 (x273.seq+(1:Int))) - x328.Base):Int).toNat ((x328.Late.length:Int):Int).toNat 1
 obtain rfl:x328=r331v:=r331e.symm
 have r331q:FromR.rel w0 _ _ (FromR.mk x328 r331h1):=fa267 _ r331m
 have r331_f1:Rd w0 _ _ _ _:=r331q
 refine qr (Ev.indexAddr (off':=22+a1.To.toNat * 2) rfl rfl U46 Z45 g330.1 g330.2.1 rfl)<|qr (Ev.assign rfl)<|Qt.done<|At.then<|Cd.seq<|Cd.quiet (by kernel_rfl) (by kernel_rfl)<|qr (Ev.fo 0 rfl U198 rfl Z3 rfl rfl)<|qr (Ev.load (i:=0) rfl rfl I3 (v:=iv x273.from_) ((Mark.get_from_ gh0).off rfl))<|qr (Ev.fo 2 rfl U132 rfl Z3 rfl rfl)<|qr (Ev.load (i:=3) rfl rfl I3 (v:=iv a1.To) ((Note.get_To gh0).off rfl))<|qr (Ev.eql rfl rfl) ?_
 refine qr (Ev.move rfl) ?_
 obtain ⟨o332,H,HKo332⟩:=bs H
 refine Qt.join (σ:=Bool) 8 (fun y333=>[(0,pv ba0 0),(3,pv b6 0),(11,iv x204.Next),(15,pv b276 0),(16,pv ba0 (22+a1.To.toNat * 2)),(161,iv (l228.length:Int)),(162,iv (i257:Int)),(221,.bool y333)]) (fun y333=>y333=o332) ?_ ?_
 ·rcases ic2 H with ⟨hb334,H⟩|⟨hb334,H⟩
  ·refine qsk rfl hb334<|qsk rfl hb334<|qsk rfl hb334<|qsk rfl hb334<|qsk rfl hb334<|qsk rfl hb334<|qsk rfl hb334<|qr (Ev.pickF rfl hb334 rfl) ?_
   exact Qt.meet false ⟨rfl,rfl,rfl,rfl,rfl,rfl,rfl,rfl,trivial⟩ (si H)
  refine qg hb334 (Ev.fo 1 rfl U198 rfl Z3 rfl rfl)<|qg hb334 (Ev.load (i:=0) rfl rfl I3 (v:=iv x273.seq) ((Mark.get_seq gh0).off rfl))<|qg hb334 (Ev.move rfl)<|qg hb334 (Ev.nilCheck rfl)<|qg hb334 (Ev.fo (22+a1.To.toNat * 2+0) rfl U45 rfl Z3 rfl rfl)<|qg hb334 (Ev.load (i:=8) rfl rfl I3 (v:=iv x328.Base) ((RWldR.get_Late (p:=T3) (Get.vecN (s:=2) rfl r331g (FromR.get_Base gh0))).off (by omega)))<|qg hb334 (Ev.geq rfl rfl)<|qr (Ev.pickT rfl hb334 rfl) ?_
  exact Qt.meet (decide (x273.seq≥x328.Base)) ⟨rfl,rfl,rfl,rfl,rfl,rfl,rfl,rfl,trivial⟩ (si H)
 rintro y333 hy
 subst hy
 refine Qt.as (e':=[(0,pv ba0 0),(3,pv b6 0),(11,iv x204.Next),(15,pv b276 0),(16,pv ba0 (22+a1.To.toNat * 2)),(161,iv (l228.length:Int)),(162,iv (i257:Int)),(221,.bool y333)]) ⟨rfl,rfl,rfl,rfl,rfl,rfl,rfl,rfl,trivial⟩ ?_
 replace H:=HKo332
 refine Qt.done<|At.then ?_
 rcases ic2 H with ⟨hb335,H⟩|⟨hb335,H⟩
 ·refine Cd.condF rfl hb335<|Cd.skip<|At.in_normal<|At.then<|Cd.region<|lr (Ev.incr (by omega) rfl rfl)<|mv1 rfl<|Lst.nil<|At.less (sc1 rl) ?_
  exact At.meet (i257+1,k257,T17,T13,rs262,rs265,rs268) (ft (ft hF272 hF315) hF321) ⟨rfl,rfl,rfl,rfl,rfl,trivial⟩ rfl ⟨⟨hgo257 _ (sj H),by omega,hm326,(All.monoLR ha327 fl rl),fm263,(All.monoTo fa264 (ft hF315 hF321) rl),fm266,(All.monoFrom fa267 (ft hF315 hF321) rl),fm269,(All.monoTo fa270 (ft hF315 hF321) rl)⟩,nls⟩
 refine Cd.condT rfl hb335<|Cd.seq<|Cd.tail 16 (by kernel_rfl) (by kernel_rfl)<|qr (Ev.move rfl)<|qr (Ev.move rfl)<|qr (Ev.nilCheck rfl)<|qr (Ev.fo (22+a1.To.toNat * 2+1) rfl U45 rfl Z43 rfl rfl)<|qr (Ev.load (i:=8) rfl rfl I43 (v:=Sl.v r331h1) ((RWldR.get_Late (p:=T3) (Get.vecN (s:=2) rfl r331g (FromR.get_Late gh0))).off (by omega)))<|qr (Ev.fo 1 rfl U198 rfl Z3 rfl rfl)<|qr (Ev.load (i:=0) rfl rfl I3 (v:=iv x273.seq) ((Mark.get_seq gh0).off rfl))<|qr (Ev.add rfl rfl) ?_
 refine qr (Ev.move rfl)<|qr (Ev.nilCheck rfl)<|qr (Ev.fo (22+a1.To.toNat * 2+0) rfl U45 rfl Z3 rfl rfl)<|qr (Ev.load (i:=8) rfl rfl I3 (v:=iv x328.Base) ((RWldR.get_Late (p:=T3) (Get.vecN (s:=2) rfl r331g (FromR.get_Base gh0))).off (by omega)))<|qr (Ev.sub rfl rfl) ?_
 obtain ⟨m336,h337,H⟩:=bs H
 let T0:=rs265.setIfInBounds a1.To.toNat (FromR.mk ({x328 with Late:=m336}:From) T5)
 obtain ⟨g338,gl339⟩:=cutL_some h337
 try dsimp only at g338
 have hq340:Rd w0 F271 M T5 m336:=by rw [← gl339]; exact Rd.cut (by decide) r331_f1 (by omega) (by omega)
 refine qr (Ev.cut (α:=Str) (xs:=x328.Late) (i:=w64 ((w64 (x273.seq+(1:Int))) - x328.Base)) (j:=(x328.Late.length:Int)) rfl rfl rfl U43 Z9 rfl (by decide) (r331_f1.mono (ft hF315 hF321) (sc8 (sc1 hM))) g338.1 g338.2.1 g338.2.2)<|qr (Ev.nilCheck rfl)<|qr (Ev.fo (22+a1.To.toNat * 2+1) rfl U45 rfl Z43 rfl rfl)<|Qt.tail ?_
 obtain ⟨p341,h342,H⟩:=Let_some H
 have hm343:T0.toList.map FromR.v=p341.toList:=(vmap_set fm266 _ _).trans (congrArg Vector.toList h342)
 have ha344:All FromR.rel w0 F320 M T0.toList:=vAll_set (All.monoFrom fa267 (ft hF315 hF321) rl) ((hq340.mono (ft hF315 hF321) rl))
 refine lst 8 rfl rfl rfl Z43 (vs:=[Sl.v T5]) rfl rfl rfl (cs':=enc (RWldR.mk ({y258 with gone:=a0.gone,Logs:=p324,Late:=p341,order:=a0.order,marks:=a0.marks,WayNotes:=a0.WayNotes}:RWld) (some qa0x2) T13 rs262 T0 rs268 sa0x7 sa0x8 sa0x9)) ((RWldR.put_Late (l:=p341) (Put.vecN (s:=2) (y:=(FromR.mk ({x328 with Late:=m336}:From) T5)) rfl r331g (FromR.put_Late (l:=m336) (Put.here (vs:=[Sl.v T5]) rfl)))).off (by omega)) rfl<|nt0<|Cd.region<|mv1 rfl<|lr (Ev.fo 1 rfl U198 rfl Z3 rfl rfl)<|lr (Ev.load (i:=0) rfl rfl I3 (v:=iv x273.seq) ((Mark.get_seq gh0).off rfl))<|lr (Ev.add rfl rfl)<|lr (Ev.nilCheck rfl)<|lr (Ev.fo (22+a1.To.toNat * 2+0) rfl U45 rfl Z3 rfl rfl) ?_
 obtain ⟨x345,h346,H⟩:=bs H
 have g347:=vat_some h346
 obtain ⟨⟨r348v,r348h1⟩,r348g,r348e,r348m,r348l⟩:=vmap_get hm343 g347.2.2
 let T14:=FromR.mk ({x345 with Base:=w64 (x273.seq+(1:Int))}:From) r348h1
 obtain rfl:x345=r348v:=r348e.symm
 have r348q:FromR.rel w0 _ _ (FromR.mk x345 r348h1):=ha344 _ r348m
 have r348_f1:Rd w0 _ _ _ _:=r348q
 obtain ⟨p349,h350,H⟩:=Let_some H
 let T16:=({y258 with gone:=a0.gone,Logs:=p324,Late:=p349,order:=a0.order,marks:=a0.marks,WayNotes:=a0.WayNotes}:RWld)
 have hm351:(T0.setIfInBounds a1.To.toNat T14).toList.map FromR.v=p349.toList:=(vmap_set hm343 _ _).trans (congrArg Vector.toList h350)
 have ha352:All FromR.rel w0 F320 M (T0.setIfInBounds a1.To.toNat T14).toList:=vAll_set (All.monoFrom ha344 fl rl) ((r348_f1.mono fl rl))
 refine lst 8 rfl rfl rfl Z3 (vs:=[iv (w64 (x273.seq+(1:Int)))]) rfl rfl rfl (cs':=enc (RWldR.mk T16 (some qa0x2) T13 rs262 (T0.setIfInBounds a1.To.toNat T14) rs268 sa0x7 sa0x8 sa0x9)) ((RWldR.put_Late (l:=p349) (Put.vecN (s:=2) (y:=T14) rfl r348g (FromR.put_Base (Put.here (vs:=[iv (w64 (x273.seq+(1:Int)))]) rfl)))).off (by omega)) rfl<|Lst.nil<|At.in_normal<|At.then<|Cd.region<|lr (Ev.incr (by omega) rfl rfl)<|mv1 rfl<|Lst.nil<|At.less (sc1 rl) ?_
 exact At.meet (i257+1,k257,T16,T13,rs262,(T0.setIfInBounds a1.To.toNat T14),rs268) (ft (ft hF272 hF315) hF321) ⟨rfl,rfl,rfl,rfl,rfl,trivial⟩ rfl ⟨⟨hgo257 _ (sj H),by omega,hm326,(All.monoLR ha327 fl rl),fm263,(All.monoTo fa264 (ft hF315 hF321) rl),hm351,(All.monoFrom ha352 fl rl),fm269,(All.monoTo fa270 (ft hF315 hF321) rl)⟩,nls⟩
theorem partref_World_Move_sim {fu:Nat} {a0:RWld} {a1:Int} {a2:Int} {ba0:Nat} {qa0x2:Nat} {ra0x3:Vector (LR Saying) 6} {ra0x4:Vector ToR 6} {ra0x5:Vector FromR 6} {ra0x6:Vector ToR 6} {sa0x7:Sl} {sa0x8:Sl} {sa0x9:Sl} {r:(List Str)×(List Mark)×RWld×Int} (H:partref_World_Move fu a0 a1 a2=some r) (w0:World) (F:Frz) (M L:List Item) (hM:M.Sublist L) (hT:Tab Tryz.prog w0) (ma0x3:ra0x3.toList.map LR.v=a0.Logs.toList) (na0x3:All LR.rel w0 F M ra0x3.toList) (ma0x4:ra0x4.toList.map ToR.v=a0.want.toList) (na0x4:All ToR.rel w0 F M ra0x4.toList) (ma0x5:ra0x5.toList.map FromR.v=a0.Late.toList) (na0x5:All FromR.rel w0 F M ra0x5.toList) (ma0x6:ra0x6.toList.map ToR.v=a0.in_.toList) (na0x6:All ToR.rel w0 F M ra0x6.toList):Ok Tryz.prog w0 40 [pv ba0 0,iv a1,iv a2] F ((mii qa0x2 a0.gone)::(.own sa0x7 9 1 (encs a0.order))::(.own sa0x8 198 2 (encs a0.marks))::(.own sa0x9 132 12 (encs a0.WayNotes))::(.blk ba0 (enc (RWldR.mk a0 (some qa0x2) ra0x3 ra0x4 ra0x5 ra0x6 sa0x7 sa0x8 sa0x9)) 50)::L) (fun Fx L' v=>∃ (s6:Sl) (s7:Sl) (rs8:Vector (LR Saying) 6) (rs11:Vector ToR 6) (rs14:Vector FromR 6) (rs17:Vector ToR 6) (s20:Sl),v=iv r.2.2.2∧L'=(.own s20 132 12 (encs r.2.2.1.WayNotes))::(mii qa0x2 a0.gone)::(.own s6 9 1 (encs r.1))::(.own s7 198 2 (encs r.2.1))::(.blk ba0 (enc (RWldR.mk ({r.2.2.1 with gone:=a0.gone,order:=r.1,marks:=r.2.1}:RWld) (some qa0x2) rs8 rs11 rs14 rs17 s6 s7 s20)) 50)::L∧rs8.toList.map LR.v=r.2.2.1.Logs.toList∧All LR.rel w0 Fx M rs8.toList∧rs11.toList.map ToR.v=r.2.2.1.want.toList∧All ToR.rel w0 Fx M rs11.toList∧rs14.toList.map FromR.v=r.2.2.1.Late.toList∧All FromR.rel w0 Fx M rs14.toList∧rs17.toList.map ToR.v=r.2.2.1.in_.toList∧All ToR.rel w0 Fx M rs17.toList):=by
 let T6:Item:=.own sa0x7 9 1 (encs a0.order)
 let T5:Item:=.own sa0x9 132 12 (encs a0.WayNotes)
 let T4:Item:=.own sa0x8 198 2 (encs a0.marks)
 let T3:=sa0x9.cut (0:Int).toNat (a1:Int).toNat 12
 let T2:Item:=.blk ba0 (enc (RWldR.mk a0 (some qa0x2) ra0x3 ra0x4 ra0x5 ra0x6 sa0x7 sa0x8 sa0x9)) 50
 let T1:=sa0x9.cut (w64 (a1+(1:Int)):Int).toNat ((a0.WayNotes.length:Int):Int).toNat 12
 unfold partref_World_Move at H
 refine Ok.enter (m:=3) (n:=96) Tryz.func40 rfl rfl rfl (by decide)<|Cd.env (e':=[(0,pv ba0 0),(1,iv a1),(2,iv a2)]) rfl<|sr0<|as1 rfl<|nt0<|Cd.seq<|Cd.block<|sr0<|mv1 rfl<|lr (Ev.lss rfl rfl)<|mv1 rfl ?_
 obtain ⟨o6,H,HKo6⟩:=bs H
 refine Lst.join (σ:=Bool) 3 (fun y7=>[(0,pv ba0 0),(1,iv a1),(2,iv a2),(14,.bool y7)]) (fun y7=>(mii qa0x2 a0.gone)::T6::T4::T5::T2::L) (fun _ y7=>y7=o6) ?_ ?_
 ·rcases ic H with ⟨hb8,H⟩|⟨hb8,H⟩
  ·refine lsk rfl hb8<|lsk rfl hb8<|lr (Ev.pickT rfl hb8 rfl)<|Lst.nil ?_
   exact At.meet true fl ⟨rfl,rfl,rfl,rfl,trivial⟩ rfl (si H)
  refine lg hb8 (Ev.move rfl)<|lg hb8 (Ev.gtr rfl rfl)<|lr (Ev.pickF rfl hb8 rfl)<|Lst.nil ?_
  exact At.meet (decide (a2 > (3:Int))) fl ⟨rfl,rfl,rfl,rfl,trivial⟩ rfl (si H)
 rintro F9 y7 hF10 hy
 subst hy
 replace H:=HKo6
 refine as1 rfl<|nt0 ?_
 rcases ic H with ⟨hb11,H⟩|⟨hb11,H⟩
 ·refine Cd.condT rfl hb11<|sr0<|as1 rfl<|nt0 ?_
  obtain rfl:=si H
  refine Cd.ret<|At.in_ret<|At.then_ret<|af 3 rfl ?_
  exact At.ret1 rfl (Res.tmp rfl) hF10 rl ⟨sa0x7,sa0x8,ra0x3,ra0x4,ra0x5,ra0x6,sa0x9,rfl,rfl,ma0x3,(All.monoLR na0x3 hF10 rl),ma0x4,(All.monoTo na0x4 hF10 rl),ma0x5,(All.monoFrom na0x5 hF10 rl),ma0x6,(All.monoTo na0x6 hF10 rl)⟩
 refine Cd.condF rfl hb11<|sr0<|mv1 rfl<|lr (Ev.lss rfl rfl)<|mv1 rfl ?_
 obtain ⟨o12,H,HKo12⟩:=bs H
 refine Lst.join (σ:=Bool) 8 (fun y13=>[(0,pv ba0 0),(1,iv a1),(2,iv a2),(26,.bool y13)]) (fun y13=>(mii qa0x2 a0.gone)::T6::T4::T5::T2::L) (fun _ y13=>y13=o12) ?_ ?_
 ·rcases ic H with ⟨hb14,H⟩|⟨hb14,H⟩
  ·refine lsk rfl hb14<|lsk rfl hb14<|lsk rfl hb14<|lsk rfl hb14<|lsk rfl hb14<|lsk rfl hb14<|lsk rfl hb14<|lr (Ev.pickT rfl hb14 rfl)<|Lst.nil ?_
   exact At.meet true fl ⟨rfl,rfl,rfl,rfl,trivial⟩ rfl (si H)
  refine lg hb14 (Ev.move rfl)<|lg hb14 (Ev.move rfl)<|lg hb14 (Ev.nilCheck rfl)<|lg hb14 (Ev.fo 48 rfl U50 rfl Z48 rfl rfl)<|lg hb14 (Ev.load (i:=4) rfl rfl I48 (v:=Sl.v sa0x9) ((RWldR.get_WayNotes gh0).off rfl))<|lg hb14 (Ev.lenS (α:=Note) (xs:=a0.WayNotes) (by decide) rfl rfl U48 (rdo 3 rfl rfl rfl))<|lg hb14 (Ev.geq rfl rfl)<|lr (Ev.pickF rfl hb14 rfl)<|Lst.nil ?_
  exact At.meet (decide (a1≥(a0.WayNotes.length:Int))) fl ⟨rfl,rfl,rfl,rfl,trivial⟩ rfl (si H)
 rintro F15 y13 hF16 hy
 subst hy
 replace H:=HKo12
 refine as1 rfl<|nt0 ?_
 rcases ic H with ⟨hb17,H⟩|⟨hb17,H⟩
 ·refine Cd.condT rfl hb17<|sr0<|as1 rfl<|nt0 ?_
  obtain rfl:=si H
  refine Cd.ret<|At.in_ret<|At.then_ret<|af 3 rfl ?_
  exact At.ret1 rfl (Res.tmp rfl) (ft hF10 hF16) rl ⟨sa0x7,sa0x8,ra0x3,ra0x4,ra0x5,ra0x6,sa0x9,rfl,rfl,ma0x3,(All.monoLR na0x3 (ft hF10 hF16) rl),ma0x4,(All.monoTo na0x4 (ft hF10 hF16) rl),ma0x5,(All.monoFrom na0x5 (ft hF10 hF16) rl),ma0x6,(All.monoTo na0x6 (ft hF10 hF16) rl)⟩
 refine Cd.condF rfl hb17<|sr0<|mv1 rfl<|lr (Ev.eql rfl rfl)<|mv1 rfl ?_
 obtain ⟨o18,H,HKo18⟩:=bs H
 refine Lst.join (σ:=Bool) 7 (fun y19=>[(0,pv ba0 0),(1,iv a1),(2,iv a2),(37,.bool y19)]) (fun y19=>(mii qa0x2 a0.gone)::T6::T4::T5::T2::L) (fun _ y19=>y19=o18) ?_ ?_
 ·rcases ic2 H with ⟨hb20,H⟩|⟨hb20,H⟩
  ·refine lsk rfl hb20<|lsk rfl hb20<|lsk rfl hb20<|lsk rfl hb20<|lsk rfl hb20<|lsk rfl hb20<|lr (Ev.pickF rfl hb20 rfl)<|Lst.nil ?_
   exact At.meet false fl ⟨rfl,rfl,rfl,rfl,trivial⟩ rfl (si H)
  refine lg hb20 (Ev.move rfl)<|lg hb20 (Ev.nilCheck rfl)<|lg hb20 (Ev.fo 48 rfl U50 rfl Z48 rfl rfl)<|lg hb20 (Ev.load (i:=4) rfl rfl I48 (v:=Sl.v sa0x9) ((RWldR.get_WayNotes gh0).off rfl))<|lg hb20 (Ev.lenS (α:=Note) (xs:=a0.WayNotes) (by decide) rfl rfl U48 (rdo 3 rfl rfl rfl))<|lg hb20 (Ev.eql rfl rfl)<|lr (Ev.pickT rfl hb20 rfl)<|Lst.nil ?_
  exact At.meet ((a0.WayNotes.length:Int)==(60:Int)) fl ⟨rfl,rfl,rfl,rfl,trivial⟩ rfl (si H)
 rintro F21 y19 hF22 hy
 let T0:=ft (ft hF10 hF16) hF22
 subst hy
 replace H:=HKo18
 refine as1 rfl<|nt0 ?_
 rcases ic H with ⟨hb23,H⟩|⟨hb23,H⟩
 ·refine Cd.condT rfl hb23<|sr0<|as1 rfl<|nt0 ?_
  obtain rfl:=si H
  refine Cd.ret<|At.in_ret<|At.then_ret<|af 3 rfl ?_
  exact At.ret1 rfl (Res.tmp rfl) T0 rl ⟨sa0x7,sa0x8,ra0x3,ra0x4,ra0x5,ra0x6,sa0x9,rfl,rfl,ma0x3,(All.monoLR na0x3 T0 rl),ma0x4,(All.monoTo na0x4 T0 rl),ma0x5,(All.monoFrom na0x5 T0 rl),ma0x6,(All.monoTo na0x6 T0 rl)⟩
 refine Cd.condF rfl hb23<|Cd.skip<|At.in_normal<|At.then<|sr0<|mv1 rfl<|lr (Ev.nilCheck rfl)<|lr (Ev.fo 48 rfl U50 rfl Z48 rfl rfl)<|lr (Ev.load (i:=4) rfl rfl I48 (v:=Sl.v sa0x9) ((RWldR.get_WayNotes gh0).off rfl))<|mv1 rfl ?_
 obtain ⟨x24,h25,H⟩:=bs H
 have g26:=lat_some h25
 refine lr (Ev.indexS (α:=Note) (xs:=a0.WayNotes) rfl rfl U48 Z132 rfl (by decide) (rdo 3 rfl rfl rfl) g26.1 g26.2.1)<|lr (Ev.loadSA (α:=Note) rfl (rdo 3 rfl rfl rfl) I132 Z132 (ch:=enc x24) el (by decide) ((Get.elemN (s:=12) (x:=x24) rfl g26.2.2 gh0).off (by omega))) ?_
 refine Lst.alloc (cs:=enc Note.zero) rfl rfl (by decide) Tryz.zeroValue132 rfl (fun b27=>?_)
 let T7:Item:=.blk b27 (enc x24) 132
 refine lst 0 rfl rfl rfl Z132 (vs:=enc x24) rfl el (Enc.one _) (cs':=enc x24) phl rfl<|nt0<|Cd.seq<|sr0<|mv1 rfl<|lr (Ev.eql rfl rfl)<|nt0 ?_
 rcases ic H with ⟨hb29,H⟩|⟨hb29,H⟩
 ·refine Cd.condT rfl hb29<|Cd.seq ?_
  obtain ⟨u32,h33,H⟩:=bs H
  obtain ⟨o52,h53,H⟩:=Let_some H
  refine Cd.headMeet (σ:=Sl×(List Note)×RWld×(Vector (LR Saying) 6)×(Vector ToR 6)×(Vector FromR 6)×(Vector ToR 6)×Sl) 8 (fun (s36,l37,y38,rs39,rs42,rs45,rs48,s51)=>[(47,pv ba0 0),(54,Sl.v s36)]) (fun (s36,l37,y38,rs39,rs42,rs45,rs48,s51)=>T7::(mii qa0x2 a0.gone)::T6::T4::(.own s36 132 12 (encs l37))::(.blk ba0 (enc (RWldR.mk ({y38 with gone:=a0.gone,order:=a0.order,marks:=a0.marks}:RWld) (some qa0x2) rs39 rs42 rs45 rs48 sa0x7 sa0x8 s51)) 50)::L) (fun Fx (s36,l37,y38,rs39,rs42,rs45,rs48,s51)=>(l37,y38)=o52∧rs39.toList.map LR.v=y38.Logs.toList∧All LR.rel w0 Fx M rs39.toList∧rs42.toList.map ToR.v=y38.want.toList∧All ToR.rel w0 Fx M rs42.toList∧rs45.toList.map FromR.v=y38.Late.toList∧All FromR.rel w0 Fx M rs45.toList∧rs48.toList.map ToR.v=y38.in_.toList∧All ToR.rel w0 Fx M rs48.toList) (by kernel_rfl) (by kernel_rfl) (behind_sink (by kernel_rfl) (by kernel_rfl) (by kernel_rfl)) (by kernel_rfl) (fun hsel hlt=>?_) ?_
  ·refine HdJ.keep (fun w=>St w0 F21 (T7::(mii qa0x2 a0.gone)::T6::T4::T2::L) w) (fun w h=>trivial)<|hts rfl hsel hlt 0 (sk4 (sc1 rl)) rfl (Ev.move rfl)<|hts rfl hsel hlt 1 (sk4 (sc1 rl)) rfl (Ev.move rfl)<|hts rfl hsel hlt 2 (sk4 (sc1 rl)) rfl (Ev.nilCheck rfl)<|hts rfl hsel hlt 3 (sk4 (sc1 rl)) rfl (Ev.fo 48 rfl U50 rfl Z48 rfl rfl)<|hts rfl hsel hlt 5 (sk4 (sc1 rl)) rfl (Ev.loadA (i:=0) rfl rfl I132 Z132 (ch:=enc x24) el gh0)<|HdJ.step [4,6] (by kernel_rfl) rfl ?_
   refine HdStep.c (fun inv=>?_) ?_
   ·refine lr (Ev.load (i:=5) rfl rfl I48 (v:=Sl.v sa0x9) ((RWldR.get_WayNotes gh0).off rfl))<|hds inv (sk4 (sc1 rl)) ?_
    refine HdJ.o1 6 (fun inv=>?_)
    refine Lst.buildSlice (α:=Note) (xs:=([x24]:List Note)) (pv:=[(0,.agg (enc x24).toArray)]) rfl rfl (by decide) ⟨rfl,rfl,trivial⟩ (run_buildSlice (α:=Note) (z0:=Note.zero) (xs:=([x24]:List Note)) U48 Z132 Tryz.zeroValue132 rfl rfl rfl (by decide) rfl (fill_one rfl rfl)) rfl rfl (by decide) (fun s54 _=>?_)
    refine hds inv (sc1 (sk4 (sc1 rl))) ?_
    refine HdJ.o1 7 (fun inv=>?_)
    refine Lst.append (i:=5) (α:=Note) (xs:=a0.WayNotes) (ys:=([x24]:List Note)) rfl rfl (by decide) rfl rfl U48 Tryz.typeInfo132 rfl rfl rfl rfl rfl rfl (rdo 0 rfl rfl rfl) rfl (room_some h33) rfl (fun s55=>?_)
    refine hds inv (sc1 (sk4 (sc1 rl)))<|HdJ.done (by kernel_rfl)<|At.less (sc1 rl) ?_
    exact At.meetN (s55,a0.WayNotes++([x24]:List Note),a0,ra0x3,ra0x4,ra0x5,ra0x6,sa0x9) fl ⟨rfl,rfl,trivial⟩ rfl ⟨h53,ma0x3,(All.monoLR na0x3 T0 rl),ma0x4,(All.monoTo na0x4 T0 rl),ma0x5,(All.monoFrom na0x5 T0 rl),ma0x6,(All.monoTo na0x6 T0 rl)⟩
   refine HdStep.c (fun inv=>?_) trivial
   refine Lst.buildSlice (α:=Note) (xs:=([x24]:List Note)) (pv:=[(0,.agg (enc x24).toArray)]) rfl rfl (by decide) ⟨rfl,rfl,trivial⟩ (run_buildSlice (α:=Note) (z0:=Note.zero) (xs:=([x24]:List Note)) U48 Z132 Tryz.zeroValue132 rfl rfl rfl (by decide) rfl (fill_one rfl rfl)) rfl rfl (by decide) (fun s56 _=>?_)
   refine hds inv (sc1 (sk4 (sc1 rl))) ?_
   refine HdJ.o1 4 (fun inv=>?_)
   refine lr (Ev.load (i:=6) rfl rfl I48 (v:=Sl.v sa0x9) ((RWldR.get_WayNotes gh0).off rfl))<|hds inv (sc1 (sk4 (sc1 rl))) ?_
   refine HdJ.o1 7 (fun inv=>?_)
   refine Lst.append (i:=5) (α:=Note) (xs:=a0.WayNotes) (ys:=([x24]:List Note)) rfl rfl (by decide) rfl rfl U48 Tryz.typeInfo132 rfl rfl rfl rfl rfl rfl (rdo 0 rfl rfl rfl) rfl (room_some h33) rfl (fun s57=>?_)
   refine hds inv (sc1 (sk4 (sc1 rl)))<|HdJ.done (by kernel_rfl)<|At.less (sc1 rl) ?_
   exact At.meetN (s57,a0.WayNotes++([x24]:List Note),a0,ra0x3,ra0x4,ra0x5,ra0x6,sa0x9) fl ⟨rfl,rfl,trivial⟩ rfl ⟨h53,ma0x3,(All.monoLR na0x3 T0 rl),ma0x4,(All.monoTo na0x4 T0 rl),ma0x5,(All.monoFrom na0x5 T0 rl),ma0x6,(All.monoTo na0x6 T0 rl)⟩
  rintro F58 ⟨s36,l37,y38,rs39,rs42,rs45,rs48,s51⟩ hF59 ⟨hy,fm40,fa41,fm43,fa44,fm46,fa47,fm49,fa50⟩
  subst hy
  try dsimp only at H
  refine lr (Ev.nilCheck rfl)<|lr (Ev.fo 48 rfl U50 rfl Z48 rfl rfl)<|lst 5 rfl rfl rfl Z48 (vs:=[Sl.v s36]) rfl rfl rfl (cs':=enc (RWldR.mk ({y38 with gone:=a0.gone,order:=a0.order,marks:=a0.marks,WayNotes:=l37}:RWld) (some qa0x2) rs39 rs42 rs45 rs48 sa0x7 sa0x8 s36)) ((RWldR.put_WayNotes (Put.here (vs:=[Sl.v s36]) rfl)).off rfl) rfl<|nsr<|as1 rfl<|nt0 ?_
  obtain rfl:=si H
  refine Cd.ret<|At.then_ret<|af 4 rfl ?_
  exact At.ret1 rfl (Res.tmp rfl) (ft T0 hF59) (sk1 (sc1 rl)) ⟨sa0x7,sa0x8,rs39,rs42,rs45,rs48,s36,rfl,rfl,fm40,(All.monoLR fa41 fl rl),fm43,(All.monoTo fa44 fl rl),fm46,(All.monoFrom fa47 fl rl),fm49,(All.monoTo fa50 fl rl)⟩
 refine Cd.condF rfl hb29<|Cd.skip<|At.then<|Cd.seq ?_
 obtain ⟨m60,h61,H⟩:=bs H
 obtain ⟨m64,h65,H⟩:=bs H
 obtain ⟨r72,h73,H⟩:=bs H
 obtain ⟨o81,h82,H⟩:=Let_some H
 refine Cd.headMeet (σ:=Sl×(List Note)) 16 (fun (s79,l80)=>[(0,pv ba0 0),(2,iv a2),(7,pv b27 0),(57,pv ba0 0),(72,Sl.v s79)]) (fun (s79,l80)=>(.own s79 132 12 (encs l80))::T7::(mii qa0x2 a0.gone)::T6::T4::T5::T2::L) (fun _ (s79,l80)=>l80=o81) (by kernel_rfl) (by kernel_rfl) (behind_sink (by kernel_rfl) (by kernel_rfl) (by kernel_rfl)) (by kernel_rfl) (fun hsel hlt=>?_) ?_
 ·refine HdJ.keep (fun w=>St w0 F21 (T7::(mii qa0x2 a0.gone)::T6::T4::T5::T2::L) w) (fun w h=>trivial)<|hts rfl hsel hlt 0 rl rfl (Ev.move rfl)<|hts rfl hsel hlt 1 rl rfl (Ev.move rfl)<|hts rfl hsel hlt 2 rl rfl (Ev.nilCheck rfl)<|hts rfl hsel hlt 3 rl rfl (Ev.fo 48 rfl U50 rfl Z48 rfl rfl)<|hts rfl hsel hlt 4 rl rfl (Ev.load (i:=5) rfl rfl I48 (v:=Sl.v sa0x9) ((RWldR.get_WayNotes gh0).off rfl))<|hts rfl hsel hlt 5 rl rfl (Ev.move rfl) ?_
  obtain ⟨g83,gl84⟩:=cutL_some h61
  try dsimp only at g83
  refine hts rfl hsel hlt 6 rl rfl (Ev.cut (α:=Note) (xs:=a0.WayNotes) (i:=0) (j:=a1) rfl rfl rfl U48 Z132 rfl (by decide) (rdo 4 rfl rfl rfl) g83.1 g83.2.1 g83.2.2)<|hts rfl hsel hlt 7 rl rfl (Ev.move rfl)<|hts rfl hsel hlt 8 rl rfl (Ev.nilCheck rfl)<|hts rfl hsel hlt 9 rl rfl (Ev.fo 48 rfl U50 rfl Z48 rfl rfl)<|hts rfl hsel hlt 10 rl rfl (Ev.load (i:=5) rfl rfl I48 (v:=Sl.v sa0x9) ((RWldR.get_WayNotes gh0).off rfl))<|hts rfl hsel hlt 11 rl rfl (Ev.move rfl)<|hts rfl hsel hlt 12 rl rfl (Ev.add rfl rfl) ?_
  obtain ⟨g85,gl86⟩:=cutL_some h65
  try dsimp only at g85
  refine hts rfl hsel hlt 13 rl rfl (Ev.cut (α:=Note) (xs:=a0.WayNotes) (i:=w64 (a1+(1:Int))) (j:=(a0.WayNotes.length:Int)) rfl rfl rfl U48 Z132 rfl (by decide) (rdo 4 rfl rfl rfl) g85.1 g85.2.1 g85.2.2) ?_
  refine HdJ.o1 14 (fun inv=>?_)
  have hm88:([(LR.mk m60 T3),(LR.mk m64 T1)]:List (LR Note)).map LR.v=([m60,m64]:List (List Note)):=rfl
  have ha89:All LR.rel w0 F21 (T7::(mii qa0x2 a0.gone)::T6::T4::T5::T2::L) ([(LR.mk m60 (sa0x9.cut (0:Int).toNat (a1:Int).toNat 12)),(LR.mk m64 (sa0x9.cut (w64 (a1+(1:Int)):Int).toNat ((a0.WayNotes.length:Int):Int).toNat 12))]:List (LR Note)):=All.of2 (by rw [← gl84]; exact Rd.cut (by decide) (rdo 4 rfl rfl rfl) (by omega) (by omega)) (by rw [← gl86]; exact Rd.cut (by decide) (rdo 4 rfl rfl rfl) (by omega) (by omega))
  refine Lst.buildSlice (α:=LR Note) (xs:=([(LR.mk m60 T3),(LR.mk m64 T1)]:List (LR Note))) (pv:=[(0,Sl.v T3),(1,Sl.v T1)]) rfl rfl (by decide) ⟨rfl,rfl,⟨rfl,rfl,trivial⟩⟩ (run_buildSlice (α:=LR Note) (z0:=((LR.mk [] Sl.nil):LR Note)) (xs:=([(LR.mk m60 T3),(LR.mk m64 T1)]:List (LR Note))) U193 Z48 Tryz.zeroValue48 rfl rfl rfl (by decide) rfl (fill_cons (cs:=encs (List.replicate 2 ((LR.mk [] Sl.nil):LR Note))) (cs':=encs ((List.replicate 2 ((LR.mk [] Sl.nil):LR Note)).set 0 (LR.mk m60 T3))) (vs:=[Sl.v T3]) rfl rfl rfl ((Put.elemN (s:=1) (i:=0) (x:=((LR.mk [] Sl.nil):LR Note)) (y:=(LR.mk m60 T3)) rfl rfl (Put.here (vs:=[Sl.v T3]) rfl)).off rfl) (fill_cons (cs:=encs ((List.replicate 2 ((LR.mk [] Sl.nil):LR Note)).set 0 (LR.mk m60 T3))) (cs':=encs (((List.replicate 2 ((LR.mk [] Sl.nil):LR Note)).set 0 (LR.mk m60 T3)).set 1 (LR.mk m64 T1))) (vs:=[Sl.v T1]) rfl rfl rfl ((Put.elemN (s:=1) (i:=1) (x:=((LR.mk [] Sl.nil):LR Note)) (y:=(LR.mk m64 T1)) rfl rfl (Put.here (vs:=[Sl.v T1]) rfl)).off rfl) fill_nil))) rfl rfl (by decide) (fun s87 _=>?_)
  refine hds inv (sc1 rl) ?_
  refine HdJ.o1 15 (fun inv=>?_)
  refine cl rfl (vs:=[Sl.v s87]) ⟨rfl,trivial⟩ Tryz.call74 (slices_Concat_api_Note_api_Note_sim h73 w0 _ _ _ rl hm88 (rdo 0 rfl rfl rfl) (All.monoLR ha89 fl (sc1 rl))) (fun F91 L' v hF92 hv=>?_)
  obtain ⟨s90,rfl,rfl⟩:=hv
  refine Lst.nil<|At.hd inv (fun w h=>(h.weaken hF92).sublist (sc2 rl))<|HdJ.done (by kernel_rfl)<|At.less (sk1 (sc1 rl)) ?_
  exact At.meetN (s90,r72) hF92 ⟨rfl,rfl,rfl,rfl,rfl,trivial⟩ rfl h82
 rintro F93 ⟨s79,l80⟩ hF94 hy
 subst hy
 refine lr (Ev.nilCheck rfl)<|lr (Ev.fo 48 rfl U50 rfl Z48 rfl rfl)<|lst 6 rfl rfl rfl Z48 (vs:=[Sl.v s79]) rfl rfl rfl (cs':=enc (RWldR.mk ({a0 with WayNotes:=l80}:RWld) (some qa0x2) ra0x3 ra0x4 ra0x5 ra0x6 sa0x7 sa0x8 s79)) ((RWldR.put_WayNotes (Put.here (vs:=[Sl.v s79]) rfl)).off rfl) rfl<|nt0 ?_
 obtain ⟨o114,H,HKo114⟩:=bs H
 refine Cd.join (σ:=RWld×(Vector (LR Saying) 6)×(Vector ToR 6)×(Vector FromR 6)×(Vector ToR 6)×Sl×(List Note)×Sl×(List Str)×Sl×(List Mark)) (fun (y95,rs96,rs99,rs102,rs105,s108,l109,s110,l111,s112,l113)=>[]) (fun (y95,rs96,rs99,rs102,rs105,s108,l109,s110,l111,s112,l113)=>(.own s108 132 12 (encs l109))::T7::(mii qa0x2 a0.gone)::(.own s110 9 1 (encs l111))::(.own s112 198 2 (encs l113))::T5::(.blk ba0 (enc (RWldR.mk ({y95 with gone:=a0.gone,order:=l111,marks:=l113,WayNotes:=l109}:RWld) (some qa0x2) rs96 rs99 rs102 rs105 s110 s112 s108)) 50)::L) (fun Fx (y95,rs96,rs99,rs102,rs105,s108,l109,s110,l111,s112,l113)=>(y95,l109,l111,l113)=o114∧rs96.toList.map LR.v=y95.Logs.toList∧All LR.rel w0 Fx M rs96.toList∧rs99.toList.map ToR.v=y95.want.toList∧All ToR.rel w0 Fx M rs99.toList∧rs102.toList.map FromR.v=y95.Late.toList∧All FromR.rel w0 Fx M rs102.toList∧rs105.toList.map ToR.v=y95.in_.toList∧All ToR.rel w0 Fx M rs105.toList) ?_ ?_
 ·refine Cd.seq<|Cd.quiet (by kernel_rfl) (by kernel_rfl)<|qr (Ev.move rfl)<|qr (Ev.eql rfl rfl)<|qr (Ev.move rfl) ?_
  obtain ⟨o115,H,HKo115⟩:=bs H
  refine Qt.join (σ:=Bool) 9 (fun y116=>[(0,pv ba0 0),(7,pv b27 0),(86,.bool y116)]) (fun y116=>y116=o115) ?_ ?_
  ·rcases ic2 H with ⟨hb117,H⟩|⟨hb117,H⟩
   ·refine qsk rfl hb117<|qsk rfl hb117<|qsk rfl hb117<|qsk rfl hb117<|qsk rfl hb117<|qsk rfl hb117<|qsk rfl hb117<|qsk rfl hb117<|qr (Ev.pickF rfl hb117 rfl) ?_
    exact Qt.meet false ⟨rfl,rfl,rfl,trivial⟩ (si H)
   refine qg hb117 (Ev.fo 3 rfl U132 rfl Z3 rfl rfl)<|qg hb117 (Ev.load (i:=1) rfl rfl I3 (v:=iv x24.View) ((Note.get_View gh0).off rfl))<|qg hb117 (Ev.move rfl)<|qg hb117 (Ev.nilCheck rfl)<|qg hb117 (Ev.fo 1 rfl U50 rfl Z34 rfl rfl)<|qg hb117 (Ev.fo 1 rfl U34 rfl Z3 rfl rfl)<|qg hb117 (Ev.load (i:=6) rfl rfl I3 (v:=iv a0.V.Num) ((RWldR.get_V (View.get_Num gh0)).off rfl))<|qg hb117 (Ev.eql rfl rfl)<|qr (Ev.pickT rfl hb117 rfl) ?_
   exact Qt.meet (x24.View==a0.V.Num) ⟨rfl,rfl,rfl,trivial⟩ (si H)
  rintro y116 hy
  subst hy
  refine Qt.as (e':=[(0,pv ba0 0),(7,pv b27 0),(86,.bool y116)]) ⟨rfl,rfl,rfl,trivial⟩ ?_
  replace H:=HKo115
  refine qr (Ev.move rfl) ?_
  obtain ⟨o118,H,HKo118⟩:=bs H
  refine Qt.join (σ:=Bool) 5 (fun y119=>[(0,pv ba0 0),(7,pv b27 0),(92,.bool y119)]) (fun y119=>y119=o118) ?_ ?_
  ·rcases ic2 H with ⟨hb120,H⟩|⟨hb120,H⟩
   ·refine qsk rfl hb120<|qsk rfl hb120<|qsk rfl hb120<|qsk rfl hb120<|qr (Ev.pickF rfl hb120 rfl) ?_
    exact Qt.meet false ⟨rfl,rfl,rfl,trivial⟩ (si H)
   refine qg hb120 (Ev.move rfl)<|qg hb120 (Ev.fo 2 rfl U132 rfl Z3 rfl rfl)<|qg hb120 (Ev.load (i:=1) rfl rfl I3 (v:=iv x24.To) ((Note.get_To gh0).off rfl)) ?_
   obtain ⟨r121,h122,H⟩:=bs H
   refine Qt.callG rfl rfl rfl hb120 rfl (by decide) (vs:=[pv ba0 0,iv x24.To]) ⟨rfl,rfl,trivial⟩ Tryz.call75 (Ok.isPerm (List.Perm.trans (front_perm (i:=6) rfl) (List.Perm.trans (front_perm (i:=1) rfl) (List.Perm.trans (front_perm (i:=5) rfl) (List.Perm.trans (front_perm (i:=5) rfl) (front_perm (i:=5) rfl))))) (partref_World_Here_sim h122 w0 _ M _ (sc2 hM) ma0x3 (All.monoLR na0x3 (ft T0 hF94) rl) ma0x4 (All.monoTo na0x4 (ft T0 hF94) rl) ma0x5 (All.monoFrom na0x5 (ft T0 hF94) rl) ma0x6 (All.monoTo na0x6 (ft T0 hF94) rl)))<|qr (Ev.pickT rfl hb120 rfl) ?_
   exact Qt.meet r121 ⟨rfl,rfl,rfl,trivial⟩ (si H)
  rintro y119 hy
  subst hy
  refine Qt.as (e':=[(0,pv ba0 0),(7,pv b27 0),(92,.bool y119)]) ⟨rfl,rfl,rfl,trivial⟩ ?_
  replace H:=HKo118
  refine Qt.done<|At.then ?_
  rcases ic2 H with ⟨hb125,H⟩|⟨hb125,H⟩
  ·refine Cd.condF rfl hb125<|Cd.skip ?_
   exact At.meet (({a0 with WayNotes:=l80}:RWld),ra0x3,ra0x4,ra0x5,ra0x6,s79,l80,sa0x7,a0.order,sa0x8,a0.marks) fl trivial rfl ⟨si H,ma0x3,(All.monoLR na0x3 (ft T0 hF94) rl),ma0x4,(All.monoTo na0x4 (ft T0 hF94) rl),ma0x5,(All.monoFrom na0x5 (ft T0 hF94) rl),ma0x6,(All.monoTo na0x6 (ft T0 hF94) rl)⟩
  refine Cd.condT rfl hb125<|Cd.region<|mv1 rfl<|lr (Ev.loadA (i:=1) rfl rfl I132 Z132 (ch:=enc x24) el gh0) ?_
  obtain ⟨r126,h127,H⟩:=bs H
  refine lf 6 rfl<|lf 1 rfl<|lf 5 rfl<|lf 5 rfl<|lf 5 rfl ?_
  refine cl rfl (vs:=[pv ba0 0,.agg (enc x24).toArray]) ⟨rfl,rfl,trivial⟩ Tryz.call76 (partref_World_comes_sim h127 w0 _ M _ (sc2 hM) hT ma0x3 (All.monoLR na0x3 (ft T0 hF94) rl) ma0x4 (All.monoTo na0x4 (ft T0 hF94) rl) ma0x5 (All.monoFrom na0x5 (ft T0 hF94) rl) ma0x6 (All.monoTo na0x6 (ft T0 hF94) rl)) (fun F143 L' v hF144 hv=>?_)
  obtain ⟨s128,s129,s130,rs131,rs134,rs137,rs140,rfl,rfl,fm132,fa133,fm135,fa136,fm138,fa139,fm141,fa142⟩:=hv
  refine Lst.nil<|af 6 rfl<|af 3 rfl<|af 3 rfl<|af 3 rfl<|af 6 rfl<|af 5 rfl ?_
  exact At.meet (({r126.2.2.2 with gone:=a0.gone,order:=r126.1,marks:=r126.2.1,WayNotes:=r126.2.2.1}:RWld),rs131,rs134,rs137,rs140,s130,r126.2.2.1,s128,r126.1,s129,r126.2.1) hF144 trivial rfl ⟨si H,fm132,(All.monoLR fa133 fl rl),fm135,(All.monoTo fa136 fl rl),fm138,(All.monoFrom fa139 fl rl),fm141,(All.monoTo fa142 fl rl)⟩
 rintro F145 ⟨y95,rs96,rs99,rs102,rs105,s108,l109,s110,l111,s112,l113⟩ hF146 ⟨hy,fm97,fa98,fm100,fa101,fm103,fa104,fm106,fa107⟩
 subst hy
 replace H:=HKo114
 refine sr0<|as1 rfl<|nt0 ?_
 obtain rfl:=si H
 refine Cd.ret ?_
 exact At.ret1 rfl (Res.tmp rfl) (ft (ft T0 hF94) hF146) (sk1 (sc1 (sk1 (sk2 (sc1 rl))))) ⟨s110,s112,rs96,rs99,rs102,rs105,s108,rfl,rfl,fm97,(All.monoLR fa98 fl rl),fm100,(All.monoTo fa101 fl rl),fm103,(All.monoFrom fa104 fl rl),fm106,(All.monoTo fa107 fl rl)⟩
theorem partref_World_Fall_sim {a0:RWld} {a1:Int} {ba0:Nat} {qa0x2:Nat} {ra0x3:Vector (LR Saying) 6} {ra0x4:Vector ToR 6} {ra0x5:Vector FromR 6} {ra0x6:Vector ToR 6} {sa0x7:Sl} {sa0x8:Sl} {sa0x9:Sl} {r:(List (Int×Int))×RWld×Int} (H:partref_World_Fall a0 a1=some r) (w0:World) (F:Frz) (M L:List Item) (hM:M.Sublist L) (ma0x3:ra0x3.toList.map LR.v=a0.Logs.toList) (na0x3:All LR.rel w0 F M ra0x3.toList) (ma0x4:ra0x4.toList.map ToR.v=a0.want.toList) (na0x4:All ToR.rel w0 F M ra0x4.toList) (ma0x5:ra0x5.toList.map FromR.v=a0.Late.toList) (na0x5:All FromR.rel w0 F M ra0x5.toList) (ma0x6:ra0x6.toList.map ToR.v=a0.in_.toList) (na0x6:All ToR.rel w0 F M ra0x6.toList):Ok Tryz.prog w0 41 [pv ba0 0,iv a1] F ((mii qa0x2 a0.gone)::(.own sa0x7 9 1 (encs a0.order))::(.own sa0x8 198 2 (encs a0.marks))::(.own sa0x9 132 12 (encs a0.WayNotes))::(.blk ba0 (enc (RWldR.mk a0 (some qa0x2) ra0x3 ra0x4 ra0x5 ra0x6 sa0x7 sa0x8 sa0x9)) 50)::L) (fun Fx L' v=>∃ (rs6:Vector (LR Saying) 6) (rs9:Vector ToR 6) (rs12:Vector FromR 6) (rs15:Vector ToR 6),v=iv r.2.2∧L'=(mii qa0x2 r.1)::(.own sa0x7 9 1 (encs a0.order))::(.own sa0x8 198 2 (encs a0.marks))::(.own sa0x9 132 12 (encs a0.WayNotes))::(.blk ba0 (enc (RWldR.mk ({r.2.1 with gone:=r.1,order:=a0.order,marks:=a0.marks,WayNotes:=a0.WayNotes}:RWld) (some qa0x2) rs6 rs9 rs12 rs15 sa0x7 sa0x8 sa0x9)) 50)::L∧rs6.toList.map LR.v=r.2.1.Logs.toList∧All LR.rel w0 Fx M rs6.toList∧rs9.toList.map ToR.v=r.2.1.want.toList∧All ToR.rel w0 Fx M rs9.toList∧rs12.toList.map FromR.v=r.2.1.Late.toList∧All FromR.rel w0 Fx M rs12.toList∧rs15.toList.map ToR.v=r.2.1.in_.toList∧All ToR.rel w0 Fx M rs15.toList):=by
 unfold partref_World_Fall at H
 refine Ok.enter (m:=2) (n:=20) Tryz.func41 rfl rfl rfl (by decide)<|Cd.env (e':=[(0,pv ba0 0),(1,iv a1)]) rfl<|sr0<|as1 rfl<|nt0<|Cd.seq<|sr0<|mv1 rfl<|lr (Ev.lss rfl rfl)<|mv1 rfl ?_
 obtain ⟨o6,H,HKo6⟩:=bs H
 refine Lst.join (σ:=Bool) 7 (fun y7=>[(0,pv ba0 0),(1,iv a1),(14,.bool y7)]) (fun y7=>(mii qa0x2 a0.gone)::(.own sa0x7 9 1 (encs a0.order))::(.own sa0x8 198 2 (encs a0.marks))::(.own sa0x9 132 12 (encs a0.WayNotes))::(.blk ba0 (enc (RWldR.mk a0 (some qa0x2) ra0x3 ra0x4 ra0x5 ra0x6 sa0x7 sa0x8 sa0x9)) 50)::L) (fun _ y7=>y7=o6) ?_ ?_
 ·rcases ic H with ⟨hb8,H⟩|⟨hb8,H⟩
  ·refine lsk rfl hb8<|lsk rfl hb8<|lsk rfl hb8<|lsk rfl hb8<|lsk rfl hb8<|lsk rfl hb8<|lr (Ev.pickT rfl hb8 rfl)<|Lst.nil ?_
   exact At.meet true fl ⟨rfl,rfl,rfl,trivial⟩ rfl (si H)
  refine lg hb8 (Ev.move rfl)<|lg hb8 (Ev.move rfl)<|lg hb8 (Ev.nilCheck rfl)<|lg hb8 (Ev.fo 0 rfl U50 rfl Z3 rfl rfl)<|lg hb8 (Ev.load (i:=4) rfl rfl I3 (v:=iv a0.n) ((RWldR.get_n gh0).off rfl))<|lg hb8 (Ev.geq rfl rfl)<|lr (Ev.pickF rfl hb8 rfl)<|Lst.nil ?_
  exact At.meet (decide (a1≥a0.n)) fl ⟨rfl,rfl,rfl,trivial⟩ rfl (si H)
 rintro F9 y7 hF10 hy
 subst hy
 replace H:=HKo6
 refine nt0 ?_
 rcases ic H with ⟨hb11,H⟩|⟨hb11,H⟩
 ·refine Cd.condT rfl hb11<|sr0<|as1 rfl<|nt0 ?_
  obtain rfl:=si H
  refine Cd.ret<|At.then_ret ?_
  exact At.ret1 rfl (Res.tmp rfl) hF10 rl ⟨ra0x3,ra0x4,ra0x5,ra0x6,rfl,rfl,ma0x3,(All.monoLR na0x3 hF10 rl),ma0x4,(All.monoTo na0x4 hF10 rl),ma0x5,(All.monoFrom na0x5 hF10 rl),ma0x6,(All.monoTo na0x6 hF10 rl)⟩
 refine Cd.condF rfl hb11<|Cd.skip<|At.then<|sr0<|mv1 rfl<|lr (Ev.nilCheck rfl)<|lr (Ev.fo 3 rfl U50 rfl Z36 rfl rfl)<|lr (Ev.load (i:=4) rfl rfl I36 (v:=.map (some qa0x2)) ((RWldR.get_gone gh0).off rfl))<|mv1 rfl ?_
 obtain ⟨m12,h13,H⟩:=Let_some H
 refine Lst.mapUpdate (i:=0) (kf:=(fun x:Int=>(iv x:Value))) (vf:=(fun x:Int=>(iv x:Value))) (m:=a0.gone) (k:=a1) (v:=(1:Int)) rfl rfl rfl rfl rfl rfl (KeyOk.int U3) U36<|Lst.its (L':=(mii qa0x2 m12)::(.own sa0x7 9 1 (encs a0.order))::(.own sa0x8 198 2 (encs a0.marks))::(.own sa0x9 132 12 (encs a0.WayNotes))::(.blk ba0 (enc (RWldR.mk ({a0 with gone:=m12}:RWld) (some qa0x2) ra0x3 ra0x4 ra0x5 ra0x6 sa0x7 sa0x8 sa0x9)) 50)::L) (by rw [← h13]; rfl)<|nsr<|as1 rfl<|nt0 ?_
 obtain rfl:=si H
 refine Cd.ret ?_
 exact At.ret1 rfl (Res.tmp rfl) hF10 rl ⟨ra0x3,ra0x4,ra0x5,ra0x6,rfl,rfl,ma0x3,(All.monoLR na0x3 hF10 rl),ma0x4,(All.monoTo na0x4 hF10 rl),ma0x5,(All.monoFrom na0x5 hF10 rl),ma0x6,(All.monoTo na0x6 hF10 rl)⟩
theorem partref_ViewErr_sim {a0:View} {r:Int} (H:partref_ViewErr a0=some r) (w0:World) (F:Frz) (M L:List Item) (hM:M.Sublist L):Ok Tryz.prog w0 132 [.agg (enc a0).toArray] F (L) (Is (iv r) (L)):=by
 unfold partref_ViewErr at H
 refine Ok.enter (m:=1) (n:=21) Tryz.func132 rfl rfl rfl (by decide)<|Cd.env (e':=[(0,.agg (enc a0).toArray)]) rfl<|sr0 ?_
 refine Lst.box rfl rfl (by decide) rfl (cs:=enc a0) rfl (fun b1=>?_)
 refine as1 rfl<|nt0<|Cd.seq<|sr0<|lr (Ev.fo 0 rfl U34 rfl Z3 rfl rfl)<|lr (Ev.load (i:=0) rfl rfl I3 (v:=iv a0.Num) ((View.get_Num gh0).off rfl))<|lr (Ev.lss rfl rfl)<|mv1 rfl ?_
 obtain ⟨o3,H,HKo3⟩:=bs H
 refine Lst.join (σ:=Bool) 4 (fun y4=>[(1,pv b1 0),(10,.bool y4)]) (fun y4=>(.blk b1 (enc a0) 34)::L) (fun _ y4=>y4=o3) ?_ ?_
 ·rcases ic H with ⟨hb5,H⟩|⟨hb5,H⟩
  ·refine lsk rfl hb5<|lsk rfl hb5<|lsk rfl hb5<|lr (Ev.pickT rfl hb5 rfl)<|Lst.nil ?_
   exact At.meet true fl ⟨rfl,rfl,trivial⟩ rfl (si H)
  refine lg hb5 (Ev.fo 0 rfl U34 rfl Z3 rfl rfl)<|lg hb5 (Ev.load (i:=0) rfl rfl I3 (v:=iv a0.Num) ((View.get_Num gh0).off rfl))<|lg hb5 (Ev.gtr rfl rfl)<|lr (Ev.pickF rfl hb5 rfl)<|Lst.nil ?_
  exact At.meet (decide (a0.Num > (16777215:Int))) fl ⟨rfl,rfl,trivial⟩ rfl (si H)
 rintro F6 y4 hF7 hy
 subst hy
 replace H:=HKo3
 refine mv1 rfl ?_
 obtain ⟨o8,H,HKo8⟩:=bs H
 refine Lst.join (σ:=Bool) 4 (fun y9=>[(1,pv b1 0),(15,.bool y9)]) (fun y9=>(.blk b1 (enc a0) 34)::L) (fun _ y9=>y9=o8) ?_ ?_
 ·rcases ic H with ⟨hb10,H⟩|⟨hb10,H⟩
  ·refine lsk rfl hb10<|lsk rfl hb10<|lsk rfl hb10<|lr (Ev.pickT rfl hb10 rfl)<|Lst.nil ?_
   exact At.meet true fl ⟨rfl,rfl,trivial⟩ rfl (si H)
  refine lg hb10 (Ev.fo 1 rfl U34 rfl Z5 rfl rfl)<|lg hb10 (Ev.load (i:=0) rfl rfl I5 (v:=.int .u8 a0.Members.toNat) ((View.get_Members gh0).off rfl))<|lg hb10 (Ev.lss rfl rfl)<|lr (Ev.pickF rfl hb10 rfl)<|Lst.nil ?_
  exact At.meet (decide ((a0.Members.toNat:Int) < ((1:BitVec 8).toNat:Int))) fl ⟨rfl,rfl,trivial⟩ rfl (si H)
 rintro F11 y9 hF12 hy
 subst hy
 replace H:=HKo8
 refine mv1 rfl ?_
 obtain ⟨o13,H,HKo13⟩:=bs H
 refine Lst.join (σ:=Bool) 4 (fun y14=>[(20,.bool y14)]) (fun y14=>(.blk b1 (enc a0) 34)::L) (fun _ y14=>y14=o13) ?_ ?_
 ·rcases ic H with ⟨hb15,H⟩|⟨hb15,H⟩
  ·refine lsk rfl hb15<|lsk rfl hb15<|lsk rfl hb15<|lr (Ev.pickT rfl hb15 rfl)<|Lst.nil ?_
   exact At.meet true fl ⟨rfl,trivial⟩ rfl (si H)
  refine lg hb15 (Ev.fo 1 rfl U34 rfl Z5 rfl rfl)<|lg hb15 (Ev.load (i:=0) rfl rfl I5 (v:=.int .u8 a0.Members.toNat) ((View.get_Members gh0).off rfl))<|lg hb15 (Ev.gtr rfl rfl)<|lr (Ev.pickF rfl hb15 rfl)<|Lst.nil ?_
  exact At.meet (decide ((a0.Members.toNat:Int) > ((63:BitVec 8).toNat:Int))) fl ⟨rfl,trivial⟩ rfl (si H)
 rintro F16 y14 hF17 hy
 subst hy
 replace H:=HKo13
 refine nt0 ?_
 rcases ic H with ⟨hb18,H⟩|⟨hb18,H⟩
 ·refine Cd.condT rfl hb18<|sr0<|as1 rfl<|nt0 ?_
  obtain rfl:=si H
  refine Cd.ret<|At.then_ret ?_
  exact At.ret1 rfl (Res.tmp rfl) (ft (ft hF7 hF12) hF17) (sc1 rl) ⟨rfl,rfl⟩
 refine Cd.condF rfl hb18<|Cd.skip<|At.then<|sr0<|as1 rfl<|nt0 ?_
 obtain rfl:=si H
 refine Cd.ret ?_
 exact At.ret1 rfl (Res.tmp rfl) (ft (ft hF7 hF12) hF17) (sc1 rl) ⟨rfl,rfl⟩
theorem partref_size_sim {fu:Nat} {a0:BitVec 16} {r:Int} (H:partref_size fu a0=some r) (w0:World) (F:Frz) (M L:List Item) (hM:M.Sublist L):Ok Tryz.prog w0 133 [.int .u16 a0.toNat] F (L) (Is (iv r) (L)):=by
 unfold partref_size at H
 refine Ok.enter (m:=1) (n:=14) Tryz.func133 rfl rfl rfl (by decide)<|Cd.env (e':=[(0,.int .u16 a0.toNat)]) rfl<|sr0<|as1 rfl<|nsr<|as1 rfl<|nt0<|Cd.seq<|Cd.block ?_
 obtain ⟨ol1,H,HKl1⟩:=andThen_some H
 refine Cd.loop (σ:=Nat×(BitVec 16)×Int) (fun (k1,y2,y3)=>[(0,.int .u16 y2.toNat),(3,iv y3)]) (fun (k1,y2,y3)=>L) (fun _=>(fun (k1,y2,y3)=>whileM (partref_size_B0) k1 (y2,y3)=some ol1)) (fun (k1,y2,y3)=>k1) (fu,a0,(0:Int)) ⟨rfl,rfl,trivial⟩ rfl H ?_
 rintro F4 ⟨k1,y2,y3⟩ hF5 H
 rcases k1 with _ | k1
 ·cases H
 obtain ⟨c1,H,hgo1,hbrk1,hret1⟩:=whileM_go H
 unfold partref_size_B0 at H
 try dsimp only at H
 refine Cd.seq<|sr0<|mv1 rfl<|lr (Ev.gtr rfl rfl)<|nt0 ?_
 rcases ic2 H with ⟨hb6,H⟩|⟨hb6,H⟩
 ·refine Cd.condF rfl hb6<|Cd.exit<|At.then_exit<|At.then_exit<|At.in_exit ?_
  have H:=hbrk1 _ (sj H)
  subst H
  replace H:=HKl1
  refine At.then<|sr0<|mv1 rfl<|as1 rfl<|nt0 ?_
  obtain rfl:=si H
  refine Cd.ret ?_
  exact At.ret1 rfl (Res.tmp rfl) hF5 rl ⟨rfl,rfl⟩
 refine Cd.condT rfl hb6<|Cd.skip<|At.then<|Cd.seq<|Cd.block<|Cd.region<|mv1 rfl<|mv1 rfl<|lr (Ev.remU16 (i:=y2) (j:=(2:BitVec 16)) rfl rfl (by decide))<|lr (Ev.convIS (j:=((y2 % (2:BitVec 16)).toNat:Int)) rfl U201 U3 (w64_id (by omega) (by omega)))<|lr (Ev.add rfl rfl) ?_
 refine as1 rfl<|Lst.nil<|At.in_normal<|At.then<|Cd.region<|mv1 rfl<|lr (Ev.quoU16 (i:=y2) (j:=(2:BitVec 16)) rfl rfl (by decide))<|as1 rfl<|Lst.nil ?_
 exact At.meet (k1,y2 / (2:BitVec 16),w64 (y3+((y2 % (2:BitVec 16)).toNat:Int))) hF5 ⟨rfl,rfl,trivial⟩ rfl ⟨hgo1 _ (sj H),nls⟩
theorem partref_NextView_sim {fu:Nat} {a0:View} {a1:BitVec 8} {a2:BitVec 8} {r:View×Int} (H:partref_NextView fu a0 a1 a2=some r) (w0:World) (F:Frz) (M L:List Item) (hM:M.Sublist L):Ok Tryz.prog w0 77 [.agg (enc a0).toArray,.int .u8 a1.toNat,.int .u8 a2.toNat] F (L) (Is (.tuple #[.agg (enc r.1).toArray,iv r.2]) (L)):=by
 let T0:=({View.zero with Num:=w64 (a0.Num+(1:Int)),Members:=(a0.Members - (a0.Members &&& a1)) ||| a2}:View)
 unfold partref_NextView at H
 refine Ok.enter (m:=3) (n:=57) Tryz.func77 rfl rfl rfl (by decide)<|Cd.env (e':=[(0,.agg (enc a0).toArray),(1,.int .u8 a1.toNat),(2,.int .u8 a2.toNat)]) rfl<|sr0 ?_
 refine Lst.box rfl rfl (by decide) rfl (cs:=enc a0) rfl (fun b1=>?_)
 refine Lst.alloc (cs:=enc View.zero) rfl rfl (by decide) Tryz.zeroValue34 rfl (fun b3=>?_)
 refine as1 rfl<|nt0<|Cd.seq<|sr0<|lr (Ev.loadA (i:=1) rfl rfl I34 Z34 (ch:=enc a0) el gh0) ?_
 obtain ⟨r5,h6,H⟩:=bs H
 refine cl1 rfl (vs:=[.agg (enc a0).toArray]) ⟨rfl,trivial⟩ Tryz.call132 (partref_ViewErr_sim h6 w0 _ M _ (sc2 hM))<|as1 rfl<|nsr<|mv1 rfl<|lr (Ev.neq rfl rfl)<|nt0 ?_
 rcases ic H with ⟨hb9,H⟩|⟨hb9,H⟩
 ·refine Cd.condT rfl hb9<|sr0<|lr (Ev.build (v:=.agg (enc View.zero).toArray) (pv:=[]) trivial (fun w=>by kernel_rfl))<|mv1 rfl<|lst 0 rfl rfl rfl Z34 (vs:=enc View.zero) rfl el (Enc.one _) (cs':=enc View.zero) phl rfl<|as1 rfl<|nt0 ?_
  obtain rfl:=si H
  refine Cd.ret<|At.then_ret ?_
  exact At.ret2 rfl (Res.cellA (i:=0) rfl rfl I34 Z34 el) (Res.tmp rfl) fl (sc2 rl) ⟨rfl,rfl⟩
 refine Cd.condF rfl hb9<|Cd.skip<|At.then<|Cd.seq<|sr0<|mv1 rfl<|lr (Ev.gtr rfl rfl)<|mv1 rfl ?_
 obtain ⟨o10,H,HKo10⟩:=bs H
 refine Lst.join (σ:=Bool) 3 (fun y11=>[(1,.int .u8 a1.toNat),(2,.int .u8 a2.toNat),(3,pv b1 0),(6,pv b3 0),(21,.bool y11)]) (fun y11=>(.blk b3 (enc View.zero) 34)::(.blk b1 (enc a0) 34)::L) (fun _ y11=>y11=o10) ?_ ?_
 ·rcases ic H with ⟨hb12,H⟩|⟨hb12,H⟩
  ·refine lsk rfl hb12<|lsk rfl hb12<|lr (Ev.pickT rfl hb12 rfl)<|Lst.nil ?_
   exact At.meet true fl ⟨rfl,rfl,rfl,rfl,rfl,trivial⟩ rfl (si H)
  refine lg hb12 (Ev.move rfl)<|lg hb12 (Ev.gtr rfl rfl)<|lr (Ev.pickF rfl hb12 rfl)<|Lst.nil ?_
  exact At.meet (decide ((a2.toNat:Int) > ((63:BitVec 8).toNat:Int))) fl ⟨rfl,rfl,rfl,rfl,rfl,trivial⟩ rfl (si H)
 rintro F13 y11 hF14 hy
 subst hy
 replace H:=HKo10
 refine mv1 rfl ?_
 obtain ⟨o15,H,HKo15⟩:=bs H
 refine Lst.join (σ:=Bool) 5 (fun y16=>[(1,.int .u8 a1.toNat),(2,.int .u8 a2.toNat),(3,pv b1 0),(6,pv b3 0),(27,.bool y16)]) (fun y16=>(.blk b3 (enc View.zero) 34)::(.blk b1 (enc a0) 34)::L) (fun _ y16=>y16=o15) ?_ ?_
 ·rcases ic H with ⟨hb17,H⟩|⟨hb17,H⟩
  ·refine lsk rfl hb17<|lsk rfl hb17<|lsk rfl hb17<|lsk rfl hb17<|lr (Ev.pickT rfl hb17 rfl)<|Lst.nil ?_
   exact At.meet true fl ⟨rfl,rfl,rfl,rfl,rfl,trivial⟩ rfl (si H)
  refine lg hb17 (Ev.move rfl)<|lg hb17 (Ev.move rfl)<|lg hb17 (Ev.andU8 (i:=a1) (j:=a2) rfl rfl)<|lg hb17 (Ev.gtr rfl rfl)<|lr (Ev.pickF rfl hb17 rfl)<|Lst.nil ?_
  exact At.meet (decide (((a1 &&& a2).toNat:Int) > ((0:BitVec 8).toNat:Int))) fl ⟨rfl,rfl,rfl,rfl,rfl,trivial⟩ rfl (si H)
 rintro F18 y16 hF19 hy
 subst hy
 replace H:=HKo15
 refine nt0 ?_
 rcases ic H with ⟨hb20,H⟩|⟨hb20,H⟩
 ·refine Cd.condT rfl hb20<|sr0<|lr (Ev.build (v:=.agg (enc View.zero).toArray) (pv:=[]) trivial (fun w=>by kernel_rfl))<|lst 0 rfl rfl rfl Z34 (vs:=enc View.zero) rfl el (Enc.one _) (cs':=enc View.zero) phl rfl<|as1 rfl<|nt0 ?_
  obtain rfl:=si H
  refine Cd.ret<|At.then_ret ?_
  exact At.ret2 rfl (Res.cellA (i:=0) rfl rfl I34 Z34 el) (Res.tmp rfl) (ft hF14 hF19) (sc2 rl) ⟨rfl,rfl⟩
 refine Cd.condF rfl hb20<|Cd.skip<|At.then<|Cd.seq<|sr0<|lr (Ev.fo 0 rfl U34 rfl Z3 rfl rfl)<|lr (Ev.load (i:=1) rfl rfl I3 (v:=iv a0.Num) ((View.get_Num gh0).off rfl))<|lr (Ev.eql rfl rfl)<|nt0 ?_
 rcases ic H with ⟨hb21,H⟩|⟨hb21,H⟩
 ·refine Cd.condT rfl hb21<|sr0<|lr (Ev.build (v:=.agg (enc View.zero).toArray) (pv:=[]) trivial (fun w=>by kernel_rfl))<|lst 0 rfl rfl rfl Z34 (vs:=enc View.zero) rfl el (Enc.one _) (cs':=enc View.zero) phl rfl<|as1 rfl<|nt0 ?_
  obtain rfl:=si H
  refine Cd.ret<|At.then_ret ?_
  exact At.ret2 rfl (Res.cellA (i:=0) rfl rfl I34 Z34 el) (Res.tmp rfl) (ft hF14 hF19) (sc2 rl) ⟨rfl,rfl⟩
 refine Cd.condF rfl hb21<|Cd.skip<|At.then<|Cd.seq<|sr0<|lr (Ev.fo 1 rfl U34 rfl Z5 rfl rfl)<|lr (Ev.load (i:=1) rfl rfl I5 (v:=.int .u8 a0.Members.toNat) ((View.get_Members gh0).off rfl))<|lr (Ev.fo 1 rfl U34 rfl Z5 rfl rfl)<|lr (Ev.load (i:=1) rfl rfl I5 (v:=.int .u8 a0.Members.toNat) ((View.get_Members gh0).off rfl))<|mv1 rfl<|lr (Ev.andU8 (i:=a0.Members) (j:=a1) rfl rfl) ?_
 refine lr (Ev.subU8 (i:=a0.Members) (j:=a0.Members &&& a1) rfl rfl)<|as1 rfl<|nt0<|Cd.seq<|Cd.quiet (by kernel_rfl) (by kernel_rfl)<|qr (Ev.move rfl)<|qr (Ev.convTo16 rfl U5 U201) ?_
 obtain ⟨r22,h23,H⟩:=bs H
 refine Qt.call rfl rfl (by decide) (vs:=[.int .u16 (BitVec.ofInt 16 ((a0.Members - (a0.Members &&& a1)).toNat:Int)).toNat]) ⟨rfl,trivial⟩ Tryz.call133 (partref_size_sim h23 w0 _ M _ (sc2 hM))<|qr (Ev.mul rfl rfl)<|qr (Ev.fo 1 rfl U34 rfl Z5 rfl rfl)<|qr (Ev.load (i:=1) rfl rfl I5 (v:=.int .u8 a0.Members.toNat) ((View.get_Members gh0).off rfl))<|qr (Ev.convTo16 rfl U5 U201) ?_
 obtain ⟨r26,h27,H⟩:=bs H
 refine Qt.call rfl rfl (by decide) (vs:=[.int .u16 (BitVec.ofInt 16 (a0.Members.toNat:Int)).toNat]) ⟨rfl,trivial⟩ Tryz.call133 (partref_size_sim h27 w0 _ M _ (sc2 hM))<|qr (Ev.gtr rfl rfl)<|Qt.done<|At.then ?_
 rcases ic H with ⟨hb30,H⟩|⟨hb30,H⟩
 ·refine Cd.condT rfl hb30<|sr0<|lr (Ev.fo 0 rfl U34 rfl Z3 rfl rfl)<|lr (Ev.load (i:=1) rfl rfl I3 (v:=iv a0.Num) ((View.get_Num gh0).off rfl))<|lr (Ev.add rfl rfl)<|mv1 rfl<|mv1 rfl<|lr (Ev.orU8 (i:=a0.Members - (a0.Members &&& a1)) (j:=a2) rfl rfl)<|lr (Ev.build (v:=.agg (enc T0).toArray) (pv:=[(0,iv (w64 (a0.Num+(1:Int)))),(1,.int .u8 ((a0.Members - (a0.Members &&& a1)) ||| a2).toNat)]) ⟨rfl,rfl,⟨rfl,rfl,trivial⟩⟩ (fun w=>by kernel_rfl))<|lst 0 rfl rfl rfl Z34 (vs:=enc T0) rfl el (Enc.one _) (cs':=enc T0) phl rfl<|as1 rfl ?_
  refine nt0 ?_
  obtain rfl:=si H
  refine Cd.ret<|At.then_ret ?_
  exact At.ret2 rfl (Res.cellA (i:=0) rfl rfl I34 Z34 el) (Res.tmp rfl) (ft hF14 hF19) (sc2 rl) ⟨rfl,rfl⟩
 refine Cd.condF rfl hb30<|Cd.skip<|At.then<|sr0<|lr (Ev.build (v:=.agg (enc View.zero).toArray) (pv:=[]) trivial (fun w=>by kernel_rfl))<|lst 0 rfl rfl rfl Z34 (vs:=enc View.zero) rfl el (Enc.one _) (cs':=enc View.zero) phl rfl<|as1 rfl<|nt0 ?_
 obtain rfl:=si H
 refine Cd.ret ?_
 exact At.ret2 rfl (Res.cellA (i:=0) rfl rfl I34 Z34 el) (Res.tmp rfl) (ft hF14 hF19) (sc2 rl) ⟨rfl,rfl⟩
theorem partref_World_Change_sim {fu:Nat} {a0:RWld} {ba0:Nat} {qa0x2:Nat} {ra0x3:Vector (LR Saying) 6} {ra0x4:Vector ToR 6} {ra0x5:Vector FromR 6} {ra0x6:Vector ToR 6} {sa0x7:Sl} {sa0x8:Sl} {sa0x9:Sl} {r:RWld×Int} (H:partref_World_Change fu a0=some r) (w0:World) (F:Frz) (M L:List Item) (hM:M.Sublist L) (ma0x3:ra0x3.toList.map LR.v=a0.Logs.toList) (na0x3:All LR.rel w0 F M ra0x3.toList) (ma0x4:ra0x4.toList.map ToR.v=a0.want.toList) (na0x4:All ToR.rel w0 F M ra0x4.toList) (ma0x5:ra0x5.toList.map FromR.v=a0.Late.toList) (na0x5:All FromR.rel w0 F M ra0x5.toList) (ma0x6:ra0x6.toList.map ToR.v=a0.in_.toList) (na0x6:All ToR.rel w0 F M ra0x6.toList):Ok Tryz.prog w0 42 [pv ba0 0] F ((mii qa0x2 a0.gone)::(.own sa0x7 9 1 (encs a0.order))::(.own sa0x8 198 2 (encs a0.marks))::(.own sa0x9 132 12 (encs a0.WayNotes))::(.blk ba0 (enc (RWldR.mk a0 (some qa0x2) ra0x3 ra0x4 ra0x5 ra0x6 sa0x7 sa0x8 sa0x9)) 50)::L) (fun Fx L' v=>∃ (rs6:Vector (LR Saying) 6) (rs9:Vector ToR 6) (rs12:Vector FromR 6) (rs15:Vector ToR 6) (s18:Sl) (s20:Sl),v=iv r.2∧L'=(.own s18 9 1 (encs r.1.order))::(.own s20 198 2 (encs r.1.marks))::(mii qa0x2 a0.gone)::(.own sa0x9 132 12 (encs a0.WayNotes))::(.blk ba0 (enc (RWldR.mk ({r.1 with gone:=a0.gone,WayNotes:=a0.WayNotes}:RWld) (some qa0x2) rs6 rs9 rs12 rs15 s18 s20 sa0x9)) 50)::L∧rs6.toList.map LR.v=r.1.Logs.toList∧All LR.rel w0 Fx M rs6.toList∧rs9.toList.map ToR.v=r.1.want.toList∧All ToR.rel w0 Fx M rs9.toList∧rs12.toList.map FromR.v=r.1.Late.toList∧All FromR.rel w0 Fx M rs12.toList∧rs15.toList.map ToR.v=r.1.in_.toList∧All ToR.rel w0 Fx M rs15.toList):=by
 let T10:Item:=.own sa0x7 9 1 (encs a0.order)
 let T7:Item:=.own sa0x8 198 2 (encs a0.marks)
 let T5:=RWldR.mk a0 (some qa0x2) ra0x3 ra0x4 ra0x5 ra0x6 sa0x7 sa0x8 sa0x9
 let T4:Item:=.own sa0x9 132 12 (encs a0.WayNotes)
 unfold partref_World_Change at H
 refine Ok.enter (m:=1) (n:=129) Tryz.func42 rfl rfl rfl (by decide)<|Cd.env (e':=[(0,pv ba0 0)]) rfl<|sr0<|as1 rfl<|nsr<|as1 rfl<|nsr<|Lst.addNil 62 2<|as1 rfl<|nt0<|Cd.seq ?_
 refine sr0<|mv1 rfl<|lr (Ev.nilCheck rfl)<|lr (Ev.fo 0 rfl U50 rfl Z3 rfl rfl)<|lr (Ev.load (i:=5) rfl rfl I3 (v:=iv a0.n) ((RWldR.get_n gh0).off rfl))<|mv1 rfl<|nt0<|Cd.block ?_
 refine Cd.freeze (i:=0) rfl (fun F8 hF9 hz10=>?_)
 have hq11:Rd w0 F8 [] Sl.nil ([]:List Saying):=Rd.frozen hz10 rfl rfl
 obtain ⟨nn18,hN151,H⟩:=bs H
 replace hN151:=upTo_some hN151
 obtain ⟨ol7,H,HKl7⟩:=bs H
 refine Cd.loop (σ:=Nat×Nat×(BitVec 8)×Sl×(List Saying)) (fun (i7,k7,y12,s13,l14)=>[(0,pv ba0 0),(3,.int .u8 y12.toNat),(4,Sl.v s13),(15,iv a0.n),(16,iv (i7:Int))]) (fun (i7,k7,y12,s13,l14)=>(mii qa0x2 a0.gone)::T10::T7::T4::(.blk ba0 (enc T5) 50)::L) (fun Fx=>(fun (i7,k7,y12,s13,l14)=>rangeF (partref_World_Change_B0 a0) k7 i7 (y12,l14)=some ol7∧i7+k7=nn18∧Rd w0 Fx M s13 l14)) (fun (i7,k7,y12,s13,l14)=>k7) (0,nn18,(0:BitVec 8),Sl.nil,([]:List Saying)) ⟨rfl,rfl,rfl,rfl,rfl,trivial⟩ rfl ⟨H,by omega,(hq11.mono fl nsl)⟩ ?_
 rintro F16 ⟨i7,k7,y12,s13,l14⟩ hF17 ⟨H,hik7,f15⟩
 rcases k7 with _ | k7
 ·have hc7:decide ((i7:Int) < a0.n)=false:=decide_eq_false (by omega)
  replace H:=rangeF_end H
  refine sr0<|lr (Ev.lss rfl rfl)<|nt0<|Cd.seq<|Cd.condF rfl hc7<|Cd.exit<|At.then_exit<|At.then_exit<|At.in_exit ?_
  subst H
  replace H:=HKl7
  refine At.then<|sr0<|mv1 rfl<|lr (Ev.nilCheck rfl)<|lr (Ev.fo 1 rfl U50 rfl Z34 rfl rfl)<|lr (Ev.loadA (i:=4) rfl rfl I34 Z34 (ch:=enc a0.V) el ((RWldR.get_V gh0).off rfl))<|mv1 rfl ?_
  obtain ⟨r36,h37,H⟩:=bs H
  refine cl1 rfl (vs:=[.agg (enc a0.V).toArray,.int .u8 y12.toNat,.int .u8 (0:BitVec 8).toNat]) ⟨rfl,rfl,rfl,trivial⟩ Tryz.call77 (partref_NextView_sim h37 w0 _ M _ (sc4 (sc1 hM)))<|mv1 rfl<|lr (Ev.extract rfl rfl)<|lr (Ev.extract rfl rfl) ?_
  refine Lst.alloc (cs:=enc View.zero) rfl rfl (by decide) Tryz.zeroValue34 rfl (fun b40=>?_)
  refine lst 0 rfl rfl rfl Z34 (vs:=enc r36.1) rfl el (Enc.one _) (cs':=enc r36.1) phl rfl<|as1 rfl<|nt0<|Cd.seq<|sr0<|mv1 rfl<|lr (Ev.neq rfl rfl)<|nt0 ?_
  rcases ic H with ⟨hb42,H⟩|⟨hb42,H⟩
  ·refine Cd.condT rfl hb42<|sr0<|mv1 rfl<|as1 rfl<|nt0 ?_
   obtain rfl:=si H
   refine Cd.ret<|At.then_ret<|af 3 rfl<|af 3 rfl ?_
   exact At.ret1 rfl (Res.tmp rfl) (ft hF9 hF17) (sk2 (sc1 rl)) ⟨ra0x3,ra0x4,ra0x5,ra0x6,sa0x7,sa0x8,rfl,rfl,ma0x3,(All.monoLR na0x3 (ft hF9 hF17) rl),ma0x4,(All.monoTo na0x4 (ft hF9 hF17) rl),ma0x5,(All.monoFrom na0x5 (ft hF9 hF17) rl),ma0x6,(All.monoTo na0x6 (ft hF9 hF17) rl)⟩
  refine Cd.condF rfl hb42<|Cd.skip<|At.then<|Cd.seq<|sr0<|mv1 rfl<|lr (Ev.nilCheck rfl)<|lr (Ev.fo 0 rfl U50 rfl Z3 rfl rfl)<|lr (Ev.load (i:=5) rfl rfl I3 (v:=iv a0.n) ((RWldR.get_n gh0).off rfl))<|mv1 rfl<|nt0 ?_
  refine Cd.block ?_
  obtain ⟨nn59,hN150,H⟩:=bs H
  replace hN150:=upTo_some hN150
  obtain ⟨ol43,H,HKl43⟩:=bs H
  refine Cd.loop (σ:=Nat×Nat×RWld×(Vector (LR Saying) 6)×(Vector ToR 6)×(Vector FromR 6)×(Vector ToR 6)) (fun (i43,k43,y44,rs45,rs48,rs51,rs54)=>[(0,pv ba0 0),(4,Sl.v s13),(6,pv b40 0),(59,iv a0.n),(60,iv (i43:Int))]) (fun (i43,k43,y44,rs45,rs48,rs51,rs54)=>(.blk b40 (enc r36.1) 34)::(mii qa0x2 a0.gone)::T10::T7::T4::(.blk ba0 (enc (RWldR.mk ({y44 with gone:=a0.gone,order:=a0.order,marks:=a0.marks,WayNotes:=a0.WayNotes}:RWld) (some qa0x2) rs45 rs48 rs51 rs54 sa0x7 sa0x8 sa0x9)) 50)::L) (fun Fx=>(fun (i43,k43,y44,rs45,rs48,rs51,rs54)=>rangeF (partref_World_Change_B2 a0 l14) k43 i43 y44=some ol43∧i43+k43=nn59∧rs45.toList.map LR.v=y44.Logs.toList∧All LR.rel w0 Fx M rs45.toList∧rs48.toList.map ToR.v=y44.want.toList∧All ToR.rel w0 Fx M rs48.toList∧rs51.toList.map FromR.v=y44.Late.toList∧All FromR.rel w0 Fx M rs51.toList∧rs54.toList.map ToR.v=y44.in_.toList∧All ToR.rel w0 Fx M rs54.toList)) (fun (i43,k43,y44,rs45,rs48,rs51,rs54)=>k43) (0,nn59,a0,ra0x3,ra0x4,ra0x5,ra0x6) ⟨rfl,rfl,rfl,rfl,rfl,trivial⟩ rfl ⟨H,by omega,ma0x3,(All.monoLR na0x3 (ft hF9 hF17) rl),ma0x4,(All.monoTo na0x4 (ft hF9 hF17) rl),ma0x5,(All.monoFrom na0x5 (ft hF9 hF17) rl),ma0x6,(All.monoTo na0x6 (ft hF9 hF17) rl)⟩ ?_
  rintro F57 ⟨i43,k43,y44,rs45,rs48,rs51,rs54⟩ hF58 ⟨H,hik43,fm46,fa47,fm49,fa50,fm52,fa53,fm55,fa56⟩
  let T11:=({y44 with gone:=a0.gone,order:=a0.order,marks:=a0.marks,WayNotes:=a0.WayNotes}:RWld)
  let T2:=rs45.setIfInBounds (i43:Int).toNat (LR.mk l14 s13)
  let T1:=RWldR.mk T11 (some qa0x2) rs45 rs48 rs51 rs54 sa0x7 sa0x8 sa0x9
  rcases k43 with _ | k43
  ·have hc43:decide ((i43:Int) < a0.n)=false:=decide_eq_false (by omega)
   replace H:=rangeF_end H
   refine sr0<|lr (Ev.lss rfl rfl)<|nt0<|Cd.seq<|Cd.condF rfl hc43<|Cd.exit<|At.then_exit<|At.then_exit<|At.in_exit ?_
   subst H
   replace H:=HKl43
   refine At.then<|sr0<|mv1 rfl<|mv1 rfl<|mv1 rfl<|mv1 rfl<|lr (Ev.loadA (i:=0) rfl rfl I34 Z34 (ch:=enc r36.1) el gh0) ?_
   have hm146:(Vector.replicate 6 (ToR.mk To.zero Sl.nil):Vector ToR 6).toList.map ToR.v=(Vector.replicate 6 To.zero:Vector To 6).toList:=vmap_rep _ _
   have ha147:All ToR.rel w0 F57 [] (Vector.replicate 6 (ToR.mk To.zero Sl.nil):Vector ToR 6).toList:=vAll_rep Rd.nil
   refine lr (Ev.build (v:=.agg (enc (Vector.replicate 6 (ToR.mk To.zero Sl.nil):Vector ToR 6)).toArray) (pv:=[]) trivial (fun w=>by kernel_rfl))<|lr (Ev.nilCheck rfl)<|lr (Ev.fo 1 rfl U50 rfl Z34 rfl rfl)<|lst 5 rfl rfl rfl Z34 (vs:=enc r36.1) rfl el (Enc.one _) (cs':=enc (RWldR.mk ({y44 with V:=r36.1,gone:=a0.gone,order:=a0.order,marks:=a0.marks,WayNotes:=a0.WayNotes}:RWld) (some qa0x2) rs45 rs48 rs51 rs54 sa0x7 sa0x8 sa0x9)) ((RWldR.put_V phl).off rfl) rfl<|lr (Ev.nilCheck rfl)<|lr (Ev.fo 34 rfl U50 rfl Z42 rfl rfl)<|lst 5 rfl rfl rfl Z42 (vs:=enc (Vector.replicate 6 (ToR.mk To.zero Sl.nil):Vector ToR 6)) rfl el (Enc.one _) (cs':=enc (RWldR.mk ({y44 with V:=r36.1,gone:=a0.gone,in_:=(Vector.replicate 6 To.zero:Vector To 6),order:=a0.order,marks:=a0.marks,WayNotes:=a0.WayNotes}:RWld) (some qa0x2) rs45 rs48 rs51 (Vector.replicate 6 (ToR.mk To.zero Sl.nil):Vector ToR 6) sa0x7 sa0x8 sa0x9)) ((RWldR.put_in_ phl).off rfl) rfl<|lr (Ev.nilCheck rfl)<|lr (Ev.fo 46 rfl U50 rfl Z43 rfl rfl)<|Lst.addNil 9 1<|lst 6 rfl rfl rfl Z43 (vs:=[Sl.v Sl.nil]) rfl rfl rfl (cs':=enc (RWldR.mk ({y44 with V:=r36.1,gone:=a0.gone,in_:=(Vector.replicate 6 To.zero:Vector To 6),order:=([]:List Str),marks:=a0.marks,WayNotes:=a0.WayNotes}:RWld) (some qa0x2) rs45 rs48 rs51 (Vector.replicate 6 (ToR.mk To.zero Sl.nil):Vector ToR 6) Sl.nil sa0x8 sa0x9)) ((RWldR.put_order (Put.here (vs:=[Sl.v Sl.nil]) rfl)).off rfl) rfl ?_
   refine lr (Ev.nilCheck rfl)<|lr (Ev.fo 47 rfl U50 rfl Z47 rfl rfl)<|Lst.addNil 198 2<|lst 7 rfl rfl rfl Z47 (vs:=[Sl.v Sl.nil]) rfl rfl rfl (cs':=enc (RWldR.mk ({y44 with V:=r36.1,gone:=a0.gone,in_:=(Vector.replicate 6 To.zero:Vector To 6),order:=([]:List Str),marks:=([]:List Mark),WayNotes:=a0.WayNotes}:RWld) (some qa0x2) rs45 rs48 rs51 (Vector.replicate 6 (ToR.mk To.zero Sl.nil):Vector ToR 6) Sl.nil Sl.nil sa0x9)) ((RWldR.put_marks (Put.here (vs:=[Sl.v Sl.nil]) rfl)).off rfl) rfl<|nsr<|as1 rfl<|nt0 ?_
   obtain rfl:=si H
   refine Cd.ret<|af 1 rfl ?_
   exact At.ret1 rfl (Res.tmp rfl) (ft (ft hF9 hF17) hF58) (sk2 (sc1 (sk1 (sc2 rl)))) ⟨rs45,rs48,rs51,(Vector.replicate 6 (ToR.mk To.zero Sl.nil):Vector ToR 6),Sl.nil,Sl.nil,rfl,rfl,fm46,(All.monoLR fa47 fl rl),fm49,(All.monoTo fa50 fl rl),fm52,(All.monoFrom fa53 fl rl),hm146,(All.monoTo ha147 fl nsl)⟩
  have hc43:decide ((i43:Int) < a0.n)=true:=decide_eq_true (by omega)
  obtain ⟨c43,H,hgo43⟩:=rangeF_go H
  unfold partref_World_Change_B2 at H
  try dsimp only at H
  refine sr0<|lr (Ev.lss rfl rfl)<|nt0<|Cd.seq<|Cd.condT rfl hc43<|Cd.skip<|At.then<|Cd.seq<|Cd.block<|sr0<|mv1 rfl ?_
  refine as1 rfl<|nt0<|Cd.seq<|sr0<|mv1 rfl<|mv1 rfl ?_
  obtain ⟨r60,h61,H⟩:=bs H
  refine lf 5 rfl<|lf 5 rfl<|lf 5 rfl<|lf 5 rfl<|lf 5 rfl<|cl1 rfl (vs:=[pv ba0 0,iv (i43:Int)]) ⟨rfl,rfl,trivial⟩ Tryz.call75 (partref_World_Here_sim h61 w0 _ M _ (sc1 hM) fm46 (All.monoLR fa47 fl rl) fm49 (All.monoTo fa50 fl rl) fm52 (All.monoFrom fa53 fl rl) fm55 (All.monoTo fa56 fl rl))<|lr (Ev.not rfl)<|nt0 ?_
  rcases ic H with ⟨hb64,H⟩|⟨hb64,H⟩
  ·refine Cd.condT rfl hb64<|Cd.exit<|At.then_exit<|At.in_exit<|At.then<|Cd.region<|lr (Ev.incr (by omega) rfl rfl)<|mv1 rfl<|Lst.nil<|af 5 rfl ?_
   exact At.meet (i43+1,k43,T11,rs45,rs48,rs51,rs54) hF58 ⟨rfl,rfl,rfl,rfl,rfl,trivial⟩ rfl ⟨⟨hgo43 _ (sj H),by omega,fm46,(All.monoLR fa47 fl rl),fm49,(All.monoTo fa50 fl rl),fm52,(All.monoFrom fa53 fl rl),fm55,(All.monoTo fa56 fl rl)⟩,nls⟩
  refine Cd.condF rfl hb64<|Cd.skip<|At.then<|sr0<|mv1 rfl<|mv1 rfl<|lr (Ev.nilCheck rfl)<|lr (Ev.fo 22 rfl U50 rfl Z46 rfl rfl) ?_
  obtain ⟨x65,h66,H⟩:=bs H
  have g67:=vat_some h66
  obtain ⟨⟨r68v,r68h1⟩,r68g,r68e,r68m,r68l⟩:=vmap_get fm52 g67.2.2
  obtain rfl:x65=r68v:=r68e.symm
  have r68q:FromR.rel w0 _ _ (FromR.mk x65 r68h1):=fa53 _ r68m
  have r68_f1:Rd w0 _ _ _ _:=r68q
  refine lr (Ev.indexAddr (off':=22+(i43:Int).toNat * 2) rfl rfl U46 Z45 g67.1 g67.2.1 rfl)<|lr (Ev.fo (22+(i43:Int).toNat * 2+1) rfl U45 rfl Z43 rfl rfl)<|lr (Ev.load (i:=4) rfl rfl I43 (v:=Sl.v r68h1) ((RWldR.get_Late (p:=T1) (Get.vecN (s:=2) rfl r68g (FromR.get_Late gh0))).off (by omega)))<|as1 rfl<|nt0<|Cd.seq<|sr0<|mv1 rfl<|mv1 rfl<|mv1 rfl<|lr (Ev.nilCheck rfl) ?_
  refine lr (Ev.fo 4 rfl U50 rfl Z38 rfl rfl) ?_
  obtain ⟨x69,h70,H⟩:=bs H
  have g71:=vat_some h70
  obtain ⟨⟨r72v,r72h⟩,r72g,r72e,r72m,r72l⟩:=vmap_get fm46 g71.2.2
  obtain rfl:x69=r72v:=r72e.symm
  have r72q:Rd w0 _ _ r72h x69:=fa47 _ r72m
  refine lr (Ev.indexAddr (off':=4+(i43:Int).toNat * 1) rfl rfl U38 Z37 g71.1 g71.2.1 rfl)<|lr (Ev.load (i:=4) rfl rfl I37 (v:=Sl.v r72h) ((RWldR.get_Logs (p:=T1) (Get.vecN (s:=1) rfl r72g gh0)).off (by omega)))<|lr (Ev.lenS (α:=Saying) (xs:=x69) (by decide) rfl rfl U37 (r72q.mono fl (sc4 (sc2 hM)))) ?_
  obtain ⟨m73,h74,H⟩:=bs H
  obtain ⟨g75,gl76⟩:=cutL_some h74
  try dsimp only at g75
  have hq77:Rd w0 F16 M (s13.cut ((x69.length:Int):Int).toNat ((l14.length:Int):Int).toNat 2) m73:=by rw [← gl76]; exact Rd.cut (by decide) f15 (by omega) (by omega)
  refine lr (Ev.cut (α:=Saying) (xs:=l14) (i:=(x69.length:Int)) (j:=(l14.length:Int)) rfl rfl rfl U37 Z62 rfl (by decide) (f15.mono hF58 (sc4 (sc2 hM))) g75.1 g75.2.1 g75.2.2)<|lr (Ev.lenS (α:=Saying) (xs:=m73) (by decide) rfl rfl U37 (hq77.mono hF58 (sc4 (sc2 hM))))<|mv1 rfl<|nt0<|Cd.block ?_
  refine Cd.bound (Rd.le (α:=Saying) (xs:=m73) (by decide) (hq77.mono hF58 (sc4 (sc2 hM)))) (fun hN145=>?_)
  obtain ⟨ol78,H,HKl78⟩:=bs H
  refine Cd.loop (σ:=Nat×Nat×Sl×(List Str)) (fun (i78,k78,s79,l80)=>[(0,pv ba0 0),(4,Sl.v s13),(6,pv b40 0),(8,iv (i43:Int)),(9,Sl.v s79),(59,iv a0.n),(60,iv (i43:Int)),(82,Sl.v (s13.cut ((x69.length:Int):Int).toNat ((l14.length:Int):Int).toNat 2)),(83,iv (m73.length:Int)),(84,iv (i78:Int))]) (fun (i78,k78,s79,l80)=>(mii qa0x2 a0.gone)::T10::T7::T4::(.blk ba0 (enc T1) 50)::(.blk b40 (enc r36.1) 34)::L) (fun Fx=>(fun (i78,k78,s79,l80)=>rangeF (partref_World_Change_B4 i43 m73) k78 i78 l80=some ol78∧i78+k78=m73.length∧Rd w0 Fx M s79 l80)) (fun (i78,k78,s79,l80)=>k78) (0,m73.length,r68h1,x65.Late) ⟨rfl,rfl,rfl,rfl,rfl,rfl,rfl,rfl,rfl,rfl,trivial⟩ rfl ⟨H,by omega,(r68_f1.mono fl rl)⟩ ?_
  rintro F82 ⟨i78,k78,s79,l80⟩ hF83 ⟨H,hik78,f81⟩
  let T12:=s79.cut ((1:Int):Int).toNat ((l80.length:Int):Int).toNat 1
  let T0:=FromR.mk ({From.zero with Late:=l80}:From) s79
  let T8:=rs51.setIfInBounds (i43:Int).toNat T0
  rcases k78 with _ | k78
  ·have hc78:decide ((i78:Int) < (m73.length:Int))=false:=decide_eq_false (by omega)
   replace H:=rangeF_end H
   refine sr0<|lr (Ev.lss rfl rfl)<|nt0<|Cd.seq<|Cd.condF rfl hc78<|Cd.exit<|At.then_exit<|At.then_exit<|At.in_exit ?_
   subst H
   replace H:=HKl78
   refine At.then ?_
   obtain ⟨x95,h96,H⟩:=bs H
   obtain ⟨p99,h100,H⟩:=Let_some H
   obtain ⟨x103,h104,H⟩:=bs H
   obtain ⟨p107,h108,H⟩:=Let_some H
   let T6:=({y44 with gone:=a0.gone,Logs:=p99,Late:=p107,order:=a0.order,marks:=a0.marks,WayNotes:=a0.WayNotes}:RWld)
   obtain ⟨o125,h126,H⟩:=Let_some H
   refine Cd.headMeet (σ:=RWld×(Vector (LR Saying) 6)×(Vector ToR 6)×(Vector FromR 6)×(Vector ToR 6)) 20 (fun (y112,rs113,rs116,rs119,rs122)=>[(0,pv ba0 0),(4,Sl.v s13),(6,pv b40 0),(59,iv a0.n),(60,iv (i43:Int)),(100,iv (i43:Int)),(104,.agg (enc (ToR.mk To.zero Sl.nil)).toArray),(112,pv ba0 10)]) (fun (y112,rs113,rs116,rs119,rs122)=>(mii qa0x2 a0.gone)::T10::T7::T4::(.blk ba0 (enc (RWldR.mk ({y112 with gone:=a0.gone,order:=a0.order,marks:=a0.marks,WayNotes:=a0.WayNotes}:RWld) (some qa0x2) rs113 rs116 rs119 rs122 sa0x7 sa0x8 sa0x9)) 50)::(.blk b40 (enc r36.1) 34)::L) (fun Fx (y112,rs113,rs116,rs119,rs122)=>y112=o125∧rs113.toList.map LR.v=y112.Logs.toList∧All LR.rel w0 Fx M rs113.toList∧rs116.toList.map ToR.v=y112.want.toList∧All ToR.rel w0 Fx M rs116.toList∧rs119.toList.map FromR.v=y112.Late.toList∧All FromR.rel w0 Fx M rs119.toList∧rs122.toList.map ToR.v=y112.in_.toList∧All ToR.rel w0 Fx M rs122.toList) (by kernel_rfl) (by kernel_rfl) (behind_sink (by kernel_rfl) (by kernel_rfl) (by kernel_rfl)) (by kernel_rfl) (fun hsel hlt=>?_) ?_
   ·refine HdJ.keep (fun w=>St w0 F82 ((mii qa0x2 a0.gone)::T10::T7::T4::(.blk b40 (enc r36.1) 34)::L) w) (fun w h=>trivial)<|hts rfl hsel hlt 0 (sk4 (sc1 rl)) rfl (Ev.move rfl)<|hts rfl hsel hlt 1 (sk4 (sc1 rl)) rfl (Ev.move rfl)<|hts rfl hsel hlt 2 (sk4 (sc1 rl)) rfl (Ev.move rfl)<|hts rfl hsel hlt 3 (sk4 (sc1 rl)) rfl (Ev.move rfl)<|hts rfl hsel hlt 4 (sk4 (sc1 rl)) rfl (Ev.move rfl)<|hts rfl hsel hlt 5 (sk4 (sc1 rl)) rfl (Ev.move rfl)<|hts rfl hsel hlt 6 (sk4 (sc1 rl)) rfl (Ev.move rfl)<|hts rfl hsel hlt 7 (sk4 (sc1 rl)) rfl (Ev.move rfl)<|hts rfl hsel hlt 8 (sk4 (sc1 rl)) rfl (Ev.build (v:=.agg (enc T0).toArray) (pv:=[(1,Sl.v s79)]) ⟨rfl,rfl,trivial⟩ (run_buildStruct (places:=#[(0,1),(1,1)]) Tryz.zeroValue45 (zs:=enc (FromR.mk From.zero Sl.nil)) rfl U45 (fun w=>by kernel_rfl) (fill_cons (cs:=enc (FromR.mk From.zero Sl.nil)) (cs':=enc T0) (vs:=[Sl.v s79]) rfl rfl rfl ((FromR.put_Late (p:=(FromR.mk From.zero Sl.nil)) (y:=s79) (Put.here (vs:=[Sl.v s79]) rfl)).off rfl) fill_nil)))<|hts rfl hsel hlt 9 (sk4 (sc1 rl)) rfl (Ev.build (v:=.agg (enc (ToR.mk To.zero Sl.nil)).toArray) (pv:=[]) trivial (fun w=>by kernel_rfl)) ?_
    refine hts rfl hsel hlt 10 (sk4 (sc1 rl)) rfl (Ev.nilCheck rfl)<|hts rfl hsel hlt 11 (sk4 (sc1 rl)) rfl (Ev.fo 4 rfl U50 rfl Z38 rfl rfl)<|hts rfl hsel hlt 14 (sk4 (sc1 rl)) rfl (Ev.nilCheck rfl)<|hts rfl hsel hlt 15 (sk4 (sc1 rl)) rfl (Ev.fo 22 rfl U50 rfl Z46 rfl rfl)<|hts rfl hsel hlt 18 (sk4 (sc1 rl)) rfl (Ev.nilCheck rfl)<|hts rfl hsel hlt 19 (sk4 (sc1 rl)) rfl (Ev.fo 10 rfl U50 rfl Z42 rfl rfl) ?_
    refine HdJ.o1 12 (fun inv=>?_)
    have g127:=vat_some h96
    obtain ⟨⟨r128v,r128h⟩,r128g,r128e,r128m,r128l⟩:=vmap_get fm46 g127.2.2
    obtain rfl:x95=r128v:=r128e.symm
    have r128q:Rd w0 _ _ r128h x95:=fa47 _ r128m
    refine lr (Ev.indexAddr (off':=4+(i43:Int).toNat * 1) rfl rfl U38 Z37 g127.1 g127.2.1 rfl)<|hds inv (sk4 (sc1 rl)) ?_
    refine HdJ.o1 13 (fun inv=>?_)
    have hm129:T2.toList.map LR.v=p99.toList:=(vmap_set fm46 _ _).trans (congrArg Vector.toList h100)
    have ha130:All LR.rel w0 F82 M T2.toList:=vAll_set (All.monoLR fa47 hF83 rl) ((f15.mono (ft hF58 hF83) rl))
    refine lst 4 rfl rfl rfl Z37 (vs:=[Sl.v s13]) rfl rfl rfl (cs':=enc (RWldR.mk ({y44 with gone:=a0.gone,Logs:=p99,order:=a0.order,marks:=a0.marks,WayNotes:=a0.WayNotes}:RWld) (some qa0x2) T2 rs48 rs51 rs54 sa0x7 sa0x8 sa0x9)) ((RWldR.put_Logs (l:=p99) (Put.vecN (s:=1) (y:=(LR.mk l14 s13)) rfl r128g (Put.here (vs:=[Sl.v s13]) rfl))).off (by omega)) rfl<|hds inv (sk4 (sc1 rl)) ?_
    refine HdJ.o1 16 (fun inv=>?_)
    have g131:=vat_some h104
    obtain ⟨⟨r132v,r132h1⟩,r132g,r132e,r132m,r132l⟩:=vmap_get fm52 g131.2.2
    obtain rfl:x103=r132v:=r132e.symm
    have r132q:FromR.rel w0 _ _ (FromR.mk x103 r132h1):=fa53 _ r132m
    have r132_f1:Rd w0 _ _ _ _:=r132q
    refine lr (Ev.indexAddr (off':=22+(i43:Int).toNat * 2) rfl rfl U46 Z45 g131.1 g131.2.1 rfl)<|hds inv (sk4 (sc1 rl)) ?_
    refine HdJ.o1 17 (fun inv=>?_)
    have hm133:T8.toList.map FromR.v=p107.toList:=(vmap_set fm52 _ _).trans (congrArg Vector.toList h108)
    have ha134:All FromR.rel w0 F82 M T8.toList:=vAll_set (All.monoFrom fa53 hF83 rl) ((f81.mono fl rl))
    refine lst 4 rfl rfl rfl Z45 (vs:=enc T0) rfl el (Enc.one _) (cs':=enc (RWldR.mk T6 (some qa0x2) T2 rs48 T8 rs54 sa0x7 sa0x8 sa0x9)) ((RWldR.put_Late (l:=p107) (Put.vecN (s:=2) (y:=T0) rfl r132g phl)).off (by omega)) rfl<|hds inv (sk4 (sc1 rl))<|HdJ.done (by kernel_rfl) ?_
    exact At.meetN (T6,T2,rs48,T8,rs54) fl ⟨rfl,rfl,rfl,rfl,rfl,rfl,rfl,rfl,trivial⟩ rfl ⟨h126,hm129,(All.monoLR ha130 fl rl),fm49,(All.monoTo fa50 hF83 rl),hm133,(All.monoFrom ha134 fl rl),fm55,(All.monoTo fa56 hF83 rl)⟩
   rintro F135 ⟨y112,rs113,rs116,rs119,rs122⟩ hF136 ⟨hy,fm114,fa115,fm117,fa118,fm120,fa121,fm123,fa124⟩
   let T3:=rs116.setIfInBounds (i43:Int).toNat (ToR.mk To.zero Sl.nil)
   subst hy
   obtain ⟨x137,h138,H⟩:=bs H
   have g139:=vat_some h138
   obtain ⟨⟨r140v,r140h1⟩,r140g,r140e,r140m,r140l⟩:=vmap_get fm117 g139.2.2
   obtain rfl:x137=r140v:=r140e.symm
   have r140q:ToR.rel w0 _ _ (ToR.mk x137 r140h1):=fa118 _ r140m
   have r140_f1:Rd w0 _ _ _ _:=r140q
   refine lr (Ev.indexAddr (off':=10+(i43:Int).toNat * 2) rfl rfl U42 Z41 g139.1 g139.2.1 rfl) ?_
   obtain ⟨p141,h142,H⟩:=Let_some H
   let T9:=({y112 with gone:=a0.gone,want:=p141,order:=a0.order,marks:=a0.marks,WayNotes:=a0.WayNotes}:RWld)
   have hm143:T3.toList.map ToR.v=p141.toList:=(vmap_set fm117 _ _).trans (congrArg Vector.toList h142)
   have ha144:All ToR.rel w0 F135 M T3.toList:=vAll_set (All.monoTo fa118 fl rl) (Rd.nil)
   refine lst 4 rfl rfl rfl Z41 (vs:=enc (ToR.mk To.zero Sl.nil)) rfl el (Enc.one _) (cs':=enc (RWldR.mk T9 (some qa0x2) rs113 T3 rs119 rs122 sa0x7 sa0x8 sa0x9)) ((RWldR.put_want (l:=p141) (Put.vecN (s:=2) (y:=(ToR.mk To.zero Sl.nil)) rfl r140g phl)).off (by omega)) rfl<|Lst.nil<|At.in_normal<|At.then<|Cd.region<|lr (Ev.incr (by omega) rfl rfl)<|mv1 rfl<|Lst.nil<|af 5 rfl ?_
   exact At.meet (i43+1,k43,T9,rs113,T3,rs119,rs122) (ft (ft hF58 hF83) hF136) ⟨rfl,rfl,rfl,rfl,rfl,trivial⟩ rfl ⟨⟨hgo43 _ (sj H),by omega,fm114,(All.monoLR fa115 fl rl),hm143,(All.monoTo ha144 fl rl),fm120,(All.monoFrom fa121 fl rl),fm123,(All.monoTo fa124 fl rl)⟩,nls⟩
  have hc78:decide ((i78:Int) < (m73.length:Int))=true:=decide_eq_true (by omega)
  obtain ⟨c78,H,hgo78⟩:=rangeF_go H
  unfold partref_World_Change_B4 at H
  try dsimp only at H
  refine sr0<|lr (Ev.lss rfl rfl)<|nt0<|Cd.seq<|Cd.condT rfl hc78<|Cd.skip<|At.then<|Cd.seq<|Cd.block<|sr0 ?_
  obtain ⟨x84,h85,H⟩:=bs H
  have g86:=lat_some h85
  refine lr (Ev.indexS (α:=Saying) (xs:=m73) rfl rfl U37 Z62 rfl (by decide) (hq77.mono (ft hF58 hF83) (sc4 (sc2 hM))) g86.1 g86.2.1)<|lr (Ev.loadSA (α:=Saying) rfl (hq77.mono (ft hF58 hF83) (sc4 (sc2 hM))) I62 Z62 (ch:=enc x84) el (by decide) ((Get.elemN (s:=2) (x:=x84) rfl g86.2.2 gh0).off (by omega))) ?_
  refine Lst.alloc (cs:=enc Saying.zero) rfl rfl (by decide) Tryz.zeroValue62 rfl (fun b87=>?_)
  refine lst 0 rfl rfl rfl Z62 (vs:=enc x84) rfl el (Enc.one _) (cs':=enc x84) phl rfl<|nsr<|lr (Ev.fo 0 rfl U62 rfl Z3 rfl rfl)<|lr (Ev.load (i:=0) rfl rfl I3 (v:=iv x84.From) ((Saying.get_From gh0).off rfl))<|mv1 rfl<|lr (Ev.eql rfl rfl)<|nt0 ?_
  rcases ic2 H with ⟨hb89,H⟩|⟨hb89,H⟩
  ·refine Cd.condF rfl hb89<|Cd.skip<|At.in_normal<|At.then<|Cd.region<|lr (Ev.incr (by omega) rfl rfl)<|mv1 rfl<|Lst.nil<|At.less (sc1 rl) ?_
   exact At.meet (i78+1,k78,s79,l80) hF83 ⟨rfl,rfl,rfl,rfl,rfl,rfl,rfl,rfl,rfl,rfl,trivial⟩ rfl ⟨⟨hgo78 _ (sj H),by omega,(f81.mono fl rl)⟩,nls⟩
  refine Cd.condT rfl hb89<|Cd.region<|mv1 rfl ?_
  obtain ⟨m90,h91,H⟩:=bs H
  obtain ⟨g92,gl93⟩:=cutL_some h91
  try dsimp only at g92
  have hq94:Rd w0 F82 M T12 m90:=by rw [← gl93]; exact Rd.cut (by decide) f81 (by omega) (by omega)
  refine lr (Ev.cut (α:=Str) (xs:=l80) (i:=(1:Int)) (j:=(l80.length:Int)) rfl rfl rfl U43 Z9 rfl (by decide) (f81.mono fl (sc4 (sc2 (sc1 hM)))) g92.1 g92.2.1 g92.2.2)<|as1 rfl<|Lst.nil<|At.in_normal<|At.then<|Cd.region<|lr (Ev.incr (by omega) rfl rfl)<|mv1 rfl<|Lst.nil<|At.less (sc1 rl) ?_
  exact At.meet (i78+1,k78,T12,m90) hF83 ⟨rfl,rfl,rfl,rfl,rfl,rfl,rfl,rfl,rfl,rfl,trivial⟩ rfl ⟨⟨hgo78 _ (sj H),by omega,(hq94.mono fl rl)⟩,nls⟩
 have hc7:decide ((i7:Int) < a0.n)=true:=decide_eq_true (by omega)
 obtain ⟨c7,H,hgo7⟩:=rangeF_go H
 unfold partref_World_Change_B0 at H
 try dsimp only at H
 refine sr0<|lr (Ev.lss rfl rfl)<|nt0<|Cd.seq<|Cd.condT rfl hc7<|Cd.skip<|At.then<|Cd.seq<|Cd.block<|sr0<|mv1 rfl ?_
 refine as1 rfl<|nsr<|mv1 rfl<|mv1 rfl ?_
 obtain ⟨r19,h20,H⟩:=bs H
 refine cl1 rfl (vs:=[pv ba0 0,iv (i7:Int)]) ⟨rfl,rfl,trivial⟩ Tryz.call75 (partref_World_Here_sim h20 w0 _ M _ hM ma0x3 (All.monoLR na0x3 (ft hF9 hF17) rl) ma0x4 (All.monoTo na0x4 (ft hF9 hF17) rl) ma0x5 (All.monoFrom na0x5 (ft hF9 hF17) rl) ma0x6 (All.monoTo na0x6 (ft hF9 hF17) rl))<|lr (Ev.not rfl)<|nt0 ?_
 rcases ic H with ⟨hb23,H⟩|⟨hb23,H⟩
 ·refine Cd.condT rfl hb23<|Cd.region<|mv1 rfl<|mv1 rfl ?_
  obtain ⟨n24,h25,H⟩:=bs H
  refine lr (Ev.shlU8 (i:=(1:BitVec 8)) (m:=n24) rfl (congrArg some (congrArg (Value.int .i64) (cnt_some h25))))<|lr (Ev.orU8 (i:=y12) (j:=(1:BitVec 8) <<< n24) rfl rfl)<|as1 rfl<|Lst.nil<|At.in_normal<|At.then<|Cd.region<|lr (Ev.incr (by omega) rfl rfl)<|mv1 rfl<|Lst.nil ?_
  exact At.meet (i7+1,k7,y12 ||| ((1:BitVec 8) <<< n24),s13,l14) hF17 ⟨rfl,rfl,rfl,rfl,rfl,trivial⟩ rfl ⟨⟨hgo7 _ (sj H),by omega,(f15.mono fl rl)⟩,nls⟩
 refine Cd.condF rfl hb23<|sr0<|mv1 rfl<|mv1 rfl<|lr (Ev.nilCheck rfl)<|lr (Ev.fo 4 rfl U50 rfl Z38 rfl rfl) ?_
 obtain ⟨x27,h28,H⟩:=bs H
 have g29:=vat_some h28
 obtain ⟨⟨r30v,r30h⟩,r30g,r30e,r30m,r30l⟩:=vmap_get ma0x3 g29.2.2
 obtain rfl:x27=r30v:=r30e.symm
 have r30q:Rd w0 _ _ r30h x27:=na0x3 _ r30m
 refine lr (Ev.indexAddr (off':=4+(i7:Int).toNat * 1) rfl rfl U38 Z37 g29.1 g29.2.1 rfl)<|lr (Ev.load (i:=4) rfl rfl I37 (v:=Sl.v r30h) ((RWldR.get_Logs (p:=T5) (Get.vecN (s:=1) rfl r30g gh0)).off (by omega)))<|lr (Ev.lenS (α:=Saying) (xs:=x27) (by decide) rfl rfl U37 (r30q.mono (ft hF9 hF17) (sc4 (sc1 hM))))<|mv1 rfl<|lr (Ev.lenS (α:=Saying) (xs:=l14) (by decide) rfl rfl U37 (f15.mono fl (sc4 (sc1 hM))))<|lr (Ev.gtr rfl rfl)<|nt0 ?_
 rcases ic2 H with ⟨hb31,H⟩|⟨hb31,H⟩
 ·refine Cd.condF rfl hb31<|Cd.skip<|At.in_normal<|At.then<|Cd.region<|lr (Ev.incr (by omega) rfl rfl)<|mv1 rfl<|Lst.nil ?_
  exact At.meet (i7+1,k7,y12,s13,l14) hF17 ⟨rfl,rfl,rfl,rfl,rfl,trivial⟩ rfl ⟨⟨hgo7 _ (sj H),by omega,(f15.mono fl rl)⟩,nls⟩
 refine Cd.condT rfl hb31<|Cd.region<|mv1 rfl<|mv1 rfl<|lr (Ev.nilCheck rfl)<|lr (Ev.fo 4 rfl U50 rfl Z38 rfl rfl) ?_
 obtain ⟨x32,h33,H⟩:=bs H
 have g34:=vat_some h33
 obtain ⟨⟨r35v,r35h⟩,r35g,r35e,r35m,r35l⟩:=vmap_get ma0x3 g34.2.2
 obtain rfl:x32=r35v:=r35e.symm
 have r35q:Rd w0 _ _ r35h x32:=na0x3 _ r35m
 refine lr (Ev.indexAddr (off':=4+(i7:Int).toNat * 1) rfl rfl U38 Z37 g34.1 g34.2.1 rfl)<|lr (Ev.load (i:=4) rfl rfl I37 (v:=Sl.v r35h) ((RWldR.get_Logs (p:=T5) (Get.vecN (s:=1) rfl r35g gh0)).off (by omega)))<|as1 rfl<|Lst.nil<|At.in_normal<|At.then<|Cd.region<|lr (Ev.incr (by omega) rfl rfl)<|mv1 rfl<|Lst.nil ?_
 exact At.meet (i7+1,k7,y12,r35h,x32) hF17 ⟨rfl,rfl,rfl,rfl,rfl,trivial⟩ rfl ⟨⟨hgo7 _ (sj H),by omega,(r35q.mono (ft hF9 hF17) rl)⟩,nls⟩
theorem partref_World_Do_sim {fu:Nat} {a0:RWld} {a1:Deed} {ba0:Nat} {qa0x2:Nat} {ra0x3:Vector (LR Saying) 6} {ra0x4:Vector ToR 6} {ra0x5:Vector FromR 6} {ra0x6:Vector ToR 6} {sa0x7:Sl} {sa0x8:Sl} {sa0x9:Sl} {r:(List (Int×Int))×RWld×Int} (H:partref_World_Do fu a0 a1=some r) (w0:World) (F:Frz) (M L:List Item) (hM:M.Sublist L) (hT:Tab Tryz.prog w0) (ma0x3:ra0x3.toList.map LR.v=a0.Logs.toList) (na0x3:All LR.rel w0 F M ra0x3.toList) (ma0x4:ra0x4.toList.map ToR.v=a0.want.toList) (na0x4:All ToR.rel w0 F M ra0x4.toList) (ma0x5:ra0x5.toList.map FromR.v=a0.Late.toList) (na0x5:All FromR.rel w0 F M ra0x5.toList) (ma0x6:ra0x6.toList.map ToR.v=a0.in_.toList) (na0x6:All ToR.rel w0 F M ra0x6.toList):Ok Tryz.prog w0 12 [pv ba0 0,.agg (enc a1).toArray] F ((mii qa0x2 a0.gone)::(.own sa0x7 9 1 (encs a0.order))::(.own sa0x8 198 2 (encs a0.marks))::(.own sa0x9 132 12 (encs a0.WayNotes))::(.blk ba0 (enc (RWldR.mk a0 (some qa0x2) ra0x3 ra0x4 ra0x5 ra0x6 sa0x7 sa0x8 sa0x9)) 50)::L) (fun Fx L' v=>∃ (rs6:Vector (LR Saying) 6) (rs9:Vector ToR 6) (rs12:Vector FromR 6) (rs15:Vector ToR 6) (s18:Sl) (s20:Sl) (s22:Sl),v=iv r.2.2∧L'=(.own s18 9 1 (encs r.2.1.order))::(.own s20 198 2 (encs r.2.1.marks))::(.own s22 132 12 (encs r.2.1.WayNotes))::(mii qa0x2 r.1)::(.blk ba0 (enc (RWldR.mk ({r.2.1 with gone:=r.1}:RWld) (some qa0x2) rs6 rs9 rs12 rs15 s18 s20 s22)) 50)::L∧rs6.toList.map LR.v=r.2.1.Logs.toList∧All LR.rel w0 Fx M rs6.toList∧rs9.toList.map ToR.v=r.2.1.want.toList∧All ToR.rel w0 Fx M rs9.toList∧rs12.toList.map FromR.v=r.2.1.Late.toList∧All FromR.rel w0 Fx M rs12.toList∧rs15.toList.map ToR.v=r.2.1.in_.toList∧All ToR.rel w0 Fx M rs15.toList):=by
 unfold partref_World_Do at H
 refine Ok.enter (m:=2) (n:=39) Tryz.func12 rfl rfl rfl (by decide)<|Cd.env (e':=[(0,pv ba0 0),(1,.agg (enc a1).toArray)]) rfl<|sr0 ?_
 refine Lst.box rfl rfl (by decide) rfl (cs:=enc a1) rfl (fun b6=>?_)
 refine as1 rfl<|nt0<|Cd.seq<|sr0<|lr (Ev.fo 0 rfl U30 rfl Z3 rfl rfl)<|lr (Ev.load (i:=0) rfl rfl I3 (v:=iv a1.Kind) ((Deed.get_Kind gh0).off rfl))<|nt0<|Cd.block<|sr0<|lr (Ev.eql rfl rfl)<|as1 rfl ?_
 refine nt0 ?_
 rcases ic H with ⟨hb8,H⟩|⟨hb8,H⟩
 ·refine Cd.condT rfl hb8<|sr0<|mv1 rfl<|lr (Ev.fo 1 rfl U30 rfl Z3 rfl rfl)<|lr (Ev.load (i:=0) rfl rfl I3 (v:=iv a1.Who) ((Deed.get_Who gh0).off rfl))<|lr (Ev.fo 3 rfl U30 rfl Z9 rfl rfl)<|lr (Ev.load (i:=0) rfl rfl I9 (v:=Str.v a1.Text) ((Deed.get_Text gh0).off rfl)) ?_
  obtain ⟨r9,h10,H⟩:=bs H
  refine lf 5 rfl<|lf 5 rfl<|lf 5 rfl<|lf 5 rfl<|lf 5 rfl ?_
  refine cl rfl (vs:=[pv ba0 0,iv a1.Who,Str.v a1.Text]) ⟨rfl,rfl,rfl,trivial⟩ Tryz.call38 (partref_World_Say_sim h10 w0 _ M _ (sc1 hM) ma0x3 (All.monoLR na0x3 fl rl) ma0x4 (All.monoTo na0x4 fl rl) ma0x5 (All.monoFrom na0x5 fl rl) ma0x6 (All.monoTo na0x6 fl rl)) (fun F24 L' v hF25 hv=>?_)
  obtain ⟨s11,rs12,rs15,rs18,rs21,rfl,rfl,fm13,fa14,fm16,fa17,fm19,fa20,fm22,fa23⟩:=hv
  refine as1 rfl<|nt0 ?_
  obtain rfl:=si H
  refine Cd.ret<|At.in_ret<|At.then_ret<|af 3 rfl<|af 3 rfl<|af 3 rfl ?_
  exact At.ret1 rfl (Res.tmp rfl) hF25 (sk1 (sk4 (sc1 rl))) ⟨rs12,rs15,rs18,rs21,sa0x7,sa0x8,s11,rfl,rfl,fm13,(All.monoLR fa14 fl rl),fm16,(All.monoTo fa17 fl rl),fm19,(All.monoFrom fa20 fl rl),fm22,(All.monoTo fa23 fl rl)⟩
 refine Cd.condF rfl hb8<|sr0<|lr (Ev.eql rfl rfl)<|as1 rfl<|nt0 ?_
 rcases ic H with ⟨hb26,H⟩|⟨hb26,H⟩
 ·refine Cd.condT rfl hb26<|sr0<|mv1 rfl<|lr (Ev.fo 1 rfl U30 rfl Z3 rfl rfl)<|lr (Ev.load (i:=0) rfl rfl I3 (v:=iv a1.Who) ((Deed.get_Who gh0).off rfl)) ?_
  obtain ⟨r27,h28,H⟩:=bs H
  refine lf 5 rfl<|lf 5 rfl<|lf 5 rfl<|lf 5 rfl<|lf 5 rfl ?_
  refine cl rfl (vs:=[pv ba0 0,iv a1.Who]) ⟨rfl,rfl,trivial⟩ Tryz.call39 (partref_World_Again_sim h28 w0 _ M _ (sc1 hM) ma0x3 (All.monoLR na0x3 fl rl) ma0x4 (All.monoTo na0x4 fl rl) ma0x5 (All.monoFrom na0x5 fl rl) ma0x6 (All.monoTo na0x6 fl rl)) (fun F42 L' v hF43 hv=>?_)
  obtain ⟨s29,rs30,rs33,rs36,rs39,rfl,rfl,fm31,fa32,fm34,fa35,fm37,fa38,fm40,fa41⟩:=hv
  refine as1 rfl<|nt0 ?_
  obtain rfl:=si H
  refine Cd.ret<|At.in_ret<|At.then_ret<|af 3 rfl<|af 3 rfl<|af 3 rfl ?_
  exact At.ret1 rfl (Res.tmp rfl) hF43 (sk1 (sk4 (sc1 rl))) ⟨rs30,rs33,rs36,rs39,sa0x7,sa0x8,s29,rfl,rfl,fm31,(All.monoLR fa32 fl rl),fm34,(All.monoTo fa35 fl rl),fm37,(All.monoFrom fa38 fl rl),fm40,(All.monoTo fa41 fl rl)⟩
 refine Cd.condF rfl hb26<|sr0<|lr (Ev.eql rfl rfl)<|as1 rfl<|nt0 ?_
 rcases ic H with ⟨hb44,H⟩|⟨hb44,H⟩
 ·refine Cd.condT rfl hb44<|sr0<|mv1 rfl<|lr (Ev.fo 1 rfl U30 rfl Z3 rfl rfl)<|lr (Ev.load (i:=0) rfl rfl I3 (v:=iv a1.Who) ((Deed.get_Who gh0).off rfl))<|lr (Ev.fo 2 rfl U30 rfl Z3 rfl rfl)<|lr (Ev.load (i:=0) rfl rfl I3 (v:=iv a1.How) ((Deed.get_How gh0).off rfl)) ?_
  obtain ⟨r45,h46,H⟩:=bs H
  refine lf 5 rfl<|lf 5 rfl<|lf 5 rfl<|lf 5 rfl<|lf 5 rfl ?_
  refine cl rfl (vs:=[pv ba0 0,iv a1.Who,iv a1.How]) ⟨rfl,rfl,rfl,trivial⟩ Tryz.call40 (partref_World_Move_sim h46 w0 _ M _ (sc1 hM) hT ma0x3 (All.monoLR na0x3 fl rl) ma0x4 (All.monoTo na0x4 fl rl) ma0x5 (All.monoFrom na0x5 fl rl) ma0x6 (All.monoTo na0x6 fl rl)) (fun F63 L' v hF64 hv=>?_)
  obtain ⟨s47,s48,rs49,rs52,rs55,rs58,s61,rfl,rfl,fm50,fa51,fm53,fa54,fm56,fa57,fm59,fa60⟩:=hv
  refine as1 rfl<|nt0 ?_
  obtain rfl:=si H
  refine Cd.ret<|At.in_ret<|At.then_ret<|af 3 rfl<|af 3 rfl ?_
  exact At.ret1 rfl (Res.tmp rfl) hF64 (sk1 (sk4 (sc1 rl))) ⟨rs49,rs52,rs55,rs58,s47,s48,s61,rfl,rfl,fm50,(All.monoLR fa51 fl rl),fm53,(All.monoTo fa54 fl rl),fm56,(All.monoFrom fa57 fl rl),fm59,(All.monoTo fa60 fl rl)⟩
 refine Cd.condF rfl hb44<|sr0<|lr (Ev.eql rfl rfl)<|as1 rfl<|nt0 ?_
 rcases ic H with ⟨hb65,H⟩|⟨hb65,H⟩
 ·refine Cd.condT rfl hb65<|sr0<|mv1 rfl<|lr (Ev.fo 1 rfl U30 rfl Z3 rfl rfl)<|lr (Ev.load (i:=0) rfl rfl I3 (v:=iv a1.Who) ((Deed.get_Who gh0).off rfl)) ?_
  obtain ⟨r66,h67,H⟩:=bs H
  refine lf 5 rfl<|lf 5 rfl<|lf 5 rfl<|lf 5 rfl<|lf 5 rfl ?_
  refine cl rfl (vs:=[pv ba0 0,iv a1.Who]) ⟨rfl,rfl,trivial⟩ Tryz.call41 (partref_World_Fall_sim h67 w0 _ M _ (sc1 hM) ma0x3 (All.monoLR na0x3 fl rl) ma0x4 (All.monoTo na0x4 fl rl) ma0x5 (All.monoFrom na0x5 fl rl) ma0x6 (All.monoTo na0x6 fl rl)) (fun F80 L' v hF81 hv=>?_)
  obtain ⟨rs68,rs71,rs74,rs77,rfl,rfl,fm69,fa70,fm72,fa73,fm75,fa76,fm78,fa79⟩:=hv
  refine as1 rfl<|nt0 ?_
  obtain rfl:=si H
  refine Cd.ret<|At.in_ret<|At.then_ret<|af 3 rfl<|af 3 rfl<|af 3 rfl ?_
  exact At.ret1 rfl (Res.tmp rfl) hF81 (sk1 (sk4 (sc1 rl))) ⟨rs68,rs71,rs74,rs77,sa0x7,sa0x8,sa0x9,rfl,rfl,fm69,(All.monoLR fa70 fl rl),fm72,(All.monoTo fa73 fl rl),fm75,(All.monoFrom fa76 fl rl),fm78,(All.monoTo fa79 fl rl)⟩
 refine Cd.condF rfl hb65<|sr0<|lr (Ev.eql rfl rfl)<|as1 rfl<|nt0 ?_
 rcases ic H with ⟨hb82,H⟩|⟨hb82,H⟩
 ·refine Cd.condT rfl hb82<|sr0<|mv1 rfl ?_
  obtain ⟨r83,h84,H⟩:=bs H
  refine lf 5 rfl<|lf 5 rfl<|lf 5 rfl<|lf 5 rfl<|lf 5 rfl ?_
  refine cl rfl (vs:=[pv ba0 0]) ⟨rfl,trivial⟩ Tryz.call42 (partref_World_Change_sim h84 w0 _ M _ (sc1 hM) ma0x3 (All.monoLR na0x3 fl rl) ma0x4 (All.monoTo na0x4 fl rl) ma0x5 (All.monoFrom na0x5 fl rl) ma0x6 (All.monoTo na0x6 fl rl)) (fun F101 L' v hF102 hv=>?_)
  obtain ⟨rs85,rs88,rs91,rs94,s97,s99,rfl,rfl,fm86,fa87,fm89,fa90,fm92,fa93,fm95,fa96⟩:=hv
  refine as1 rfl<|nt0 ?_
  obtain rfl:=si H
  refine Cd.ret<|At.in_ret<|At.then_ret<|af 3 rfl<|af 2 rfl<|af 2 rfl ?_
  exact At.ret1 rfl (Res.tmp rfl) hF102 (sk1 (sk4 (sc1 rl))) ⟨rs85,rs88,rs91,rs94,s97,s99,sa0x9,rfl,rfl,fm86,(All.monoLR fa87 fl rl),fm89,(All.monoTo fa90 fl rl),fm92,(All.monoFrom fa93 fl rl),fm95,(All.monoTo fa96 fl rl)⟩
 refine Cd.condF rfl hb82<|Cd.skip<|At.in_normal<|At.then<|sr0<|as1 rfl<|nt0 ?_
 obtain rfl:=si H
 refine Cd.ret<|af 4 rfl<|af 4 rfl<|af 4 rfl ?_
 exact At.ret1 rfl (Res.tmp rfl) fl (sk1 (sk2 (sc1 rl))) ⟨ra0x3,ra0x4,ra0x5,ra0x6,sa0x7,sa0x8,sa0x9,rfl,rfl,ma0x3,(All.monoLR na0x3 fl rl),ma0x4,(All.monoTo na0x4 fl rl),ma0x5,(All.monoFrom na0x5 fl rl),ma0x6,(All.monoTo na0x6 fl rl)⟩
theorem world_World_View_sim {a0:Wld} {ba0:Nat} {sa0x1:Sl} {ra0x1:List ProcessR} {sa0x2:Sl} {sa0x3:Sl} {r:View} (H:world_World_View a0=some r) (w0:World) (F:Frz) (M L:List Item) (hM:M.Sublist L) (ma0x1:ra0x1.map ProcessR.v=a0.all) (na0x1:All ProcessR.frel w0 F [] ra0x1):Ok Tryz.prog w0 13 [pv ba0 0] F ((.rows (α:=Saying) 62 (List.map ProcessR.row ra0x1))::(.own sa0x1 100 8 (encs ra0x1))::(.own sa0x2 9 1 (encs a0.ordered))::(.own sa0x3 9 1 (encs a0.way))::(.blk ba0 (enc (WldR.mk a0 sa0x1 sa0x2 sa0x3)) 95)::L) (Is (.agg (enc r).toArray) ((.rows (α:=Saying) 62 (List.map ProcessR.row ra0x1))::(.own sa0x1 100 8 (encs ra0x1))::(.own sa0x2 9 1 (encs a0.ordered))::(.own sa0x3 9 1 (encs a0.way))::(.blk ba0 (enc (WldR.mk a0 sa0x1 sa0x2 sa0x3)) 95)::L)):=by
 unfold world_World_View at H
 refine Ok.enter (m:=1) (n:=7) Tryz.func13 rfl rfl rfl (by decide)<|Cd.env (e':=[(0,pv ba0 0)]) rfl<|sr0 ?_
 refine Lst.alloc (cs:=enc View.zero) rfl rfl (by decide) Tryz.zeroValue34 rfl (fun b6=>?_)
 refine nsr<|mv1 rfl<|lr (Ev.nilCheck rfl)<|lr (Ev.fo 0 rfl U95 rfl Z34 rfl rfl)<|lr (Ev.loadA (i:=5) rfl rfl I34 Z34 (ch:=enc a0.view) el ((WldR.get_view gh0).off rfl))<|lst 0 rfl rfl rfl Z34 (vs:=enc a0.view) rfl el (Enc.one _) (cs':=enc a0.view) phl rfl<|nt0 ?_
 obtain rfl:=si H
 refine Cd.ret ?_
 exact At.ret1 rfl (Res.cellA (i:=0) rfl rfl I34 Z34 el) fl (sc1 rl) ⟨rfl,rfl⟩
theorem world_World_Way_sim {a0:Wld} {ba0:Nat} {sa0x1:Sl} {ra0x1:List ProcessR} {sa0x2:Sl} {sa0x3:Sl} {r:Int} (H:world_World_Way a0=some r) (w0:World) (F:Frz) (M L:List Item) (hM:M.Sublist L) (ma0x1:ra0x1.map ProcessR.v=a0.all) (na0x1:All ProcessR.frel w0 F [] ra0x1):Ok Tryz.prog w0 14 [pv ba0 0] F ((.rows (α:=Saying) 62 (List.map ProcessR.row ra0x1))::(.own sa0x1 100 8 (encs ra0x1))::(.own sa0x2 9 1 (encs a0.ordered))::(.own sa0x3 9 1 (encs a0.way))::(.blk ba0 (enc (WldR.mk a0 sa0x1 sa0x2 sa0x3)) 95)::L) (Is (iv r) ((.rows (α:=Saying) 62 (List.map ProcessR.row ra0x1))::(.own sa0x1 100 8 (encs ra0x1))::(.own sa0x2 9 1 (encs a0.ordered))::(.own sa0x3 9 1 (encs a0.way))::(.blk ba0 (enc (WldR.mk a0 sa0x1 sa0x2 sa0x3)) 95)::L)):=by
 unfold world_World_Way at H
 refine Ok.enter (m:=1) (n:=8) Tryz.func14 rfl rfl rfl (by decide)<|Cd.env (e':=[(0,pv ba0 0)]) rfl<|sr0<|as1 rfl<|nsr<|mv1 rfl<|lr (Ev.nilCheck rfl)<|lr (Ev.fo 4 rfl U95 rfl Z43 rfl rfl)<|lr (Ev.load (i:=4) rfl rfl I43 (v:=Sl.v sa0x3) ((WldR.get_way gh0).off rfl))<|lr (Ev.lenS (α:=Str) (xs:=a0.way) (by decide) rfl rfl U43 (rdo 3 rfl rfl rfl))<|as1 rfl ?_
 refine nt0 ?_
 obtain rfl:=si H
 refine Cd.ret ?_
 exact At.ret1 rfl (Res.tmp rfl) fl rl ⟨rfl,rfl⟩
theorem world_World_Log_sim {a0:Wld} {a1:Int} {ba0:Nat} {sa0x1:Sl} {ra0x1:List ProcessR} {sa0x2:Sl} {sa0x3:Sl} {r:(List Saying)×Int} (H:world_World_Log a0 a1=some r) (w0:World) (F:Frz) (M L:List Item) (hM:M.Sublist L) (ma0x1:ra0x1.map ProcessR.v=a0.all) (na0x1:All ProcessR.frel w0 F [] ra0x1):Ok Tryz.prog w0 15 [pv ba0 0,iv a1] F ((.rows (α:=Saying) 62 (List.map ProcessR.row ra0x1))::(.own sa0x1 100 8 (encs ra0x1))::(.own sa0x2 9 1 (encs a0.ordered))::(.own sa0x3 9 1 (encs a0.way))::(.blk ba0 (enc (WldR.mk a0 sa0x1 sa0x2 sa0x3)) 95)::L) (fun _ L' v=>∃ (s6:Sl),v=.tuple #[Sl.v s6,iv r.2]∧L'=(.own s6 62 2 (encs r.1))::(.rows (α:=Saying) 62 (List.map ProcessR.row ra0x1))::(.own sa0x1 100 8 (encs ra0x1))::(.own sa0x2 9 1 (encs a0.ordered))::(.own sa0x3 9 1 (encs a0.way))::(.blk ba0 (enc (WldR.mk a0 sa0x1 sa0x2 sa0x3)) 95)::L):=by
 unfold world_World_Log at H
 refine Ok.enter (m:=2) (n:=22) Tryz.func15 rfl rfl rfl (by decide)<|Cd.env (e':=[(0,pv ba0 0),(1,iv a1)]) rfl<|sr0<|Lst.addNil 62 2<|as1 rfl<|as1 rfl<|nt0<|Cd.seq<|sr0<|mv1 rfl<|mv1 rfl ?_
 obtain ⟨r7,h8,H⟩:=bs H
 refine lf 5 rfl<|lf 5 rfl<|lf 5 rfl<|lf 5 rfl<|lf 5 rfl<|cl1 rfl (vs:=[pv ba0 0,iv a1]) ⟨rfl,rfl,trivial⟩ Tryz.call43 (world_World_known_sim h8 w0 _ M _ (sc1 hM) ma0x1 (All.monoProcessF na0x1 fl nsl))<|as1 rfl<|nsr<|mv1 rfl<|lr (Ev.neq rfl rfl)<|nt0 ?_
 rcases ic H with ⟨hb11,H⟩|⟨hb11,H⟩
 ·refine Cd.condT rfl hb11<|sr0<|mv1 rfl<|Lst.addNil 62 2<|as1 rfl<|as1 rfl<|nt0 ?_
  obtain rfl:=si H
  refine Cd.ret<|At.then_ret ?_
  exact At.ret2 rfl (Res.tmp rfl) (Res.tmp rfl) fl (sk2 (sk4 (sc1 rl))) ⟨Sl.nil,rfl,rfl⟩
 refine Cd.condF rfl hb11<|Cd.skip<|At.then<|sr0<|mv1 rfl<|lr (Ev.nilCheck rfl)<|lr (Ev.fo 2 rfl U95 rfl Z93 rfl rfl)<|lr (Ev.load (i:=4) rfl rfl I93 (v:=Sl.v sa0x1) ((WldR.get_all gh0).off rfl))<|mv1 rfl ?_
 obtain ⟨x13,h14,H⟩:=bs H
 have g15:=lat_some h14
 obtain ⟨⟨r16v,r16h1,⟨r16_2v,r16_2h1⟩,⟨r16_3v,r16_3h1⟩,⟨r16_4v,r16_4h1⟩⟩,r16g,r16e,r16m⟩:=map_get ma0x1 g15.2.2
 obtain rfl:x13=r16v:=r16e.symm
 have r16q:ProcessR.frel w0 _ _ (ProcessR.mk x13 r16h1 (FromR.mk r16_2v r16_2h1) (ToR.mk r16_3v r16_3h1) (ToR.mk r16_4v r16_4h1)):=na0x1 _ r16m
 obtain ⟨r16_i2,r16_i3,r16_i4⟩:=r16q
 obtain ⟨r16_2e,r16_2q⟩:=r16_i2
 obtain rfl:r16_2v=x13.from_:=r16_2e
 have r16_2_f1:Rd w0 _ _ _ _:=r16_2q
 obtain ⟨r16_3e,r16_3q⟩:=r16_i3
 obtain rfl:r16_3v=x13.to:=r16_3e
 have r16_3_f1:Rd w0 _ _ _ _:=r16_3q
 obtain ⟨r16_4e,r16_4q⟩:=r16_i4
 obtain rfl:r16_4v=x13.orders:=r16_4e
 have r16_4_f1:Rd w0 _ _ _ _:=r16_4q
 have r16wg:=map_at ProcessR.row r16g
 refine lr (Ev.indexS (α:=ProcessR) (xs:=ra0x1) rfl rfl U93 Z100 rfl (by decide) (rdo 1 rfl rfl rfl) g15.1 (by have:=map_len ma0x1; omega))<|lr (Ev.fieldS (α:=ProcessR) (f':=a1.toNat * 8+1) rfl (rdo 1 rfl rfl rfl) ((Get.elemN (s:=8) rfl r16g gh0).off (by omega)) rfl U100 rfl Z37 rfl rfl rfl)<|lr (Ev.loadS (α:=ProcessR) rfl (rdo 1 rfl rfl rfl) I37 (v:=Sl.v r16h1) ((Get.elemN (s:=8) rfl r16g (ProcessR.get_log gh0)).off (by omega))) ?_
 obtain ⟨r17,h18,H⟩:=bs H
 refine cl rfl (vs:=[Sl.v r16h1]) ⟨rfl,trivial⟩ Tryz.call44 (slices_Clone_api_Saying_api_Saying_sim h18 w0 _ _ _ rl (Rd.row (j:=0) rfl r16wg)) (fun F21 L' v hF22 hv=>?_)
 obtain ⟨s19,rfl,rfl⟩:=hv
 refine as1 rfl<|as1 rfl<|nt0 ?_
 obtain rfl:=si H
 refine Cd.ret ?_
 exact At.ret2 rfl (Res.tmp rfl) (Res.tmp rfl) hF22 (sk2 (sk4 (sc1 rl))) ⟨s19,rfl,rfl⟩
theorem world_World_Late_sim {a0:Wld} {a1:Int} {ba0:Nat} {sa0x1:Sl} {ra0x1:List ProcessR} {sa0x2:Sl} {sa0x3:Sl} {r:(List Str)×Int} (H:world_World_Late a0 a1=some r) (w0:World) (F:Frz) (M L:List Item) (hM:M.Sublist L) (ma0x1:ra0x1.map ProcessR.v=a0.all) (na0x1:All ProcessR.frel w0 F [] ra0x1):Ok Tryz.prog w0 16 [pv ba0 0,iv a1] F ((.rows (α:=Saying) 62 (List.map ProcessR.row ra0x1))::(.own sa0x1 100 8 (encs ra0x1))::(.own sa0x2 9 1 (encs a0.ordered))::(.own sa0x3 9 1 (encs a0.way))::(.blk ba0 (enc (WldR.mk a0 sa0x1 sa0x2 sa0x3)) 95)::L) (fun _ L' v=>∃ (s6:Sl),v=.tuple #[Sl.v s6,iv r.2]∧L'=(.own s6 9 1 (encs r.1))::(.rows (α:=Saying) 62 (List.map ProcessR.row ra0x1))::(.own sa0x1 100 8 (encs ra0x1))::(.own sa0x2 9 1 (encs a0.ordered))::(.own sa0x3 9 1 (encs a0.way))::(.blk ba0 (enc (WldR.mk a0 sa0x1 sa0x2 sa0x3)) 95)::L):=by
 unfold world_World_Late at H
 refine Ok.enter (m:=2) (n:=23) Tryz.func16 rfl rfl rfl (by decide)<|Cd.env (e':=[(0,pv ba0 0),(1,iv a1)]) rfl<|sr0<|Lst.addNil 9 1<|as1 rfl<|as1 rfl<|nt0<|Cd.seq<|sr0<|mv1 rfl<|mv1 rfl ?_
 obtain ⟨r7,h8,H⟩:=bs H
 refine lf 5 rfl<|lf 5 rfl<|lf 5 rfl<|lf 5 rfl<|lf 5 rfl<|cl1 rfl (vs:=[pv ba0 0,iv a1]) ⟨rfl,rfl,trivial⟩ Tryz.call43 (world_World_known_sim h8 w0 _ M _ (sc1 hM) ma0x1 (All.monoProcessF na0x1 fl nsl))<|as1 rfl<|nsr<|mv1 rfl<|lr (Ev.neq rfl rfl)<|nt0 ?_
 rcases ic H with ⟨hb11,H⟩|⟨hb11,H⟩
 ·refine Cd.condT rfl hb11<|sr0<|mv1 rfl<|Lst.addNil 9 1<|as1 rfl<|as1 rfl<|nt0 ?_
  obtain rfl:=si H
  refine Cd.ret<|At.then_ret ?_
  exact At.ret2 rfl (Res.tmp rfl) (Res.tmp rfl) fl (sk2 (sk4 (sc1 rl))) ⟨Sl.nil,rfl,rfl⟩
 refine Cd.condF rfl hb11<|Cd.skip<|At.then<|sr0<|mv1 rfl<|lr (Ev.nilCheck rfl)<|lr (Ev.fo 2 rfl U95 rfl Z93 rfl rfl)<|lr (Ev.load (i:=4) rfl rfl I93 (v:=Sl.v sa0x1) ((WldR.get_all gh0).off rfl))<|mv1 rfl ?_
 obtain ⟨x13,h14,H⟩:=bs H
 have g15:=lat_some h14
 obtain ⟨⟨r16v,r16h1,⟨r16_2v,r16_2h1⟩,⟨r16_3v,r16_3h1⟩,⟨r16_4v,r16_4h1⟩⟩,r16g,r16e,r16m⟩:=map_get ma0x1 g15.2.2
 obtain rfl:x13=r16v:=r16e.symm
 have r16q:ProcessR.frel w0 _ _ (ProcessR.mk x13 r16h1 (FromR.mk r16_2v r16_2h1) (ToR.mk r16_3v r16_3h1) (ToR.mk r16_4v r16_4h1)):=na0x1 _ r16m
 obtain ⟨r16_i2,r16_i3,r16_i4⟩:=r16q
 obtain ⟨r16_2e,r16_2q⟩:=r16_i2
 obtain rfl:r16_2v=x13.from_:=r16_2e
 have r16_2_f1:Rd w0 _ _ _ _:=r16_2q
 obtain ⟨r16_3e,r16_3q⟩:=r16_i3
 obtain rfl:r16_3v=x13.to:=r16_3e
 have r16_3_f1:Rd w0 _ _ _ _:=r16_3q
 obtain ⟨r16_4e,r16_4q⟩:=r16_i4
 obtain rfl:r16_4v=x13.orders:=r16_4e
 have r16_4_f1:Rd w0 _ _ _ _:=r16_4q
 have r16wg:=map_at ProcessR.row r16g
 refine lr (Ev.indexS (α:=ProcessR) (xs:=ra0x1) rfl rfl U93 Z100 rfl (by decide) (rdo 1 rfl rfl rfl) g15.1 (by have:=map_len ma0x1; omega))<|lr (Ev.fieldS (α:=ProcessR) (f':=a1.toNat * 8+2) rfl (rdo 1 rfl rfl rfl) ((Get.elemN (s:=8) rfl r16g gh0).off (by omega)) rfl U100 rfl Z45 rfl rfl rfl)<|lr (Ev.fieldS (α:=ProcessR) (f':=a1.toNat * 8+2+1) rfl (rdo 1 rfl rfl rfl) ((Get.elemN (s:=8) rfl r16g (ProcessR.get_from_ gh0)).off (by omega)) rfl U45 rfl Z43 rfl rfl rfl)<|lr (Ev.loadS (α:=ProcessR) rfl (rdo 1 rfl rfl rfl) I43 (v:=Sl.v r16_2h1) ((Get.elemN (s:=8) rfl r16g (ProcessR.get_from_ (FromR.get_Late gh0))).off (by omega))) ?_
 obtain ⟨r17,h18,H⟩:=bs H
 refine cl rfl (vs:=[Sl.v r16_2h1]) ⟨rfl,trivial⟩ Tryz.call45 (slices_Clone_string_string_sim h18 w0 _ M _ (sc4 (sc2 hM)) (r16_2_f1.mono fl nsl)) (fun F21 L' v hF22 hv=>?_)
 obtain ⟨s19,rfl,rfl⟩:=hv
 refine as1 rfl<|as1 rfl<|nt0 ?_
 obtain rfl:=si H
 refine Cd.ret ?_
 exact At.ret2 rfl (Res.tmp rfl) (Res.tmp rfl) hF22 (sk2 (sk4 (sc1 rl))) ⟨s19,rfl,rfl⟩
theorem strings_Index_sim {a0:Str} {a1:Str} {r:Int} (H:strings_Index a0 a1=some r) (w0:World) (F:Frz) (M L:List Item) (hM:M.Sublist L):Ok Tryz.prog w0 142 [Str.v a0,Str.v a1] F (L) (Is (iv r) (L)):=by
 unfold strings_Index at H
 refine Ok.enter (m:=2) (n:=8) Tryz.func142 rfl rfl rfl (by decide)<|Cd.env (e':=[(0,Str.v a0),(1,Str.v a1)]) rfl<|sr0<|as1 rfl<|nsr<|mv1 rfl<|mv1 rfl ?_
 obtain ⟨r1,h2,H⟩:=bs H
 refine cl1 rfl (vs:=[Str.v a0,Str.v a1]) ⟨rfl,rfl,trivial⟩ Tryz.call189 (internal_stringslite_Index_sim h2 w0 _ M _ hM)<|as1 rfl<|nt0 ?_
 obtain rfl:=si H
 refine Cd.ret ?_
 exact At.ret1 rfl (Res.tmp rfl) fl rl ⟨rfl,rfl⟩
theorem strings_Count_sim {fu:Nat} {a0:Str} {a1:Str} {r:Int} (H:strings_Count fu a0 a1=some r) (w0:World) (F:Frz) (M L:List Item) (hM:M.Sublist L):Ok Tryz.prog w0 141 [Str.v a0,Str.v a1] F (L) (Is (iv r) (L)):=by
 unfold strings_Count at H
 refine Ok.enter (m:=2) (n:=34) Tryz.func141 rfl rfl rfl (by decide)<|Cd.env (e':=[(0,Str.v a0),(1,Str.v a1)]) rfl<|sr0<|as1 rfl<|nt0<|Cd.seq<|sr0<|mv1 rfl<|lr (Ev.lenStr rfl rfl U9)<|lr (Ev.eql rfl rfl)<|nt0 ?_
 rcases ic H with ⟨hb1,H⟩|⟨hb1,H⟩
 ·cases H
 refine Cd.condF rfl hb1<|Cd.skip<|At.then<|Cd.seq<|sr0<|mv1 rfl<|lr (Ev.lenStr rfl rfl U9)<|lr (Ev.eql rfl rfl)<|nt0 ?_
 rcases ic H with ⟨hb2,H⟩|⟨hb2,H⟩
 ·refine Cd.condT rfl hb2<|sr0<|mv1 rfl<|mv1 rfl ?_
  obtain ⟨x3,h4,H⟩:=bs H
  refine lr (Ev.indexStr rfl rfl U9 h4)<|lr (Ev.cntByte (s:=a0) (c:=x3.toBitVec) rfl rfl Tryz.func188 (by kernel_rfl) (by kernel_rfl) (by kernel_rfl) (by kernel_rfl))<|as1 rfl<|nt0 ?_
  obtain rfl:=si H
  refine Cd.ret<|At.then_ret ?_
  exact At.ret1 rfl (Res.tmp rfl) fl rl ⟨rfl,rfl⟩
 refine Cd.condF rfl hb2<|Cd.skip<|At.then<|sr0<|as1 rfl<|nt0<|Cd.block ?_
 obtain ⟨ol5,H,HKl5⟩:=andThen_some H
 refine Cd.loop (σ:=Nat×Str×Int) (fun (k5,y6,y7)=>[(0,Str.v y6),(1,Str.v a1),(5,iv y7)]) (fun (k5,y6,y7)=>L) (fun _=>(fun (k5,y6,y7)=>whileM (strings_Count_B0 a1) k5 (y6,y7)=some ol5)) (fun (k5,y6,y7)=>k5) (fu,a0,(0:Int)) ⟨rfl,rfl,rfl,trivial⟩ rfl H ?_
 rintro F8 ⟨k5,y6,y7⟩ hF9 H
 rcases k5 with _ | k5
 ·cases H
 obtain ⟨c5,H,hgo5,hbrk5,hret5⟩:=whileM_go H
 unfold strings_Count_B0 at H
 try dsimp only at H
 refine Cd.block<|sr0<|mv1 rfl<|mv1 rfl ?_
 obtain ⟨r10,h11,H⟩:=bs H
 refine cl1 rfl (vs:=[Str.v y6,Str.v a1]) ⟨rfl,rfl,trivial⟩ Tryz.call142 (strings_Index_sim h11 w0 _ M _ hM)<|as1 rfl<|nt0<|Cd.seq<|sr0<|mv1 rfl<|lr (Ev.eql rfl rfl)<|nt0 ?_
 rcases ic H with ⟨hb14,H⟩|⟨hb14,H⟩
 ·refine Cd.condT rfl hb14<|sr0<|mv1 rfl<|as1 rfl<|nt0 ?_
  have H:=hret5 _ (sj H)
  subst H
  replace H:=HKl5
  obtain rfl:=si H
  refine Cd.ret<|At.then_ret<|At.in_ret<|At.then_ret<|At.in_ret ?_
  exact At.ret1 rfl (Res.tmp rfl) hF9 rl ⟨rfl,rfl⟩
 refine Cd.condF rfl hb14<|Cd.skip<|At.then<|sr0<|mv1 rfl<|lr (Ev.add rfl rfl)<|as1 rfl<|nt0<|Cd.region<|mv1 rfl<|mv1 rfl ?_
 refine mv1 rfl<|lr (Ev.lenStr rfl rfl U9)<|lr (Ev.add rfl rfl) ?_
 obtain ⟨m15,h16,H⟩:=bs H
 refine lr (Ev.sliceStrFrom rfl rfl  U9 h16)<|as1 rfl<|Lst.nil<|At.in_normal ?_
 exact At.meet (k5,m15,w64 (y7+(1:Int))) hF9 ⟨rfl,rfl,rfl,trivial⟩ rfl ⟨hgo5 _ (sj H),nls⟩
theorem strings_genSplit_sim {fu:Nat} {a0:Str} {a1:Str} {a2:Int} {a3:Int} {r:(List Str)} (H:strings_genSplit fu a0 a1 a2 a3=some r) (w0:World) (F:Frz) (M L:List Item) (hM:M.Sublist L):Ok Tryz.prog w0 99 [Str.v a0,Str.v a1,iv a2,iv a3] F (L) (fun _ L' v=>∃ (s1:Sl),v=Sl.v s1∧L'=(.own s1 9 1 (encs r))::L):=by
 let T0:Item:=.own Sl.nil 9 1 (encs ([]:List Str))
 unfold strings_genSplit at H
 refine Ok.enter (m:=4) (n:=66) Tryz.func99 rfl rfl rfl (by decide)<|Cd.env (e':=[(0,Str.v a0),(1,Str.v a1),(2,iv a2),(3,iv a3)]) rfl<|sr0<|Lst.addNil 9 1<|as1 rfl<|nt0<|Cd.seq<|sr0<|mv1 rfl<|lr (Ev.eql rfl rfl)<|nt0 ?_
 rcases ic H with ⟨hb2,H⟩|⟨hb2,H⟩
 ·refine Cd.condT rfl hb2<|sr0<|Lst.addNil 9 1<|as1 rfl<|nt0 ?_
  obtain rfl:=si H
  refine Cd.ret<|At.then_ret ?_
  exact At.ret1 rfl (Res.tmp rfl) fl (sk1 (sc1 rl)) ⟨Sl.nil,rfl,rfl⟩
 refine Cd.condF rfl hb2<|Cd.skip<|At.then<|Cd.seq<|sr0<|mv1 rfl<|lr (Ev.eqlStr (s:=a1) (m:=([]:Str)) rfl rfl)<|nt0 ?_
 rcases ic H with ⟨hb4,H⟩|⟨hb4,H⟩
 ·cases H
 refine Cd.condF rfl hb4<|Cd.skip<|At.then ?_
 obtain ⟨o6,H,HKo6⟩:=bs H
 refine Cd.join (σ:=Int) (fun y5=>[(0,Str.v a0),(1,Str.v a1),(2,iv a2),(3,iv y5)]) (fun y5=>T0::L) (fun _ y5=>y5=o6) ?_ ?_
 ·refine sr0<|mv1 rfl<|lr (Ev.lss rfl rfl)<|nt0 ?_
  rcases ic2 H with ⟨hb7,H⟩|⟨hb7,H⟩
  ·refine Cd.condF rfl hb7<|Cd.skip ?_
   exact At.meet a3 fl ⟨rfl,rfl,rfl,rfl,trivial⟩ rfl (si H)
  refine Cd.condT rfl hb7<|Cd.region<|mv1 rfl<|mv1 rfl ?_
  obtain ⟨r8,h9,H⟩:=bs H
  refine cl1 rfl (vs:=[Str.v a0,Str.v a1]) ⟨rfl,rfl,trivial⟩ Tryz.call141 (strings_Count_sim h9 w0 _ M _ (sc1 hM))<|lr (Ev.add rfl rfl)<|as1 rfl<|Lst.nil ?_
  exact At.meet (w64 (r8+(1:Int))) fl ⟨rfl,rfl,rfl,rfl,trivial⟩ rfl (si H)
 rintro F12 y5 hF13 hy
 subst hy
 replace H:=HKo6
 refine sr0<|mv1 rfl<|mv1 rfl<|lr (Ev.lenStr rfl rfl U9)<|lr (Ev.add rfl rfl)<|lr (Ev.min2 rfl rfl)<|as1 rfl<|nsr<|mv1 rfl ?_
 obtain ⟨n14,h15,H⟩:=bs H
 have g16:=mkLen_some h15
 refine Lst.make (α:=Str) (z0:=([]:Str)) (k:=n14) rfl rfl (by decide) (congrArg some (congrArg (Value.int .i64) g16.1)) (congrArg some (congrArg (Value.int .i64) g16.1)) U43 Tryz.typeInfo9 rfl rfl rfl rfl rfl g16.2 rfl (fun s17=>?_)
 refine as1 rfl<|nsr<|mv1 rfl<|lr (Ev.sub rfl rfl)<|as1 rfl<|nsr<|as1 rfl<|nt0 ?_
 obtain ⟨o22,H,HKo22⟩:=bs H
 refine Cd.join (σ:=Str×Int×(List Str)) (fun (y19,y20,l21)=>[(0,Str.v y19),(9,Sl.v s17),(10,iv y20)]) (fun (y19,y20,l21)=>(.own s17 9 1 (encs l21))::T0::L) (fun _ (y19,y20,l21)=>(y19,y20,l21)=o22) ?_ ?_
 ·refine Cd.block ?_
  obtain ⟨ol23,H,HKl23⟩:=andThen_some H
  refine Cd.loop (σ:=Nat×Str×Int×(List Str)) (fun (k23,y24,y25,l26)=>[(0,Str.v y24),(1,Str.v a1),(2,iv a2),(3,iv (w64 ((min y5 (w64 ((a0.length:Int)+(1:Int)))) - (1:Int)))),(9,Sl.v s17),(10,iv y25)]) (fun (k23,y24,y25,l26)=>(.own s17 9 1 (encs l26))::T0::L) (fun _=>(fun (k23,y24,y25,l26)=>whileM (strings_genSplit_B0 a0 a1 a2 y5) k23 (y24,y25,l26)=some ol23)) (fun (k23,y24,y25,l26)=>k23) (fu,a0,(0:Int),(List.replicate n14 ([]:Str))) ⟨rfl,rfl,rfl,rfl,rfl,rfl,trivial⟩ rfl H ?_
  rintro F27 ⟨k23,y24,y25,l26⟩ hF28 H
  rcases k23 with _ | k23
  ·cases H
  obtain ⟨c23,H,hgo23,hbrk23,hret23⟩:=whileM_go H
  unfold strings_genSplit_B0 at H
  try dsimp only at H
  refine Cd.seq<|sr0<|mv1 rfl<|mv1 rfl<|lr (Ev.lss rfl rfl)<|nt0 ?_
  rcases ic2 H with ⟨hb29,H⟩|⟨hb29,H⟩
  ·refine Cd.condF rfl hb29<|Cd.exit<|At.then_exit<|At.then_exit<|At.in_exit ?_
   have H:=hbrk23 _ (sj H)
   subst H
   replace H:=HKl23
   exact At.meet (y24,y25,l26) hF28 ⟨rfl,rfl,rfl,trivial⟩ rfl (si H)
  refine Cd.condT rfl hb29<|Cd.skip<|At.then<|Cd.block<|sr0<|mv1 rfl<|mv1 rfl ?_
  obtain ⟨r30,h31,H⟩:=bs H
  refine cl1 rfl (vs:=[Str.v y24,Str.v a1]) ⟨rfl,rfl,trivial⟩ Tryz.call142 (strings_Index_sim h31 w0 _ M _ (sc2 hM))<|as1 rfl<|nt0<|Cd.seq<|sr0<|mv1 rfl<|lr (Ev.lss rfl rfl)<|nt0 ?_
  rcases ic H with ⟨hb34,H⟩|⟨hb34,H⟩
  ·refine Cd.condT rfl hb34<|Cd.exit<|At.then_exit<|At.in_other rfl<|At.then_exit<|At.in_exit ?_
   have H:=hbrk23 _ (sj H)
   subst H
   replace H:=HKl23
   exact At.meet (y24,y25,l26) hF28 ⟨rfl,rfl,rfl,trivial⟩ rfl (si H)
  refine Cd.condF rfl hb34<|Cd.skip<|At.then<|sr0<|mv1 rfl<|mv1 rfl<|mv1 rfl<|mv1 rfl<|mv1 rfl<|lr (Ev.add rfl rfl) ?_
  obtain ⟨m35,h36,H⟩:=bs H
  refine lr (Ev.sliceStrTo rfl rfl  U9 h36) ?_
  obtain ⟨x37,h38,H⟩:=bs H
  have g39:=lat_some h38
  refine lr (Ev.indexS (α:=Str) (xs:=l26) rfl rfl U43 Z9 rfl (by decide) (rdo 0 rfl rfl rfl) g39.1 g39.2.1) ?_
  obtain ⟨p40,h41,H⟩:=Let_some H
  refine Lst.storeS (i:=0) rfl rfl rfl rfl rfl Z9 (vs:=[Str.v m35]) rfl rfl (by decide) rfl (xs':=encs p40) (by (try dsimp +zetaDelta only); rw [← h41]; exact (Put.elemN (s:=1) (x:=x37) rfl g39.2.2 (Put.here (vs:=[Str.v m35]) rfl)).off (by omega)) (L':=(.own s17 9 1 (encs p40))::T0::L) rfl<|nsr<|mv1 rfl<|mv1 rfl<|mv1 rfl<|lr (Ev.lenStr rfl rfl U9)<|lr (Ev.add rfl rfl) ?_
  obtain ⟨m42,h43,H⟩:=bs H
  refine lr (Ev.sliceStrFrom rfl rfl  U9 h43)<|as1 rfl<|nt0<|Cd.region<|mv1 rfl<|lr (Ev.add rfl rfl)<|as1 rfl<|Lst.nil<|At.in_normal ?_
  exact At.meet (k23,m42,w64 (y25+(1:Int)),p40) hF28 ⟨rfl,rfl,rfl,rfl,rfl,rfl,trivial⟩ rfl ⟨hgo23 _ (sj H),nls⟩
 rintro F44 ⟨y19,y20,l21⟩ hF45 hy
 subst hy
 replace H:=HKo22
 refine sr0<|mv1 rfl<|mv1 rfl<|mv1 rfl ?_
 obtain ⟨x46,h47,H⟩:=bs H
 have g48:=lat_some h47
 refine lr (Ev.indexS (α:=Str) (xs:=l21) rfl rfl U43 Z9 rfl (by decide) (rdo 0 rfl rfl rfl) g48.1 g48.2.1) ?_
 obtain ⟨p49,h50,H⟩:=Let_some H
 refine Lst.storeS (i:=0) rfl rfl rfl rfl rfl Z9 (vs:=[Str.v y19]) rfl rfl (by decide) rfl (xs':=encs p49) (by (try dsimp +zetaDelta only); rw [← h50]; exact (Put.elemN (s:=1) (x:=x46) rfl g48.2.2 (Put.here (vs:=[Str.v y19]) rfl)).off (by omega)) (L':=(.own s17 9 1 (encs p49))::T0::L) rfl<|nsr<|mv1 rfl<|mv1 rfl<|lr (Ev.add rfl rfl) ?_
 obtain ⟨m51,h52,H⟩:=bs H
 obtain ⟨g53,gl54⟩:=cutL_some h52
 try dsimp only at g53
 refine lr (Ev.cut (α:=Str) (xs:=p49) (i:=0) (j:=w64 (y20+(1:Int))) rfl rfl rfl U43 Z9 rfl (by decide) (rdo 0 rfl rfl rfl) g53.1 g53.2.1 g53.2.2)<|Lst.cutOwn (i:=0) (α:=Str) (lo:=(0:Int).toNat) (hi:=(w64 (y20+(1:Int)):Int).toNat) rfl rfl rfl (by decide) (by omega) (by omega) (L':=(.own (s17.cut (0:Int).toNat (w64 (y20+(1:Int)):Int).toNat 1) 9 1 (encs m51))::T0::L) (by subst gl54; rfl)<|as1 rfl<|nt0 ?_
 obtain rfl:=si H
 refine Cd.ret ?_
 exact At.ret1 rfl (Res.tmp rfl) (ft hF13 hF45) (sk1 (sc1 rl)) ⟨(s17.cut (0:Int).toNat (w64 (y20+(1:Int)):Int).toNat 1),rfl,rfl⟩
theorem strings_Split_sim {fu:Nat} {a0:Str} {a1:Str} {r:(List Str)} (H:strings_Split fu a0 a1=some r) (w0:World) (F:Frz) (M L:List Item) (hM:M.Sublist L):Ok Tryz.prog w0 52 [Str.v a0,Str.v a1] F (L) (fun _ L' v=>∃ (s1:Sl),v=Sl.v s1∧L'=(.own s1 9 1 (encs r))::L):=by
 unfold strings_Split at H
 refine Ok.enter (m:=2) (n:=8) Tryz.func52 rfl rfl rfl (by decide)<|Cd.env (e':=[(0,Str.v a0),(1,Str.v a1)]) rfl<|sr0<|Lst.addNil 9 1<|as1 rfl<|nsr<|mv1 rfl<|mv1 rfl ?_
 obtain ⟨r2,h3,H⟩:=bs H
 refine cl rfl (vs:=[Str.v a0,Str.v a1,iv (0:Int),iv (-1:Int)]) ⟨rfl,rfl,rfl,rfl,trivial⟩ Tryz.call99 (strings_genSplit_sim h3 w0 _ M _ (sc1 hM)) (fun F6 L' v hF7 hv=>?_)
 obtain ⟨s4,rfl,rfl⟩:=hv
 refine as1 rfl<|nt0 ?_
 obtain rfl:=si H
 refine Cd.ret ?_
 exact At.ret1 rfl (Res.tmp rfl) hF7 (sk1 (sc1 rl)) ⟨s4,rfl,rfl⟩
theorem slices_Index_string_string_sim {a0:List Str} {a1:Str} {sa0:Sl} {r:Int} (H:slices_Index_string_string a0 a1=some r) (w0:World) (F:Frz) (M L:List Item) (hM:M.Sublist L) (pa0:Rd w0 F M sa0 a0):Ok Tryz.prog w0 121 [Sl.v sa0,Str.v a1] F (L) (Is (iv r) (L)):=by
 unfold slices_Index_string_string at H
 refine Ok.enter (m:=2) (n:=19) Tryz.func121 rfl rfl rfl (by decide)<|Cd.env (e':=[(0,Sl.v sa0),(1,Str.v a1)]) rfl<|sr0<|as1 rfl<|nt0<|Cd.seq<|sr0<|mv1 rfl<|lr (Ev.lenS (α:=Str) (xs:=a0) (by decide) rfl rfl U43 (pa0.mono fl hM))<|mv1 rfl<|nt0 ?_
 refine Cd.block ?_
 refine Cd.bound (Rd.le (α:=Str) (xs:=a0) (by decide) (pa0.mono fl hM)) (fun hN8=>?_)
 obtain ⟨ol1,H,HKl1⟩:=andThen_some H
 refine Cd.loop (σ:=Nat×Nat×Unit) (fun (i1,k1,_u)=>[(0,Sl.v sa0),(1,Str.v a1),(7,iv (a0.length:Int)),(8,iv (i1:Int))]) (fun (i1,k1,_u)=>L) (fun _=>(fun (i1,k1,_u)=>rangeM (slices_Index_string_string_B0 a0 a1) k1 i1 ()=some ol1∧i1+k1=a0.length)) (fun (i1,k1,_u)=>k1) (0,a0.length,()) ⟨rfl,rfl,rfl,rfl,trivial⟩ rfl ⟨H,by omega⟩ ?_
 rintro F2 ⟨i1,k1,_u⟩ hF3 ⟨H,hik1⟩
 rcases k1 with _ | k1
 ·have hc1:decide ((i1:Int) < (a0.length:Int))=false:=decide_eq_false (by omega)
  replace H:=rangeM_end H
  refine sr0<|lr (Ev.lss rfl rfl)<|nt0<|Cd.seq<|Cd.condF rfl hc1<|Cd.exit<|At.then_exit<|At.then_exit<|At.in_exit ?_
  subst H
  replace H:=HKl1
  refine At.then<|sr0<|as1 rfl<|nt0 ?_
  obtain rfl:=si H
  refine Cd.ret ?_
  exact At.ret1 rfl (Res.tmp rfl) hF3 rl ⟨rfl,rfl⟩
 have hc1:decide ((i1:Int) < (a0.length:Int))=true:=decide_eq_true (by omega)
 obtain ⟨c1,H,hgo1,hbrk1,hret1⟩:=rangeM_go H
 unfold slices_Index_string_string_B0 at H
 try dsimp only at H
 refine sr0<|lr (Ev.lss rfl rfl)<|nt0<|Cd.seq<|Cd.condT rfl hc1<|Cd.skip<|At.then<|Cd.seq<|Cd.block<|sr0<|mv1 rfl ?_
 refine as1 rfl<|nsr<|mv1 rfl<|mv1 rfl<|mv1 rfl ?_
 obtain ⟨x4,h5,H⟩:=bs H
 have g6:=lat_some h5
 refine lr (Ev.indexS (α:=Str) (xs:=a0) rfl rfl U43 Z9 rfl (by decide) (pa0.mono hF3 hM) g6.1 g6.2.1)<|lr (Ev.loadS (α:=Str) rfl (pa0.mono hF3 hM) I9 (v:=Str.v x4) ((Get.elemN (s:=1) (x:=x4) rfl g6.2.2 gh0).off (by omega)))<|lr (Ev.eqlStr (s:=a1) (m:=x4) rfl rfl)<|nt0 ?_
 rcases ic H with ⟨hb7,H⟩|⟨hb7,H⟩
 ·refine Cd.condT rfl hb7<|sr0<|mv1 rfl<|as1 rfl<|nt0 ?_
  have H:=hret1 _ (sj H)
  subst H
  replace H:=HKl1
  obtain rfl:=si H
  refine Cd.ret<|At.in_ret<|At.then_ret<|At.then_ret<|At.in_ret<|At.then_ret ?_
  exact At.ret1 rfl (Res.tmp rfl) hF3 rl ⟨rfl,rfl⟩
 refine Cd.condF rfl hb7<|Cd.skip<|At.in_normal<|At.then<|Cd.region<|lr (Ev.incr (by omega) rfl rfl)<|mv1 rfl<|Lst.nil ?_
 exact At.meet (i1+1,k1,()) hF3 ⟨rfl,rfl,rfl,rfl,trivial⟩ rfl ⟨⟨hgo1 _ (sj H),by omega⟩,nls⟩
theorem internal_stringslite_HasPrefix_sim {a0:Str} {a1:Str} {r:Bool} (H:internal_stringslite_HasPrefix a0 a1=some r) (w0:World) (F:Frz) (M L:List Item) (hM:M.Sublist L):Ok Tryz.prog w0 231 [Str.v a0,Str.v a1] F (L) (Is (.bool r) (L)):=by
 unfold internal_stringslite_HasPrefix at H
 refine Ok.enter (m:=2) (n:=18) Tryz.func231 rfl rfl rfl (by decide)<|Cd.env (e':=[(0,Str.v a0),(1,Str.v a1)]) rfl<|sr0<|as1 rfl<|nsr<|mv1 rfl<|lr (Ev.lenStr rfl rfl U9)<|mv1 rfl<|lr (Ev.lenStr rfl rfl U9)<|lr (Ev.geq rfl rfl)<|mv1 rfl ?_
 obtain ⟨o1,H,HKo1⟩:=bs H
 refine Lst.join (σ:=Bool) 7 (fun y2=>[(17,.bool y2)]) (fun y2=>L) (fun _ y2=>y2=o1) ?_ ?_
 ·rcases ic2 H with ⟨hb3,H⟩|⟨hb3,H⟩
  ·refine lsk rfl hb3<|lsk rfl hb3<|lsk rfl hb3<|lsk rfl hb3<|lsk rfl hb3<|lsk rfl hb3<|lr (Ev.pickF rfl hb3 rfl)<|Lst.nil ?_
   exact At.meet false fl ⟨rfl,trivial⟩ rfl (si H)
  refine lg hb3 (Ev.move rfl)<|lg hb3 (Ev.move rfl)<|lg hb3 (Ev.lenStr rfl rfl U9) ?_
  obtain ⟨m4,h5,H⟩:=bs H
  refine lg hb3 (Ev.sliceStrTo rfl rfl  U9 h5)<|lg hb3 (Ev.move rfl)<|lg hb3 (Ev.eqlStr (s:=m4) (m:=a1) rfl rfl)<|lr (Ev.pickT rfl hb3 rfl)<|Lst.nil ?_
  exact At.meet (decide (m4=a1)) fl ⟨rfl,trivial⟩ rfl (si H)
 rintro F6 y2 hF7 hy
 subst hy
 replace H:=HKo1
 refine as1 rfl<|nt0 ?_
 obtain rfl:=si H
 refine Cd.ret ?_
 exact At.ret1 rfl (Res.tmp rfl) hF7 rl ⟨rfl,rfl⟩
theorem internal_stringslite_TrimPrefix_sim {a0:Str} {a1:Str} {r:Str} (H:internal_stringslite_TrimPrefix a0 a1=some r) (w0:World) (F:Frz) (M L:List Item) (hM:M.Sublist L):Ok Tryz.prog w0 223 [Str.v a0,Str.v a1] F (L) (Is (Str.v r) (L)):=by
 unfold internal_stringslite_TrimPrefix at H
 refine Ok.enter (m:=2) (n:=13) Tryz.func223 rfl rfl rfl (by decide)<|Cd.env (e':=[(0,Str.v a0),(1,Str.v a1)]) rfl<|sr0<|as1 rfl<|nt0<|Cd.seq<|sr0<|mv1 rfl<|mv1 rfl ?_
 obtain ⟨r1,h2,H⟩:=bs H
 refine cl1 rfl (vs:=[Str.v a0,Str.v a1]) ⟨rfl,rfl,trivial⟩ Tryz.call231 (internal_stringslite_HasPrefix_sim h2 w0 _ M _ hM)<|nt0 ?_
 rcases ic H with ⟨hb5,H⟩|⟨hb5,H⟩
 ·refine Cd.condT rfl hb5<|sr0<|mv1 rfl<|mv1 rfl<|lr (Ev.lenStr rfl rfl U9) ?_
  obtain ⟨m6,h7,H⟩:=bs H
  refine lr (Ev.sliceStrFrom rfl rfl  U9 h7)<|as1 rfl<|nt0 ?_
  obtain rfl:=si H
  refine Cd.ret<|At.then_ret ?_
  exact At.ret1 rfl (Res.tmp rfl) fl rl ⟨rfl,rfl⟩
 refine Cd.condF rfl hb5<|Cd.skip<|At.then<|sr0<|mv1 rfl<|as1 rfl<|nt0 ?_
 obtain rfl:=si H
 refine Cd.ret ?_
 exact At.ret1 rfl (Res.tmp rfl) fl rl ⟨rfl,rfl⟩
theorem strings_TrimPrefix_sim {a0:Str} {a1:Str} {r:Str} (H:strings_TrimPrefix a0 a1=some r) (w0:World) (F:Frz) (M L:List Item) (hM:M.Sublist L):Ok Tryz.prog w0 180 [Str.v a0,Str.v a1] F (L) (Is (Str.v r) (L)):=by
 unfold strings_TrimPrefix at H
 refine Ok.enter (m:=2) (n:=8) Tryz.func180 rfl rfl rfl (by decide)<|Cd.env (e':=[(0,Str.v a0),(1,Str.v a1)]) rfl<|sr0<|as1 rfl<|nsr<|mv1 rfl<|mv1 rfl ?_
 obtain ⟨r1,h2,H⟩:=bs H
 refine cl1 rfl (vs:=[Str.v a0,Str.v a1]) ⟨rfl,rfl,trivial⟩ Tryz.call223 (internal_stringslite_TrimPrefix_sim h2 w0 _ M _ hM)<|as1 rfl<|nt0 ?_
 obtain rfl:=si H
 refine Cd.ret ?_
 exact At.ret1 rfl (Res.tmp rfl) fl rl ⟨rfl,rfl⟩
theorem same_in_sim {a0:Int} {a1:Int} {a2:Int} {r:Bool} (H:same_in a0 a1 a2=some r) (w0:World) (F:Frz) (M L:List Item) (hM:M.Sublist L):Ok Tryz.prog w0 123 [iv a0,iv a1,iv a2] F (L) (Is (.bool r) (L)):=by
 unfold same_in at H
 refine Ok.enter (m:=3) (n:=15) Tryz.func123 rfl rfl rfl (by decide)<|Cd.env (e':=[(0,iv a0),(1,iv a1),(2,iv a2)]) rfl<|sr0<|as1 rfl<|nsr<|mv1 rfl<|mv1 rfl<|lr (Ev.geq rfl rfl)<|mv1 rfl ?_
 obtain ⟨o1,H,HKo1⟩:=bs H
 refine Lst.join (σ:=Bool) 4 (fun y2=>[(14,.bool y2)]) (fun y2=>L) (fun _ y2=>y2=o1) ?_ ?_
 ·rcases ic2 H with ⟨hb3,H⟩|⟨hb3,H⟩
  ·refine lsk rfl hb3<|lsk rfl hb3<|lsk rfl hb3<|lr (Ev.pickF rfl hb3 rfl)<|Lst.nil ?_
   exact At.meet false fl ⟨rfl,trivial⟩ rfl (si H)
  refine lg hb3 (Ev.move rfl)<|lg hb3 (Ev.move rfl)<|lg hb3 (Ev.leq rfl rfl)<|lr (Ev.pickT rfl hb3 rfl)<|Lst.nil ?_
  exact At.meet (decide (a0≤a2)) fl ⟨rfl,trivial⟩ rfl (si H)
 rintro F4 y2 hF5 hy
 subst hy
 replace H:=HKo1
 refine as1 rfl<|nt0 ?_
 obtain rfl:=si H
 refine Cd.ret ?_
 exact At.ret1 rfl (Res.tmp rfl) hF5 rl ⟨rfl,rfl⟩
theorem strings_makeASCIISet_sim {fu:Nat} {a0:Str} {r:(Vector Bool 256)×Bool} (H:strings_makeASCIISet fu a0=some r) (w0:World) (F:Frz) (M L:List Item) (hM:M.Sublist L):Ok Tryz.prog w0 226 [Str.v a0] F (L) (Is (.tuple #[.agg (enc r.1).toArray,.bool r.2]) (L)):=by
 unfold strings_makeASCIISet at H
 refine Ok.enter (m:=1) (n:=21) Tryz.func226 rfl rfl rfl (by decide)<|Cd.env (e':=[(0,Str.v a0)]) rfl<|sr0 ?_
 refine Lst.alloc (z:=.agg (enc (Vector.replicate 256 false)).toArray) (cs:=enc (Vector.replicate 256 false)) rfl rfl (by decide) (fun _=>by kernel_rfl) rfl (fun b1=>?_)
 refine as1 rfl<|nt0<|Cd.seq<|sr0<|as1 rfl<|nt0<|Cd.block ?_
 obtain ⟨ol3,H,HKl3⟩:=andThen_some H
 refine Cd.loop (σ:=Nat×Int×(Vector Bool 256)) (fun (k3,y4,y5)=>[(0,Str.v a0),(2,pv b1 0),(4,iv y4)]) (fun (k3,y4,y5)=>(.blk b1 (enc y5) 299)::L) (fun _=>(fun (k3,y4,y5)=>whileM (strings_makeASCIISet_B0 a0) k3 (y4,y5)=some ol3)) (fun (k3,y4,y5)=>k3) (fu,(0:Int),(Vector.replicate 256 false)) ⟨rfl,rfl,rfl,trivial⟩ rfl H ?_
 rintro F6 ⟨k3,y4,y5⟩ hF7 H
 rcases k3 with _ | k3
 ·cases H
 obtain ⟨c3,H,hgo3,hbrk3,hret3⟩:=whileM_go H
 unfold strings_makeASCIISet_B0 at H
 try dsimp only at H
 refine Cd.seq<|sr0<|mv1 rfl<|mv1 rfl<|lr (Ev.lenStr rfl rfl U9)<|lr (Ev.lss rfl rfl)<|nt0 ?_
 rcases ic2 H with ⟨hb8,H⟩|⟨hb8,H⟩
 ·refine Cd.condF rfl hb8<|Cd.exit<|At.then_exit<|At.then_exit<|At.in_exit ?_
  have H:=hbrk3 _ (sj H)
  subst H
  replace H:=HKl3
  refine At.then<|sr0<|lr (Ev.loadA (i:=0) rfl rfl I299 Z299 (ch:=enc y5) el gh0)<|lst 0 rfl rfl rfl Z299 (vs:=enc y5) rfl el (Enc.one _) (cs':=enc y5) phl rfl<|as1 rfl<|nt0 ?_
  obtain rfl:=si H
  refine Cd.ret ?_
  exact At.ret2 rfl (Res.cellA (i:=0) rfl rfl I299 Z299 el) (Res.tmp rfl) hF7 (sc1 rl) ⟨rfl,rfl⟩
 refine Cd.condT rfl hb8<|Cd.skip<|At.then<|Cd.seq<|Cd.block<|sr0<|mv1 rfl<|mv1 rfl ?_
 obtain ⟨x9,h10,H⟩:=bs H
 refine lr (Ev.indexStr rfl rfl U9 h10)<|as1 rfl<|nt0<|Cd.seq<|sr0<|mv1 rfl<|lr (Ev.geq rfl rfl)<|nt0 ?_
 rcases ic H with ⟨hb11,H⟩|⟨hb11,H⟩
 ·refine Cd.condT rfl hb11<|sr0<|lr (Ev.loadA (i:=0) rfl rfl I299 Z299 (ch:=enc y5) el gh0)<|lst 0 rfl rfl rfl Z299 (vs:=enc y5) rfl el (Enc.one _) (cs':=enc y5) phl rfl<|as1 rfl<|nt0 ?_
  have H:=hret3 _ (sj H)
  subst H
  replace H:=HKl3
  obtain rfl:=si H
  refine Cd.ret<|At.then_ret<|At.in_ret<|At.then_ret<|At.then_ret<|At.in_ret<|At.then_ret ?_
  exact At.ret2 rfl (Res.cellA (i:=0) rfl rfl I299 Z299 el) (Res.tmp rfl) hF7 (sc1 rl) ⟨rfl,rfl⟩
 refine Cd.condF rfl hb11<|Cd.skip<|At.then<|Cd.region<|mv1 rfl ?_
 obtain ⟨x12,h13,H⟩:=bs H
 have g14:=vat_some h13
 refine lr (Ev.indexAddrK (off':=0+(x9.toBitVec.toNat:Int).toNat * 1) rfl rfl U299 Z4 g14.1 g14.2.1 rfl) ?_
 obtain ⟨p15,h16,H⟩:=Let_some H
 refine lst 0 rfl rfl rfl Z4 (vs:=[.bool true]) rfl rfl rfl (cs':=enc p15) (by rw [← h16]; exact (Put.vecN (s:=1) (x:=x12) rfl g14.2.2 (Put.here (vs:=[.bool true]) rfl)).off (by omega)) rfl<|Lst.nil<|At.in_normal<|At.then<|Cd.region<|mv1 rfl<|lr (Ev.add rfl rfl)<|as1 rfl<|Lst.nil ?_
 exact At.meet (k3,w64 (y4+(1:Int)),p15) hF7 ⟨rfl,rfl,rfl,trivial⟩ rfl ⟨hgo3 _ (sj H),nls⟩
theorem strings_asciiSet_contains_sim {a0:Vector Bool 256} {a1:BitVec 8} {ba0:Nat} {r:Bool} (H:strings_asciiSet_contains a0 a1=some r) (w0:World) (F:Frz) (M L:List Item) (hM:M.Sublist L):Ok Tryz.prog w0 260 [pv ba0 0,.int .u8 a1.toNat] F ((.blk ba0 (enc a0) 299)::L) (Is (.bool r) ((.blk ba0 (enc a0) 299)::L)):=by
 unfold strings_asciiSet_contains at H
 refine Ok.enter (m:=2) (n:=10) Tryz.func260 rfl rfl rfl (by decide)<|Cd.env (e':=[(0,pv ba0 0),(1,.int .u8 a1.toNat)]) rfl<|sr0<|as1 rfl<|nsr<|mv1 rfl<|mv1 rfl<|lr (Ev.nilCheck rfl) ?_
 obtain ⟨x2,h3,H⟩:=bs H
 have g4:=vat_some h3
 refine lr (Ev.indexAddrK (off':=0+(a1.toNat:Int).toNat * 1) rfl rfl U299 Z4 g4.1 g4.2.1 rfl)<|lr (Ev.load (i:=0) rfl rfl I4 (v:=.bool x2) ((Get.vecN (s:=1) (x:=x2) rfl g4.2.2 gh0).off (by omega)))<|as1 rfl<|nt0 ?_
 obtain rfl:=si H
 refine Cd.ret ?_
 exact At.ret1 rfl (Res.tmp rfl) fl rl ⟨rfl,rfl⟩
theorem strings_trimRightASCII_sim {fu:Nat} {a0:Str} {a1:Vector Bool 256} {ba1:Nat} {r:Str} (H:strings_trimRightASCII fu a0 a1=some r) (w0:World) (F:Frz) (M L:List Item) (hM:M.Sublist L):Ok Tryz.prog w0 228 [Str.v a0,pv ba1 0] F ((.blk ba1 (enc a1) 299)::L) (Is (Str.v r) ((.blk ba1 (enc a1) 299)::L)):=by
 unfold strings_trimRightASCII at H
 refine Ok.enter (m:=2) (n:=22) Tryz.func228 rfl rfl rfl (by decide)<|Cd.env (e':=[(0,Str.v a0),(1,pv ba1 0)]) rfl<|sr0<|as1 rfl<|nt0 ?_
 obtain ⟨o3,H,HKo3⟩:=bs H
 refine Cd.join (σ:=Str) (fun y2=>[(0,Str.v y2)]) (fun y2=>(.blk ba1 (enc a1) 299)::L) (fun _ y2=>y2=o3) ?_ ?_
 ·refine Cd.block ?_
  obtain ⟨ol4,H,HKl4⟩:=andThen_some H
  refine Cd.loop (σ:=Nat×Str) (fun (k4,y5)=>[(0,Str.v y5),(1,pv ba1 0)]) (fun (k4,y5)=>(.blk ba1 (enc a1) 299)::L) (fun _=>(fun (k4,y5)=>whileM (strings_trimRightASCII_B0 a1) k4 y5=some ol4)) (fun (k4,y5)=>k4) (fu,a0) ⟨rfl,rfl,trivial⟩ rfl H ?_
  rintro F6 ⟨k4,y5⟩ hF7 H
  rcases k4 with _ | k4
  ·cases H
  obtain ⟨c4,H,hgo4,hbrk4,hret4⟩:=whileM_go H
  unfold strings_trimRightASCII_B0 at H
  try dsimp only at H
  refine Cd.seq<|sr0<|mv1 rfl<|lr (Ev.lenStr rfl rfl U9)<|lr (Ev.gtr rfl rfl)<|nt0 ?_
  rcases ic2 H with ⟨hb8,H⟩|⟨hb8,H⟩
  ·refine Cd.condF rfl hb8<|Cd.exit<|At.then_exit<|At.then_exit<|At.in_exit ?_
   have H:=hbrk4 _ (sj H)
   subst H
   replace H:=HKl4
   exact At.meet y5 hF7 ⟨rfl,trivial⟩ rfl (si H)
  refine Cd.condT rfl hb8<|Cd.skip<|At.then<|Cd.block<|Cd.seq<|sr0<|mv1 rfl<|mv1 rfl<|mv1 rfl<|lr (Ev.lenStr rfl rfl U9)<|lr (Ev.sub rfl rfl) ?_
  obtain ⟨x9,h10,H⟩:=bs H
  refine lr (Ev.indexStr rfl rfl U9 h10) ?_
  obtain ⟨r11,h12,H⟩:=bs H
  refine cl1 rfl (vs:=[pv ba1 0,.int .u8 x9.toBitVec.toNat]) ⟨rfl,rfl,trivial⟩ Tryz.call260 (strings_asciiSet_contains_sim h12 w0 _ M _ hM)<|lr (Ev.not rfl)<|nt0 ?_
  rcases ic H with ⟨hb15,H⟩|⟨hb15,H⟩
  ·refine Cd.condT rfl hb15<|Cd.exit<|At.then_exit<|At.in_other rfl<|At.then_exit<|At.in_exit ?_
   have H:=hbrk4 _ (sj H)
   subst H
   replace H:=HKl4
   exact At.meet y5 hF7 ⟨rfl,trivial⟩ rfl (si H)
  refine Cd.condF rfl hb15<|Cd.skip<|At.then<|Cd.region<|mv1 rfl<|mv1 rfl<|lr (Ev.lenStr rfl rfl U9)<|lr (Ev.sub rfl rfl) ?_
  obtain ⟨m16,h17,H⟩:=bs H
  refine lr (Ev.sliceStrTo rfl rfl  U9 h17)<|as1 rfl<|Lst.nil<|At.in_normal ?_
  exact At.meet (k4,m16) hF7 ⟨rfl,rfl,trivial⟩ rfl ⟨hgo4 _ (sj H),nls⟩
 rintro F18 y2 hF19 hy
 subst hy
 replace H:=HKo3
 refine sr0<|mv1 rfl<|as1 rfl<|nt0 ?_
 obtain rfl:=si H
 refine Cd.ret ?_
 exact At.ret1 rfl (Res.tmp rfl) hF19 rl ⟨rfl,rfl⟩
theorem strings_trimLeftASCII_sim {fu:Nat} {a0:Str} {a1:Vector Bool 256} {ba1:Nat} {r:Str} (H:strings_trimLeftASCII fu a0 a1=some r) (w0:World) (F:Frz) (M L:List Item) (hM:M.Sublist L):Ok Tryz.prog w0 227 [Str.v a0,pv ba1 0] F ((.blk ba1 (enc a1) 299)::L) (Is (Str.v r) ((.blk ba1 (enc a1) 299)::L)):=by
 unfold strings_trimLeftASCII at H
 refine Ok.enter (m:=2) (n:=16) Tryz.func227 rfl rfl rfl (by decide)<|Cd.env (e':=[(0,Str.v a0),(1,pv ba1 0)]) rfl<|sr0<|as1 rfl<|nt0 ?_
 obtain ⟨o3,H,HKo3⟩:=bs H
 refine Cd.join (σ:=Str) (fun y2=>[(0,Str.v y2)]) (fun y2=>(.blk ba1 (enc a1) 299)::L) (fun _ y2=>y2=o3) ?_ ?_
 ·refine Cd.block ?_
  obtain ⟨ol4,H,HKl4⟩:=andThen_some H
  refine Cd.loop (σ:=Nat×Str) (fun (k4,y5)=>[(0,Str.v y5),(1,pv ba1 0)]) (fun (k4,y5)=>(.blk ba1 (enc a1) 299)::L) (fun _=>(fun (k4,y5)=>whileM (strings_trimLeftASCII_B0 a1) k4 y5=some ol4)) (fun (k4,y5)=>k4) (fu,a0) ⟨rfl,rfl,trivial⟩ rfl H ?_
  rintro F6 ⟨k4,y5⟩ hF7 H
  rcases k4 with _ | k4
  ·cases H
  obtain ⟨c4,H,hgo4,hbrk4,hret4⟩:=whileM_go H
  unfold strings_trimLeftASCII_B0 at H
  try dsimp only at H
  refine Cd.seq<|sr0<|mv1 rfl<|lr (Ev.lenStr rfl rfl U9)<|lr (Ev.gtr rfl rfl)<|nt0 ?_
  rcases ic2 H with ⟨hb8,H⟩|⟨hb8,H⟩
  ·refine Cd.condF rfl hb8<|Cd.exit<|At.then_exit<|At.then_exit<|At.in_exit ?_
   have H:=hbrk4 _ (sj H)
   subst H
   replace H:=HKl4
   exact At.meet y5 hF7 ⟨rfl,trivial⟩ rfl (si H)
  refine Cd.condT rfl hb8<|Cd.skip<|At.then<|Cd.block<|Cd.seq<|sr0<|mv1 rfl<|mv1 rfl ?_
  obtain ⟨x9,h10,H⟩:=bs H
  refine lr (Ev.indexStr rfl rfl U9 h10) ?_
  obtain ⟨r11,h12,H⟩:=bs H
  refine cl1 rfl (vs:=[pv ba1 0,.int .u8 x9.toBitVec.toNat]) ⟨rfl,rfl,trivial⟩ Tryz.call260 (strings_asciiSet_contains_sim h12 w0 _ M _ hM)<|lr (Ev.not rfl)<|nt0 ?_
  rcases ic H with ⟨hb15,H⟩|⟨hb15,H⟩
  ·refine Cd.condT rfl hb15<|Cd.exit<|At.then_exit<|At.in_other rfl<|At.then_exit<|At.in_exit ?_
   have H:=hbrk4 _ (sj H)
   subst H
   replace H:=HKl4
   exact At.meet y5 hF7 ⟨rfl,trivial⟩ rfl (si H)
  refine Cd.condF rfl hb15<|Cd.skip<|At.then<|Cd.region<|mv1 rfl ?_
  obtain ⟨m16,h17,H⟩:=bs H
  refine lr (Ev.sliceStrFrom rfl rfl  U9 h17)<|as1 rfl<|Lst.nil<|At.in_normal ?_
  exact At.meet (k4,m16) hF7 ⟨rfl,rfl,trivial⟩ rfl ⟨hgo4 _ (sj H),nls⟩
 rintro F18 y2 hF19 hy
 subst hy
 replace H:=HKo3
 refine sr0<|mv1 rfl<|as1 rfl<|nt0 ?_
 obtain rfl:=si H
 refine Cd.ret ?_
 exact At.ret1 rfl (Res.tmp rfl) hF19 rl ⟨rfl,rfl⟩
end Go.Proofs.YtchmclllcdknjaaGreatDoor
