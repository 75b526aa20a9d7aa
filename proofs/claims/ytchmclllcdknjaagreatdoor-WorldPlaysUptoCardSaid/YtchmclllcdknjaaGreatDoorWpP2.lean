/-
  The functions compute their specs; printed by a program.
-/
import Derived.Test.YtchmclllcdknjaaGreatDoorWpP1
namespace Go.Proofs.YtchmclllcdknjaaGreatDoor
open Go.RowKit Enc
set_option linter.unusedVariables false
set_option linter.unusedSimpArgs false
set_option maxRecDepth 20000
abbrev U37 := @Tryz.runUnderlying37
abbrev U254 := @Tryz.runUnderlying254
abbrev Z37 := @Tryz.sizeOf37
abbrev I37 := @Tryz.isAgg37
abbrev I41 := @Tryz.isAgg41
theorem lane_Take_sim {fu:Nat} {a0:To} {a1:Parcel} {sa0x1:Sl} {r:To×(List Str)×Int} (H:lane_Take fu a0 a1=some r) (w0:World) (F:Frz) (M L:List Item) (hM:M.Sublist L) (pa0x1:Rd w0 F M sa0x1 a0.Early):Ok Tryz.prog w0 176 [.agg (enc (ToR.mk a0 sa0x1)).toArray,.agg (enc a1).toArray] F (L) (fun _ L' v=>∃ (s1:Sl) (s3:Sl),v=.tuple #[.agg (enc (ToR.mk r.1 s1)).toArray,Sl.v s3,iv r.2.2]∧L'=(.own s1 146 2 (encs r.1.Early))::(.own s3 9 1 (encs r.2.1))::L):=by
 let T5:Item:=.own Sl.nil 9 1 (encs ([]:List Str))
 let T4:=ToR.mk ({To.zero with Next:=a0.Next}:To) Sl.nil
 let T2:Item:=.own Sl.nil 146 2 (encs ([]:List Parcel))
 let T0:=ToR.mk ({To.zero with Early:=([]:List Parcel)}:To) Sl.nil
 unfold lane_Take at H
 refine Ok.enter (m:=2) (n:=116) Tryz.func176 rfl rfl rfl (by decide)<|Cd.env (e':=[(0,.agg (enc (ToR.mk a0 sa0x1)).toArray),(1,.agg (enc a1).toArray)]) rfl<|sr0 ?_
 refine Lst.box rfl rfl (by decide) rfl (cs:=enc (ToR.mk a0 sa0x1)) rfl (fun b1=>?_)
 let T6:Item:=.blk b1 (enc (ToR.mk a0 sa0x1)) 41
 refine Lst.box rfl rfl (by decide) rfl (cs:=enc a1) rfl (fun b3=>?_)
 refine Lst.addNil 146 2 ?_
 refine Lst.alloc (cs:=enc T0) rfl rfl (by decide) Tryz.zeroValue41 rfl (fun b6=>?_)
 refine Lst.addNil 9 1<|as1 rfl<|as1 rfl<|nt0<|Cd.seq<|sr0<|lr (Ev.loadA (i:=4) rfl rfl I41 Z41 (ch:=enc (ToR.mk a0 sa0x1)) el gh0) ?_
 obtain ⟨r9,h10,H⟩:=bs H
 refine cl1 rfl (vs:=[.agg (enc (ToR.mk a0 sa0x1)).toArray]) ⟨rfl,trivial⟩ Tryz.call215 (lane_CheckTo_sim h10 w0 _ M _ (sc4 (sc1 hM)) (pa0x1.mono fl rl))<|as1 rfl<|nsr<|mv1 rfl<|lr (Ev.neq rfl rfl)<|nt0 ?_
 rcases ic H with ⟨hb13,H⟩|⟨hb13,H⟩
 ·refine Cd.condT rfl hb13<|sr0<|lr (Ev.build (v:=.agg (enc (ToR.mk To.zero Sl.nil)).toArray) (pv:=[]) trivial (fun w=>by kernel_rfl))<|mv1 rfl<|lst 1 rfl rfl rfl Z41 (vs:=enc (ToR.mk To.zero Sl.nil)) rfl el (Enc.one _) (cs':=enc (ToR.mk To.zero Sl.nil)) phl rfl<|Lst.addNil 9 1<|as1 rfl<|as1 rfl<|nt0 ?_
  obtain rfl:=si H
  refine Cd.ret<|At.then_ret<|At.addNil 146 2 ?_
  exact At.ret3 rfl (Res.cellA (i:=3) rfl rfl I41 Z41 el) (Res.tmp rfl) (Res.tmp rfl) fl (sk2 (sc1 (sc4 rl))) ⟨Sl.nil,Sl.nil,rfl,rfl⟩
 refine Cd.condF rfl hb13<|Cd.skip<|At.then<|Cd.seq<|Cd.block<|sr0<|lr (Ev.fo 0 rfl U146 rfl Z3 rfl rfl)<|lr (Ev.load (i:=3) rfl rfl I3 (v:=iv a1.Seq) ((Parcel.get_Seq gh0).off rfl)) ?_
 obtain ⟨r16,h17,H⟩:=bs H
 refine cl1 rfl (vs:=[iv a1.Seq,iv (0:Int),iv (16777214:Int)]) ⟨rfl,rfl,rfl,trivial⟩ Tryz.call168 (lane_in_sim h17 w0 _ M _ (sc4 (sc1 hM)))<|lr (Ev.not rfl)<|as1 rfl<|nt0 ?_
 rcases ic H with ⟨hb20,H⟩|⟨hb20,H⟩
 ·refine Cd.condT rfl hb20<|sr0<|lr (Ev.build (v:=.agg (enc (ToR.mk To.zero Sl.nil)).toArray) (pv:=[]) trivial (fun w=>by kernel_rfl))<|lst 1 rfl rfl rfl Z41 (vs:=enc (ToR.mk To.zero Sl.nil)) rfl el (Enc.one _) (cs':=enc (ToR.mk To.zero Sl.nil)) phl rfl<|Lst.addNil 9 1<|as1 rfl<|as1 rfl<|nt0 ?_
  obtain rfl:=si H
  refine Cd.ret<|At.in_ret<|At.then_ret<|At.addNil 146 2 ?_
  exact At.ret3 rfl (Res.cellA (i:=3) rfl rfl I41 Z41 el) (Res.tmp rfl) (Res.tmp rfl) fl (sk2 (sc1 (sc4 rl))) ⟨Sl.nil,Sl.nil,rfl,rfl⟩
 refine Cd.condF rfl hb20<|sr0<|lr (Ev.fo 1 rfl U146 rfl Z9 rfl rfl)<|lr (Ev.load (i:=3) rfl rfl I9 (v:=Str.v a1.Text) ((Parcel.get_Text gh0).off rfl)) ?_
 obtain ⟨r23,h24,H⟩:=bs H
 refine cl1 rfl (vs:=[Str.v a1.Text]) ⟨rfl,trivial⟩ Tryz.call112 (lane_long_sim h24 w0 _ M _ (sc4 (sc1 hM)))<|as1 rfl<|nt0 ?_
 rcases ic H with ⟨hb27,H⟩|⟨hb27,H⟩
 ·refine Cd.condT rfl hb27<|sr0<|lr (Ev.build (v:=.agg (enc (ToR.mk To.zero Sl.nil)).toArray) (pv:=[]) trivial (fun w=>by kernel_rfl))<|lst 1 rfl rfl rfl Z41 (vs:=enc (ToR.mk To.zero Sl.nil)) rfl el (Enc.one _) (cs':=enc (ToR.mk To.zero Sl.nil)) phl rfl<|Lst.addNil 9 1<|as1 rfl<|as1 rfl<|nt0 ?_
  obtain rfl:=si H
  refine Cd.ret<|At.in_ret<|At.then_ret<|At.addNil 146 2 ?_
  exact At.ret3 rfl (Res.cellA (i:=3) rfl rfl I41 Z41 el) (Res.tmp rfl) (Res.tmp rfl) fl (sk2 (sc1 (sc4 rl))) ⟨Sl.nil,Sl.nil,rfl,rfl⟩
 refine Cd.condF rfl hb27<|Cd.skip<|At.in_normal<|At.then<|Cd.seq ?_
 obtain ⟨r30,h31,H⟩:=bs H
 let T8:=({To.zero with Next:=a0.Next,Early:=r30}:To)
 obtain ⟨o45,h46,H⟩:=Let_some H
 refine Cd.headMeet (σ:=Nat×Sl×(List Parcel)×Sl×(List Parcel)) 7 (fun (b40,s41,l42,s43,l44)=>[(2,pv b1 0),(3,pv b3 0),(4,pv b6 0),(8,pv b40 0),(34,.agg (enc (ToR.mk ({To.zero with Next:=a0.Next,Early:=l44}:To) s43)).toArray)]) (fun (b40,s41,l42,s43,l44)=>(.blk b40 (enc (ToR.mk ({To.zero with Early:=l42}:To) s41)) 41)::(.own s41 146 2 (encs l42))::(.own s43 146 2 (encs l44))::T5::(.blk b6 (enc T0) 41)::T2::(.blk b3 (enc a1) 146)::T6::L) (fun _ (b40,s41,l42,s43,l44)=>(l42,l44)=o45) (by kernel_rfl) (by kernel_rfl) (behind_sink (by kernel_rfl) (by kernel_rfl) (by kernel_rfl)) (by kernel_rfl) (fun hsel hlt=>?_) ?_
 ·refine HdJ.keep (fun w=>St w0 F (T5::(.blk b6 (enc T0) 41)::T2::(.blk b3 (enc a1) 146)::T6::L) w) (fun w h=>trivial)<|hts rfl hsel hlt 0 rl rfl (Ev.fo 0 rfl U41 rfl Z3 rfl rfl)<|hts rfl hsel hlt 1 rl rfl (Ev.load (i:=4) rfl rfl I3 (v:=iv a0.Next) ((ToR.get_Next gh0).off rfl))<|hts rfl hsel hlt 2 rl rfl (Ev.fo 1 rfl U41 rfl Z39 rfl rfl)<|hts rfl hsel hlt 3 rl rfl (Ev.load (i:=4) rfl rfl I39 (v:=Sl.v sa0x1) ((ToR.get_Early gh0).off rfl))<|HdJ.step [4,6] (by kernel_rfl) rfl ?_
  refine HdStep.c (fun inv=>?_) ?_
  ·refine cl rfl (vs:=[Sl.v sa0x1]) ⟨rfl,trivial⟩ Tryz.call216 (slices_Clone_api_Parcel_api_Parcel_sim h31 w0 _ M _ (sc4 (sc1 hM)) (pa0x1.mono fl rl)) (fun F48 L' v hF49 hv=>?_)
   obtain ⟨s47,rfl,rfl⟩:=hv
   refine Lst.nil<|At.hd inv (fun w h=>(h.weaken hF49).sublist (sc1 rl))<|HdJ.keep (fun w=>St w0 F48 ((.own s47 146 2 (encs r30))::T5::(.blk b6 (enc T0) 41)::T2::(.blk b3 (enc a1) 146)::T6::L) w) (fun w h=>(h.weaken hF49).sublist (sc1 rl))<|hts rfl hsel hlt 5 rl rfl (Ev.build (v:=.agg (enc (ToR.mk T8 s47)).toArray) (pv:=[(0,iv a0.Next),(1,Sl.v s47)]) ⟨rfl,rfl,⟨rfl,rfl,trivial⟩⟩ (run_buildStruct (places:=#[(0,1),(1,1)]) Tryz.zeroValue41 (zs:=enc (ToR.mk To.zero Sl.nil)) rfl U41 (fun w=>by kernel_rfl) (fill_cons (cs:=enc (ToR.mk To.zero Sl.nil)) (cs':=enc T4) (vs:=[iv a0.Next]) rfl rfl rfl ((ToR.put_Next (p:=(ToR.mk To.zero Sl.nil)) (y:=a0.Next) (Put.here (vs:=[iv a0.Next]) rfl)).off rfl) (fill_cons (cs:=enc T4) (cs':=enc (ToR.mk T8 s47)) (vs:=[Sl.v s47]) rfl rfl rfl ((ToR.put_Early (p:=T4) (y:=s47) (Put.here (vs:=[Sl.v s47]) rfl)).off rfl) fill_nil)))) ?_
   refine HdJ.o1 6 (fun inv=>?_)
   refine Lst.addNil 146 2 ?_
   refine Lst.alloc (cs:=enc T0) rfl rfl (by decide) Tryz.zeroValue41 rfl (fun b50=>?_)
   refine hds inv (sc2 rl)<|HdJ.done (by kernel_rfl) ?_
   exact At.meetN (b50,Sl.nil,([]:List Parcel),s47,r30) hF49 ⟨rfl,rfl,rfl,rfl,rfl,trivial⟩ rfl h46
  refine HdStep.c (fun inv=>?_) trivial
  refine Lst.addNil 146 2 ?_
  refine Lst.alloc (cs:=enc T0) rfl rfl (by decide) Tryz.zeroValue41 rfl (fun b51=>?_)
  refine hds inv (sc2 rl) ?_
  refine HdJ.o1 4 (fun inv=>?_)
  refine cl rfl (vs:=[Sl.v sa0x1]) ⟨rfl,trivial⟩ Tryz.call216 (slices_Clone_api_Parcel_api_Parcel_sim h31 w0 _ M _ (sc4 (sc2 (sc1 hM))) (pa0x1.mono fl rl)) (fun F53 L' v hF54 hv=>?_)
  obtain ⟨s52,rfl,rfl⟩:=hv
  refine Lst.nil<|At.hd inv (fun w h=>(h.weaken hF54).sublist (sc1 (sc2 rl)))<|HdJ.keep (fun w=>St w0 F53 ((.own s52 146 2 (encs r30))::(.blk b51 (enc T0) 41)::T2::T5::(.blk b6 (enc T0) 41)::T2::(.blk b3 (enc a1) 146)::T6::L) w) (fun w h=>(h.weaken hF54).sublist (sc1 (sc2 rl)))<|hts rfl hsel hlt 5 rl rfl (Ev.build (v:=.agg (enc (ToR.mk T8 s52)).toArray) (pv:=[(0,iv a0.Next),(1,Sl.v s52)]) ⟨rfl,rfl,⟨rfl,rfl,trivial⟩⟩ (run_buildStruct (places:=#[(0,1),(1,1)]) Tryz.zeroValue41 (zs:=enc (ToR.mk To.zero Sl.nil)) rfl U41 (fun w=>by kernel_rfl) (fill_cons (cs:=enc (ToR.mk To.zero Sl.nil)) (cs':=enc T4) (vs:=[iv a0.Next]) rfl rfl rfl ((ToR.put_Next (p:=(ToR.mk To.zero Sl.nil)) (y:=a0.Next) (Put.here (vs:=[iv a0.Next]) rfl)).off rfl) (fill_cons (cs:=enc T4) (cs':=enc (ToR.mk T8 s52)) (vs:=[Sl.v s52]) rfl rfl rfl ((ToR.put_Early (p:=T4) (y:=s52) (Put.here (vs:=[Sl.v s52]) rfl)).off rfl) fill_nil))))<|HdJ.done (by kernel_rfl)<|af 2 rfl<|af 2 rfl ?_
  exact At.meetN (b51,Sl.nil,([]:List Parcel),s52,r30) hF54 ⟨rfl,rfl,rfl,rfl,rfl,trivial⟩ rfl h46
 rintro F55 ⟨b40,s41,l42,s43,l44⟩ hF56 hy
 let T11:Item:=.own s41 146 2 (encs l42)
 let T1:=ToR.mk ({To.zero with Next:=a0.Next,Early:=l44}:To) s43
 subst hy
 try dsimp only at H
 refine lst 0 rfl rfl rfl Z41 (vs:=enc T1) rfl el (Enc.one _) (cs':=enc T1) phl rfl<|nsr<|lr (Ev.fo 1 rfl U41 rfl Z39 rfl rfl)<|lr (Ev.load (i:=0) rfl rfl I39 (v:=Sl.v s43) ((ToR.get_Early gh0).off rfl))<|lr (Ev.fo 0 rfl U146 rfl Z3 rfl rfl)<|lr (Ev.load (i:=6) rfl rfl I3 (v:=iv a1.Seq) ((Parcel.get_Seq gh0).off rfl)) ?_
 obtain ⟨r57,h58,H⟩:=bs H
 refine cl1 rfl (vs:=[Sl.v s43,iv a1.Seq,.func (.func 218) #[] #[]]) ⟨rfl,rfl,rfl,trivial⟩ Tryz.call217 (slices_BinarySearchFunc_api_Parcel_api_Parcel_int_Take_1_sim h58 w0 _ _ _ rl (rdo 2 rfl rfl rfl))<|mv1 rfl<|lr (Ev.extract rfl rfl)<|lr (Ev.extract rfl rfl)<|as1 rfl<|as1 rfl<|nt0<|Cd.seq<|sr0<|lr (Ev.fo 0 rfl U146 rfl Z3 rfl rfl)<|lr (Ev.load (i:=6) rfl rfl I3 (v:=iv a1.Seq) ((Parcel.get_Seq gh0).off rfl)) ?_
 refine lr (Ev.fo 0 rfl U41 rfl Z3 rfl rfl)<|lr (Ev.load (i:=7) rfl rfl I3 (v:=iv a0.Next) ((ToR.get_Next gh0).off rfl))<|lr (Ev.lss rfl rfl)<|mv1 rfl ?_
 obtain ⟨o61,H,HKo61⟩:=bs H
 refine Lst.join (σ:=Bool) 7 (fun y62=>[(2,pv b1 0),(3,pv b3 0),(4,pv b6 0),(8,pv b40 0),(9,iv r57.1),(10,.bool r57.2),(55,.bool y62)]) (fun y62=>(.blk b40 (enc T1) 41)::T11::(.own s43 146 2 (encs l44))::T5::(.blk b6 (enc T0) 41)::T2::(.blk b3 (enc a1) 146)::T6::L) (fun _ y62=>y62=o61) ?_ ?_
 ·rcases ic H with ⟨hb63,H⟩|⟨hb63,H⟩
  ·refine lsk rfl hb63<|lsk rfl hb63<|lsk rfl hb63<|lsk rfl hb63<|lsk rfl hb63<|lsk rfl hb63<|lr (Ev.pickT rfl hb63 rfl)<|Lst.nil ?_
   exact At.meet true fl ⟨rfl,rfl,rfl,rfl,rfl,rfl,rfl,trivial⟩ rfl (si H)
  refine lg hb63 (Ev.fo 0 rfl U146 rfl Z3 rfl rfl)<|lg hb63 (Ev.load (i:=6) rfl rfl I3 (v:=iv a1.Seq) ((Parcel.get_Seq gh0).off rfl))<|lg hb63 (Ev.fo 0 rfl U41 rfl Z3 rfl rfl)<|lg hb63 (Ev.load (i:=7) rfl rfl I3 (v:=iv a0.Next) ((ToR.get_Next gh0).off rfl))<|lg hb63 (Ev.add rfl rfl)<|lg hb63 (Ev.geq rfl rfl)<|lr (Ev.pickF rfl hb63 rfl)<|Lst.nil ?_
  exact At.meet (decide (a1.Seq≥(w64 (a0.Next+(16:Int))))) fl ⟨rfl,rfl,rfl,rfl,rfl,rfl,rfl,trivial⟩ rfl (si H)
 rintro F64 y62 hF65 hy
 subst hy
 replace H:=HKo61
 refine mv1 rfl ?_
 obtain ⟨o66,H,HKo66⟩:=bs H
 refine Lst.join (σ:=Bool) 2 (fun y67=>[(2,pv b1 0),(3,pv b3 0),(4,pv b6 0),(8,pv b40 0),(9,iv r57.1),(58,.bool y67)]) (fun y67=>(.blk b40 (enc T1) 41)::T11::(.own s43 146 2 (encs l44))::T5::(.blk b6 (enc T0) 41)::T2::(.blk b3 (enc a1) 146)::T6::L) (fun _ y67=>y67=o66) ?_ ?_
 ·rcases ic H with ⟨hb68,H⟩|⟨hb68,H⟩
  ·refine lsk rfl hb68<|lr (Ev.pickT rfl hb68 rfl)<|Lst.nil ?_
   exact At.meet true fl ⟨rfl,rfl,rfl,rfl,rfl,rfl,trivial⟩ rfl (si H)
  refine lg hb68 (Ev.move rfl)<|lr (Ev.pickF rfl hb68 rfl)<|Lst.nil ?_
  exact At.meet r57.2 fl ⟨rfl,rfl,rfl,rfl,rfl,rfl,trivial⟩ rfl (si H)
 rintro F69 y67 hF70 hy
 let T10:=ft (ft hF56 hF65) hF70
 subst hy
 replace H:=HKo66
 refine nt0 ?_
 rcases ic H with ⟨hb71,H⟩|⟨hb71,H⟩
 ·refine Cd.condT rfl hb71<|sr0<|lr (Ev.loadA (i:=0) rfl rfl I41 Z41 (ch:=enc T1) el gh0)<|lst 4 rfl rfl rfl Z41 (vs:=enc T1) rfl el (Enc.one _) (cs':=enc T1) phl rfl<|Lst.addNil 9 1<|as1 rfl<|as1 rfl<|nt0 ?_
  obtain rfl:=si H
  refine Cd.ret<|At.then_ret<|af 3 rfl ?_
  exact At.ret3 rfl (Res.cellA (i:=5) rfl rfl I41 Z41 el) (Res.tmp rfl) (Res.tmp rfl) T10 (sk2 (sc1 (sc2 (sc4 rl)))) ⟨s43,Sl.nil,rfl,rfl⟩
 refine Cd.condF rfl hb71<|Cd.skip<|At.then<|Cd.seq<|sr0<|lr (Ev.fo 0 rfl U146 rfl Z3 rfl rfl)<|lr (Ev.load (i:=6) rfl rfl I3 (v:=iv a1.Seq) ((Parcel.get_Seq gh0).off rfl))<|lr (Ev.fo 0 rfl U41 rfl Z3 rfl rfl)<|lr (Ev.load (i:=7) rfl rfl I3 (v:=iv a0.Next) ((ToR.get_Next gh0).off rfl))<|lr (Ev.gtr rfl rfl)<|nt0 ?_
 rcases ic H with ⟨hb73,H⟩|⟨hb73,H⟩
 ·refine Cd.condT rfl hb73<|sr0<|lr (Ev.fo 1 rfl U41 rfl Z39 rfl rfl)<|lr (Ev.load (i:=0) rfl rfl I39 (v:=Sl.v s43) ((ToR.get_Early gh0).off rfl))<|mv1 rfl<|lr (Ev.loadA (i:=6) rfl rfl I146 Z146 (ch:=enc a1) el gh0) ?_
  refine Lst.buildSlice (α:=Parcel) (xs:=([a1]:List Parcel)) (pv:=[(0,.agg (enc a1).toArray)]) rfl rfl (by decide) ⟨rfl,rfl,trivial⟩ (run_buildSlice (α:=Parcel) (z0:=Parcel.zero) (xs:=([a1]:List Parcel)) U39 Z146 Tryz.zeroValue146 rfl rfl rfl (by decide) rfl (fill_one rfl rfl)) rfl rfl (by decide) (fun s74 _=>?_)
  obtain ⟨r76,h77,H⟩:=bs H
  refine lf 3 rfl ?_
  refine cl rfl (vs:=[Sl.v s43,iv r57.1,Sl.v s74]) ⟨rfl,rfl,rfl,trivial⟩ Tryz.call219 (slices_Insert_api_Parcel_api_Parcel_sim h77 w0 _ M _ (sc4 (sc2 (sc1 hM)))) (fun F80 L' v hF81 hv=>?_)
  obtain ⟨s78,rfl,rfl⟩:=hv
  let T7:=ToR.mk ({To.zero with Next:=a0.Next,Early:=r76}:To) s78
  refine lr (Ev.fo 1 rfl U41 rfl Z39 rfl rfl)<|lst 1 rfl rfl rfl Z39 (vs:=[Sl.v s78]) rfl rfl rfl (cs':=enc T7) ((ToR.put_Early (Put.here (vs:=[Sl.v s78]) rfl)).off rfl) rfl<|nsr<|lr (Ev.loadA (i:=1) rfl rfl I41 Z41 (ch:=enc T7) el gh0)<|lst 4 rfl rfl rfl Z41 (vs:=enc T7) rfl el (Enc.one _) (cs':=enc T7) phl rfl<|Lst.addNil 9 1<|as1 rfl<|as1 rfl<|nt0 ?_
  obtain rfl:=si H
  refine Cd.ret<|At.then_ret<|af 1 rfl ?_
  exact At.ret3 rfl (Res.cellA (i:=5) rfl rfl I41 Z41 el) (Res.tmp rfl) (Res.tmp rfl) (ft T10 hF81) (sk2 (sc1 (sc2 (sc4 rl)))) ⟨s78,Sl.nil,rfl,rfl⟩
 refine Cd.condF rfl hb73<|Cd.skip<|At.then<|sr0<|lr (Ev.fo 1 rfl U146 rfl Z9 rfl rfl)<|lr (Ev.load (i:=6) rfl rfl I9 (v:=Str.v a1.Text) ((Parcel.get_Text gh0).off rfl)) ?_
 refine Lst.buildSlice (α:=Str) (xs:=([a1.Text]:List Str)) (pv:=[(0,Str.v a1.Text)]) rfl rfl (by decide) ⟨rfl,rfl,trivial⟩ (run_buildSlice (α:=Str) (z0:=([]:Str)) (xs:=([a1.Text]:List Str)) U43 Z9 Tryz.zeroValue9 rfl rfl rfl (by decide) rfl (fill_one rfl rfl)) rfl rfl (by decide) (fun s83 _=>?_)
 refine as1 rfl<|nsr<|lr (Ev.fo 0 rfl U41 rfl Z3 rfl rfl)<|lr (Ev.load (i:=1) rfl rfl I3 (v:=iv a0.Next) ((ToR.get_Next gh0).off rfl))<|lr (Ev.add rfl rfl)<|lr (Ev.fo 0 rfl U41 rfl Z3 rfl rfl) ?_
 obtain ⟨p85,h86,H⟩:=Let_some H
 refine lst 1 rfl rfl rfl Z3 (vs:=[iv (w64 (a0.Next+(1:Int)))]) rfl rfl rfl (cs':=enc (ToR.mk ({To.zero with Next:=p85,Early:=l44}:To) s43)) (by (try dsimp +zetaDelta only); rw [← h86]; exact (ToR.put_Next (Put.here (vs:=[iv (w64 (a0.Next+(1:Int)))]) rfl)).off rfl) rfl<|nt0<|Cd.seq<|Cd.block ?_
 obtain ⟨ol87,H,HKl87⟩:=andThen_some H
 refine Cd.loop (σ:=Nat×To×Sl×(List Str)×Sl×(List Parcel)) (fun (k87,y88,s89,l90,s91,l92)=>[(4,pv b6 0),(8,pv b40 0),(11,Sl.v s89)]) (fun (k87,y88,s89,l90,s91,l92)=>(.own s89 9 1 (encs l90))::(.blk b40 (enc (ToR.mk ({y88 with Early:=l92}:To) s91)) 41)::T11::(.own s91 146 2 (encs l92))::T5::(.blk b6 (enc T0) 41)::T2::(.blk b3 (enc a1) 146)::T6::L) (fun _=>(fun (k87,y88,s89,l90,s91,l92)=>whileM (lane_Take_B1) k87 (y88,l90,l92)=some ol87)) (fun (k87,y88,s89,l90,s91,l92)=>k87) (fu,({To.zero with Next:=p85,Early:=l44}:To),s83,([a1.Text]:List Str),s43,l44) ⟨rfl,rfl,rfl,trivial⟩ rfl H ?_
 rintro F93 ⟨k87,y88,s89,l90,s91,l92⟩ hF94 H
 let T3:=s91.cut ((1:Int):Int).toNat ((l92.length:Int):Int).toNat 2
 rcases k87 with _ | k87
 ·cases H
 obtain ⟨c87,H,hgo87,hbrk87,hret87⟩:=whileM_go H
 unfold lane_Take_B1 at H
 try dsimp only at H
 refine Cd.seq<|Cd.seq<|Cd.quiet (by kernel_rfl) (by kernel_rfl)<|qr (Ev.fo 1 rfl U41 rfl Z39 rfl rfl)<|qr (Ev.load (i:=1) rfl rfl I39 (v:=Sl.v s91) ((ToR.get_Early gh0).off rfl))<|qr (Ev.lenS (α:=Parcel) (xs:=l92) (by decide) rfl rfl U39 (rdo 3 rfl rfl rfl))<|qr (Ev.gtr rfl rfl)<|qr (Ev.move rfl) ?_
 obtain ⟨o95,H,HKo95⟩:=bs H
 refine Qt.join (σ:=Bool) 9 (fun y96=>[(4,pv b6 0),(8,pv b40 0),(11,Sl.v s89),(93,.bool y96)]) (fun y96=>y96=o95) ?_ ?_
 ·rcases ic2 H with ⟨hb97,H⟩|⟨hb97,H⟩
  ·refine qsk rfl hb97<|qsk rfl hb97<|qsk rfl hb97<|qsk rfl hb97<|qsk rfl hb97<|qsk rfl hb97<|qsk rfl hb97<|qsk rfl hb97<|qr (Ev.pickF rfl hb97 rfl) ?_
   exact Qt.meet false ⟨rfl,rfl,rfl,rfl,trivial⟩ (si H)
  refine qg hb97 (Ev.fo 1 rfl U41 rfl Z39 rfl rfl)<|qg hb97 (Ev.load (i:=1) rfl rfl I39 (v:=Sl.v s91) ((ToR.get_Early gh0).off rfl)) ?_
  obtain ⟨x98,h99,H⟩:=bs H
  have g100:=lat_some h99
  refine qg hb97 (Ev.indexS (α:=Parcel) (xs:=l92) rfl rfl U39 Z146 rfl (by decide) (rdo 3 rfl rfl rfl) g100.1 g100.2.1)<|qg hb97 (Ev.fieldS (α:=Parcel) (f':=(0:Int).toNat * 2+0) rfl (rdo 3 rfl rfl rfl) ((Get.elemN (s:=2) (x:=x98) rfl g100.2.2 gh0).off (by omega)) rfl U146 rfl Z3 rfl rfl rfl)<|qg hb97 (Ev.loadS (α:=Parcel) rfl (rdo 3 rfl rfl rfl) I3 (v:=iv x98.Seq) ((Get.elemN (s:=2) (x:=x98) rfl g100.2.2 (Parcel.get_Seq gh0)).off (by omega)))<|qg hb97 (Ev.fo 0 rfl U41 rfl Z3 rfl rfl)<|qg hb97 (Ev.load (i:=1) rfl rfl I3 (v:=iv y88.Next) ((ToR.get_Next gh0).off rfl))<|qg hb97 (Ev.eql rfl rfl)<|qr (Ev.pickT rfl hb97 rfl) ?_
  exact Qt.meet (x98.Seq==y88.Next) ⟨rfl,rfl,rfl,rfl,trivial⟩ (si H)
 rintro y96 hy
 subst hy
 refine Qt.as (e':=[(4,pv b6 0),(8,pv b40 0),(11,Sl.v s89),(93,.bool y96)]) ⟨rfl,rfl,rfl,rfl,trivial⟩ ?_
 replace H:=HKo95
 refine Qt.done<|At.then ?_
 rcases ic2 H with ⟨hb101,H⟩|⟨hb101,H⟩
 ·refine Cd.condF rfl hb101<|Cd.exit<|At.then_exit<|At.then_exit<|At.in_exit ?_
  have H:=hbrk87 _ (sj H)
  subst H
  replace H:=HKl87
  refine At.then<|sr0<|lr (Ev.fo 1 rfl U41 rfl Z39 rfl rfl)<|lr (Ev.load (i:=1) rfl rfl I39 (v:=Sl.v s91) ((ToR.get_Early gh0).off rfl)) ?_
  obtain ⟨r102,h103,H⟩:=bs H
  refine cl rfl (vs:=[Sl.v s91]) ⟨rfl,trivial⟩ Tryz.call216 (slices_Clone_api_Parcel_api_Parcel_sim h103 w0 _ _ _ rl (rdo 3 rfl rfl rfl)) (fun F106 L' v hF107 hv=>?_)
  obtain ⟨s104,rfl,rfl⟩:=hv
  let T9:=ToR.mk ({y88 with Early:=r102}:To) s104
  refine lr (Ev.fo 1 rfl U41 rfl Z39 rfl rfl)<|lst 2 rfl rfl rfl Z39 (vs:=[Sl.v s104]) rfl rfl rfl (cs':=enc T9) ((ToR.put_Early (Put.here (vs:=[Sl.v s104]) rfl)).off rfl) rfl<|nsr<|lr (Ev.loadA (i:=2) rfl rfl I41 Z41 (ch:=enc T9) el gh0)<|mv1 rfl<|lst 6 rfl rfl rfl Z41 (vs:=enc T9) rfl el (Enc.one _) (cs':=enc T9) phl rfl<|as1 rfl<|as1 rfl<|nt0 ?_
  obtain rfl:=si H
  refine Cd.ret ?_
  exact At.ret3 rfl (Res.cellA (i:=6) rfl rfl I41 Z41 el) (Res.tmp rfl) (Res.tmp rfl) (ft (ft T10 hF94) hF107) (sk2 (sc8 rl)) ⟨s104,s89,rfl,rfl⟩
 refine Cd.condT rfl hb101<|Cd.skip<|At.then<|Cd.block<|sr0<|mv1 rfl<|lr (Ev.fo 1 rfl U41 rfl Z39 rfl rfl)<|lr (Ev.load (i:=1) rfl rfl I39 (v:=Sl.v s91) ((ToR.get_Early gh0).off rfl)) ?_
 obtain ⟨x108,h109,H⟩:=bs H
 have g110:=lat_some h109
 refine lr (Ev.indexS (α:=Parcel) (xs:=l92) rfl rfl U39 Z146 rfl (by decide) (rdo 3 rfl rfl rfl) g110.1 g110.2.1)<|lr (Ev.fieldS (α:=Parcel) (f':=(0:Int).toNat * 2+1) rfl (rdo 3 rfl rfl rfl) ((Get.elemN (s:=2) (x:=x108) rfl g110.2.2 gh0).off (by omega)) rfl U146 rfl Z9 rfl rfl rfl)<|lr (Ev.loadS (α:=Parcel) rfl (rdo 3 rfl rfl rfl) I9 (v:=Str.v x108.Text) ((Get.elemN (s:=2) (x:=x108) rfl g110.2.2 (Parcel.get_Text gh0)).off (by omega))) ?_
 refine Lst.buildSlice (α:=Str) (xs:=([x108.Text]:List Str)) (pv:=[(0,Str.v x108.Text)]) rfl rfl (by decide) ⟨rfl,rfl,trivial⟩ (run_buildSlice (α:=Str) (z0:=([]:Str)) (xs:=([x108.Text]:List Str)) U43 Z9 Tryz.zeroValue9 rfl rfl rfl (by decide) rfl (fill_one rfl rfl)) rfl rfl (by decide) (fun s111 _=>?_)
 obtain ⟨u113,h114,H⟩:=bs H
 refine Lst.append (i:=1) (α:=Str) (xs:=l90) (ys:=([x108.Text]:List Str)) rfl rfl (by decide) rfl rfl U43 Tryz.typeInfo9 rfl rfl rfl rfl rfl rfl (rdo 0 rfl rfl rfl) rfl (room_some h114) rfl (fun s115=>?_)
 refine as1 rfl<|nsr<|lr (Ev.fo 1 rfl U41 rfl Z39 rfl rfl)<|lr (Ev.load (i:=2) rfl rfl I39 (v:=Sl.v s91) ((ToR.get_Early gh0).off rfl)) ?_
 obtain ⟨m116,h117,H⟩:=bs H
 obtain ⟨g118,gl119⟩:=cutL_some h117
 try dsimp only at g118
 refine lr (Ev.cut (α:=Parcel) (xs:=l92) (i:=(1:Int)) (j:=(l92.length:Int)) rfl rfl rfl U39 Z146 rfl (by decide) (rdo 4 rfl rfl rfl) g118.1 g118.2.1 g118.2.2)<|Lst.cutOwn (i:=4) (α:=Parcel) (lo:=((1:Int):Int).toNat) (hi:=((l92.length:Int):Int).toNat) rfl rfl rfl (by decide) (by omega) (by omega) (L':=(.own s111 9 1 (encs ([x108.Text]:List Str)))::(.own s115 9 1 (encs (l90++([x108.Text]:List Str))))::(.blk b40 (enc (ToR.mk y88 s91)) 41)::T11::(.own T3 146 2 (encs m116))::T5::(.blk b6 (enc T0) 41)::T2::(.blk b3 (enc a1) 146)::T6::L) (by subst gl119; rfl)<|lr (Ev.fo 1 rfl U41 rfl Z39 rfl rfl)<|lst 2 rfl rfl rfl Z39 (vs:=[Sl.v T3]) rfl rfl rfl (cs':=enc (ToR.mk ({y88 with Early:=m116}:To) T3)) ((ToR.put_Early (Put.here (vs:=[Sl.v T3]) rfl)).off rfl) rfl<|nt0<|Cd.region<|lr (Ev.fo 0 rfl U41 rfl Z3 rfl rfl)<|lr (Ev.load (i:=2) rfl rfl I3 (v:=iv y88.Next) ((ToR.get_Next gh0).off rfl))<|lr (Ev.add rfl rfl)<|lr (Ev.fo 0 rfl U41 rfl Z3 rfl rfl) ?_
 obtain ⟨p121,h122,H⟩:=Let_some H
 refine lst 2 rfl rfl rfl Z3 (vs:=[iv (w64 (y88.Next+(1:Int)))]) rfl rfl rfl (cs':=enc (ToR.mk ({y88 with Next:=p121,Early:=m116}:To) T3)) (by (try dsimp +zetaDelta only); rw [← h122]; exact (ToR.put_Next (Put.here (vs:=[iv (w64 (y88.Next+(1:Int)))]) rfl)).off rfl) rfl<|Lst.nil<|At.in_normal<|At.less (sc1 rl) ?_
 exact At.meet (k87,({y88 with Next:=p121,Early:=m116}:To),s115,l90++([x108.Text]:List Str),T3,m116) hF94 ⟨rfl,rfl,rfl,trivial⟩ rfl ⟨hgo87 _ (sj H),nls⟩
def laysItoa_ren : Go.Shelf.Ren := ⟨fun | 171 => 55 | 243 => 109 | 246 => 167 | 283 => 210 | 284 => 211 | 285 => 212 | 286 => 213 | 129 => 249 | 317 => 248 | 318 => 250 | 319 => 251 | 320 => 252 | 337 => 280 | 338 => 281 | n => n, fun | 3 => 3 | 9 => 9 | 2 => 2 | 4 => 4 | 171 => 285 | 0 => 0 | 53 => 107 | 37 => 183 | 5 => 5 | 173 => 288 | 212 => 322 | 51 => 110 | 20 => 20 | 213 => 323 | 46 => 159 | 232 => 363 | 233 => 364 | n => n, fun | 17 => 1 | 18 => 6 | 19 => 7 | n => n⟩
theorem laysItoa : Go.Proofs.LaysM.n171 Tryz.prog laysItoa_ren := {
 mixed := by kernel_rfl
 f129 := Tryz.func249.trans (congrArg some (by kernel_rfl))
 f171 := Tryz.func55.trans (congrArg some (by kernel_rfl))
 f243 := Tryz.func109.trans (congrArg some (by kernel_rfl))
 f246 := Tryz.func167.trans (congrArg some (by kernel_rfl))
 f283 := Tryz.func210.trans (congrArg some (by kernel_rfl))
 f284 := Tryz.func211.trans (congrArg some (by kernel_rfl))
 f285 := Tryz.func212.trans (congrArg some (by kernel_rfl))
 f286 := Tryz.func213.trans (congrArg some (by kernel_rfl))
 f317 := Tryz.func248.trans (congrArg some (by kernel_rfl))
 f318 := Tryz.func250.trans (congrArg some (by kernel_rfl))
 f319 := Tryz.func251.trans (congrArg some (by kernel_rfl))
 f320 := Tryz.func252.trans (congrArg some (by kernel_rfl))
 f337 := Tryz.func280.trans (congrArg some (by kernel_rfl))
 f338 := Tryz.func281.trans (congrArg some (by kernel_rfl))
 t0 := Tryz.underlying0
 a0 := Tryz.isAgg0
 z0 := Tryz.sizeOf0
 v0 := Tryz.zeroValue0
 t2 := Tryz.underlying2
 a2 := Tryz.isAgg2
 z2 := Tryz.sizeOf2
 v2 := Tryz.zeroValue2
 t3 := Tryz.underlying3
 a3 := Tryz.isAgg3
 z3 := Tryz.sizeOf3
 v3 := Tryz.zeroValue3
 t4 := Tryz.underlying4
 a4 := Tryz.isAgg4
 z4 := Tryz.sizeOf4
 v4 := Tryz.zeroValue4
 t5 := Tryz.underlying5
 a5 := Tryz.isAgg5
 z5 := Tryz.sizeOf5
 v5 := Tryz.zeroValue5
 t9 := Tryz.underlying9
 a9 := Tryz.isAgg9
 z9 := Tryz.sizeOf9
 v9 := Tryz.zeroValue9
 t20 := Tryz.underlying20
 a20 := Tryz.isAgg20
 z20 := Tryz.sizeOf20
 v20 := Tryz.zeroValue20
 t37 := Tryz.underlying183
 a37 := Tryz.isAgg183
 z37 := Tryz.sizeOf183
 v37 := Tryz.zeroValue183
 t46 := Tryz.underlying159
 a46 := Tryz.isAgg159
 z46 := Tryz.sizeOf159
 v46 := Tryz.zeroValue159
 t51 := Tryz.underlying110
 a51 := Tryz.isAgg110
 z51 := Tryz.sizeOf110
 v51 := Tryz.zeroValue110
 t53 := Tryz.underlying107
 a53 := Tryz.isAgg107
 z53 := Tryz.sizeOf107
 v53 := Tryz.zeroValue107
 t171 := Tryz.underlying285
 a171 := Tryz.isAgg285
 z171 := Tryz.sizeOf285
 v171 := Tryz.zeroValue285
 t173 := Tryz.underlying288
 a173 := Tryz.isAgg288
 z173 := Tryz.sizeOf288
 v173 := Tryz.zeroValue288
 t212 := Tryz.underlying322
 a212 := Tryz.isAgg322
 z212 := Tryz.sizeOf322
 v212 := Tryz.zeroValue322
 t213 := Tryz.underlying323
 a213 := Tryz.isAgg323
 z213 := Tryz.sizeOf323
 t232 := Tryz.underlying363
 a232 := Tryz.isAgg363
 z232 := Tryz.sizeOf363
 v232 := Tryz.zeroValue363
 t233 := Tryz.underlying364
 a233 := Tryz.isAgg364
 z233 := Tryz.sizeOf364
 v233 := Tryz.zeroValue364
 g17 := by kernel_rfl
 g18 := by kernel_rfl
 g19 := by kernel_rfl
 i0 := by kernel_rfl
 i2 := by kernel_rfl
 i3 := by kernel_rfl
 i4 := by kernel_rfl
 i5 := by kernel_rfl
 i9 := by kernel_rfl
 i20 := by kernel_rfl
 i37 := by kernel_rfl
 i46 := by kernel_rfl
 i51 := by kernel_rfl
 i53 := by kernel_rfl
 i171 := by kernel_rfl
 i173 := by kernel_rfl
 i212 := by kernel_rfl
 i232 := by kernel_rfl
 i233 := by kernel_rfl
 m17 := by kernel_rfl
 m18 := by kernel_rfl
 m19 := by kernel_rfl }
theorem strconv_Itoa_sim {a0:Int} {r:Str} (H:strconv_Itoa a0=some r) (w0:World) (F:Frz) (M L:List Item) (hM:M.Sublist L) (hT:Tab Tryz.prog w0):Ok Tryz.prog w0 55 [iv a0] F L (Is (Str.v r) L) :=
  Ok.itoa H hT (show Tryz.prog.globalNamed "internal/strconv.uint64pow10"=some 1 by kernel_rfl) fun n h0 h1 w ht=>Any.strconv_Itoa laysItoa n h0 h1 w ht
theorem world_World_order_sim {fu:Nat} {a0:Wld} {a1:Note} {ba0:Nat} {sa0x1:Sl} {ra0x1:List ProcessR} {sa0x2:Sl} {sa0x3:Sl} {r:(List Procs)×(List Str)×(List Str)×Wld} (H:world_World_order fu a0 a1=some r) (w0:World) (F:Frz) (M L:List Item) (hM:M.Sublist L) (hT:Tab Tryz.prog w0) (ma0x1:ra0x1.map ProcessR.v=a0.all) (na0x1:All ProcessR.frel w0 F [] ra0x1):Ok Tryz.prog w0 119 [pv ba0 0,.agg (enc a1).toArray] F ((.rows (α:=Saying) 62 (List.map ProcessR.row ra0x1))::(.own sa0x1 100 8 (encs ra0x1))::(.own sa0x2 9 1 (encs a0.ordered))::(.own sa0x3 9 1 (encs a0.way))::(.blk ba0 (enc (WldR.mk a0 sa0x1 sa0x2 sa0x3)) 95)::L) (fun Fx L' v=>∃ (rs6:List ProcessR) (s9:Sl) (s10:Sl),v=.tuple #[]∧L'=(.rows (α:=Saying) 62 (List.map ProcessR.row rs6))::(.own sa0x1 100 8 (encs rs6))::(.own s9 9 1 (encs r.2.1))::(.own s10 9 1 (encs r.2.2.1))::(.blk ba0 (enc (WldR.mk ({r.2.2.2 with all:=r.1,ordered:=r.2.1,way:=r.2.2.1}:Wld) sa0x1 s9 s10)) 95)::L∧rs6.map ProcessR.v=r.1∧All ProcessR.frel w0 Fx [] rs6):=by
 let T17:=ToR.mk ({To.zero with Early:=([]:List Parcel)}:To) Sl.nil
 let T13:Item:=.own Sl.nil 146 2 (encs ([]:List Parcel))
 let T10:=({Parcel.zero with Seq:=a1.Seq,Text:=a1.Text}:Parcel)
 let T7:Item:=.own sa0x1 100 8 (encs ra0x1)
 let T6:Item:=.own sa0x3 9 1 (encs a0.way)
 let T5:Item:=.own sa0x2 9 1 (encs a0.ordered)
 let T4:Item:=.blk ba0 (enc (WldR.mk a0 sa0x1 sa0x2 sa0x3)) 95
 let T1:Item:=.rows (α:=Saying) 62 (List.map ProcessR.row ra0x1)
 unfold world_World_order at H
 refine Ok.enter (m:=2) (n:=99) Tryz.func119 rfl rfl rfl (by decide)<|Cd.env (e':=[(0,pv ba0 0),(1,.agg (enc a1).toArray)]) rfl<|sr0 ?_
 refine Lst.box rfl rfl (by decide) rfl (cs:=enc a1) rfl (fun b6=>?_)
 refine nt0<|Cd.seq<|Cd.quiet (by kernel_rfl) (by kernel_rfl)<|qr (Ev.move rfl)<|qr (Ev.nilCheck rfl)<|qr (Ev.fo 2 rfl U95 rfl Z93 rfl rfl)<|qr (Ev.load (i:=5) rfl rfl I93 (v:=Sl.v sa0x1) ((WldR.get_all gh0).off rfl))<|qr (Ev.fo 1 rfl U132 rfl Z3 rfl rfl)<|qr (Ev.load (i:=0) rfl rfl I3 (v:=iv a1.From) ((Note.get_From gh0).off rfl)) ?_
 obtain ⟨x8,h9,H⟩:=bs H
 have g10:=lat_some h9
 obtain ⟨⟨r11v,r11h1,⟨r11_2v,r11_2h1⟩,⟨r11_3v,r11_3h1⟩,⟨r11_4v,r11_4h1⟩⟩,r11g,r11e,r11m⟩:=map_get ma0x1 g10.2.2
 let T16:=ToR.mk x8.orders r11_4h1
 let T11:=ProcessR.mk x8 r11h1 (FromR.mk x8.from_ r11_2h1) (ToR.mk x8.to r11_3h1) T16
 obtain rfl:x8=r11v:=r11e.symm
 have r11q:ProcessR.frel w0 _ _ (ProcessR.mk x8 r11h1 (FromR.mk r11_2v r11_2h1) (ToR.mk r11_3v r11_3h1) (ToR.mk r11_4v r11_4h1)):=na0x1 _ r11m
 obtain ⟨r11_i2,r11_i3,r11_i4⟩:=r11q
 obtain ⟨r11_2e,r11_2q⟩:=r11_i2
 obtain rfl:r11_2v=x8.from_:=r11_2e
 have r11_2_f1:Rd w0 _ _ _ _:=r11_2q
 obtain ⟨r11_3e,r11_3q⟩:=r11_i3
 obtain rfl:r11_3v=x8.to:=r11_3e
 have r11_3_f1:Rd w0 _ _ _ _:=r11_3q
 obtain ⟨r11_4e,r11_4q⟩:=r11_i4
 obtain rfl:r11_4v=x8.orders:=r11_4e
 have r11_4_f1:Rd w0 _ _ _ _:=r11_4q
 have r11wg:=map_at ProcessR.row r11g
 refine qr (Ev.indexS (α:=ProcessR) (xs:=ra0x1) rfl rfl U93 Z100 rfl (by decide) (rdo 2 rfl rfl rfl) g10.1 (by have:=map_len ma0x1; omega))<|qr (Ev.assign rfl)<|Qt.done<|At.then<|Cd.seq ?_
 obtain ⟨r12,h13,H⟩:=bs H
 obtain ⟨o29,h30,H⟩:=Let_some H
 refine Cd.headMeet (σ:=Nat×Sl×(List Parcel)×Sl×(List Str)) 17 (fun (b24,s25,l26,s27,l28)=>[(0,pv ba0 0),(3,pv b6 0),(4,Sl.at sa0x1 (a1.From.toNat * 8)),(5,pv b24 0),(6,Sl.v s27),(33,iv r12.2.2)]) (fun (b24,s25,l26,s27,l28)=>(.blk b24 (enc (ToR.mk ({r12.1 with Early:=l26}:To) s25)) 41)::(.own s25 146 2 (encs l26))::(.own s27 9 1 (encs l28))::(.blk b6 (enc a1) 132)::T1::T7::T5::T6::T4::L) (fun _ (b24,s25,l26,s27,l28)=>(l26,l28)=o29) (by kernel_rfl) (by kernel_rfl) (behind_sink (by kernel_rfl) (by kernel_rfl) (by kernel_rfl)) (by kernel_rfl) (fun hsel hlt=>?_) ?_
 ·refine HdJ.keep (fun w=>St w0 F ((.blk b6 (enc a1) 132)::T1::T7::T5::T6::T4::L) w) (fun w h=>trivial)<|hts rfl hsel hlt 0 rl rfl (Ev.move rfl)<|hts rfl hsel hlt 1 rl rfl (Ev.nilCheckS (α:=ProcessR) rfl (rdo 2 rfl rfl rfl) ((Get.elemN (s:=8) rfl r11g gh0).off (by omega)) rfl)<|hts rfl hsel hlt 2 rl rfl (Ev.fieldS (α:=ProcessR) (f':=a1.From.toNat * 8+6) rfl (rdo 2 rfl rfl rfl) ((Get.elemN (s:=8) rfl r11g gh0).off (by omega)) rfl U100 rfl Z41 rfl rfl rfl)<|hts rfl hsel hlt 3 rl rfl (Ev.loadSA (α:=ProcessR) rfl (rdo 2 rfl rfl rfl) I41 Z41 (ch:=enc T16) el (by decide) ((Get.elemN (s:=8) rfl r11g (ProcessR.get_orders gh0)).off (by omega)))<|hts rfl hsel hlt 4 rl rfl (Ev.fo 4 rfl U132 rfl Z3 rfl rfl)<|hts rfl hsel hlt 5 rl rfl (Ev.load (i:=0) rfl rfl I3 (v:=iv a1.Seq) ((Note.get_Seq gh0).off rfl))<|hts rfl hsel hlt 6 rl rfl (Ev.fo 11 rfl U132 rfl Z9 rfl rfl)<|hts rfl hsel hlt 7 rl rfl (Ev.load (i:=0) rfl rfl I9 (v:=Str.v a1.Text) ((Note.get_Text gh0).off rfl))<|hts rfl hsel hlt 8 rl rfl (Ev.build (v:=.agg (enc T10).toArray) (pv:=[(0,iv a1.Seq),(1,Str.v a1.Text)]) ⟨rfl,rfl,⟨rfl,rfl,trivial⟩⟩ (fun w=>by kernel_rfl))<|HdJ.step [9,14] (by kernel_rfl) rfl ?_
  refine HdStep.c (fun inv=>?_) ?_
  ·refine cl rfl (vs:=[.agg (enc T16).toArray,.agg (enc T10).toArray]) ⟨rfl,rfl,trivial⟩ Tryz.call176 (lane_Take_sim h13 w0 _ M _ (sc4 (sc2 hM)) (r11_4_f1.mono fl nsl)) (fun F33 L' v hF34 hv=>?_)
   obtain ⟨s31,s32,rfl,rfl⟩:=hv
   refine Lst.nil<|At.hd inv (fun w h=>(h.weaken hF34).sublist (sc2 rl))<|HdJ.keep (fun w=>St w0 F33 ((.own s31 146 2 (encs r12.1.Early))::(.own s32 9 1 (encs r12.2.1))::(.blk b6 (enc a1) 132)::T1::T7::T5::T6::T4::L) w) (fun w h=>(h.weaken hF34).sublist (sc2 rl))<|hts rfl hsel hlt 10 rl rfl (Ev.move rfl)<|hts rfl hsel hlt 11 rl rfl (Ev.extract rfl rfl)<|hts rfl hsel hlt 12 rl rfl (Ev.extract rfl rfl)<|hts rfl hsel hlt 13 rl rfl (Ev.extract rfl rfl) ?_
   refine HdJ.o1 14 (fun inv=>?_)
   refine Lst.addNil 146 2 ?_
   refine Lst.alloc (cs:=enc T17) rfl rfl (by decide) Tryz.zeroValue41 rfl (fun b35=>?_)
   refine hds inv (sc2 rl) ?_
   refine HdJ.o1 15 (fun inv=>?_)
   refine lst 0 rfl rfl rfl Z41 (vs:=enc (ToR.mk r12.1 s31)) rfl el (Enc.one _) (cs':=enc (ToR.mk r12.1 s31)) phl rfl<|hds inv (sc2 rl)<|HdJ.keep (fun w=>St w0 F33 ((.blk b35 (enc (ToR.mk r12.1 s31)) 41)::T13::(.own s31 146 2 (encs r12.1.Early))::(.own s32 9 1 (encs r12.2.1))::(.blk b6 (enc a1) 132)::T1::T7::T5::T6::T4::L) w) (fun w h=>(h.weaken fl).sublist (sc2 rl))<|hts rfl hsel hlt 16 rl rfl (Ev.assign rfl)<|HdJ.done (by kernel_rfl)<|At.less (sk1 (sc1 rl)) ?_
   exact At.meetN (b35,s31,r12.1.Early,s32,r12.2.1) hF34 ⟨rfl,rfl,rfl,rfl,rfl,rfl,trivial⟩ rfl h30
  refine HdStep.c (fun inv=>?_) trivial
  refine Lst.addNil 146 2 ?_
  refine Lst.alloc (cs:=enc T17) rfl rfl (by decide) Tryz.zeroValue41 rfl (fun b36=>?_)
  refine hds inv (sc2 rl) ?_
  refine HdJ.o1 9 (fun inv=>?_)
  refine cl rfl (vs:=[.agg (enc T16).toArray,.agg (enc T10).toArray]) ⟨rfl,rfl,trivial⟩ Tryz.call176 (lane_Take_sim h13 w0 _ M _ (sc8 hM) (r11_4_f1.mono fl nsl)) (fun F39 L' v hF40 hv=>?_)
  obtain ⟨s37,s38,rfl,rfl⟩:=hv
  refine Lst.nil<|At.hd inv (fun w h=>(h.weaken hF40).sublist (sc4 rl))<|HdJ.keep (fun w=>St w0 F39 ((.own s37 146 2 (encs r12.1.Early))::(.own s38 9 1 (encs r12.2.1))::T13::(.blk b6 (enc a1) 132)::T1::T7::T5::T6::T4::L) w) (fun w h=>(h.weaken hF40).sublist (sc1 (sc2 rl)))<|hts rfl hsel hlt 10 (sk2 (sc1 rl)) rfl (Ev.move rfl)<|hts rfl hsel hlt 11 (sk2 (sc1 rl)) rfl (Ev.extract rfl rfl)<|hts rfl hsel hlt 12 (sk2 (sc1 rl)) rfl (Ev.extract rfl rfl)<|hts rfl hsel hlt 13 (sk2 (sc1 rl)) rfl (Ev.extract rfl rfl) ?_
  refine HdJ.o1 15 (fun inv=>?_)
  refine lst 2 rfl rfl rfl Z41 (vs:=enc (ToR.mk r12.1 s37)) rfl el (Enc.one _) (cs':=enc (ToR.mk r12.1 s37)) phl rfl<|hds inv (sk2 (sc1 rl))<|HdJ.keep (fun w=>St w0 F39 ((.own s37 146 2 (encs r12.1.Early))::(.own s38 9 1 (encs r12.2.1))::(.blk b36 (enc (ToR.mk r12.1 s37)) 41)::T13::(.blk b6 (enc a1) 132)::T1::T7::T5::T6::T4::L) w) (fun w h=>(h.weaken fl).sublist (sk2 (sc1 rl)))<|hts rfl hsel hlt 16 rl rfl (Ev.assign rfl)<|HdJ.done (by kernel_rfl)<|af 2 rfl<|At.less (sk1 (sk2 (sc1 rl))) ?_
  exact At.meetN (b36,s37,r12.1.Early,s38,r12.2.1) hF40 ⟨rfl,rfl,rfl,rfl,rfl,rfl,trivial⟩ rfl h30
 rintro F41 ⟨b24,s25,l26,s27,l28⟩ hF42 hy
 let T3:=ToR.mk ({r12.1 with Early:=l26}:To) s25
 let T0:=ProcessR.mk ({x8 with orders:=({r12.1 with Early:=l26}:To)}:Procs) r11h1 (FromR.mk x8.from_ r11_2h1) (ToR.mk x8.to r11_3h1) T3
 let T2:=ra0x1.set a1.From.toNat T0
 let T14:Item:=.own sa0x1 100 8 (encs T2)
 let T12:Item:=.rows (α:=Saying) 62 (List.map ProcessR.row T2)
 subst hy
 try dsimp only at H
 refine as1 rfl<|nt0<|Cd.seq<|sr0<|mv1 rfl<|lr (Ev.neq rfl rfl)<|nt0 ?_
 rcases ic H with ⟨hb43,H⟩|⟨hb43,H⟩
 ·refine Cd.condT rfl hb43 ?_
  obtain rfl:=si H
  refine Cd.ret<|At.then_ret ?_
  exact At.ret0 (.inl rfl) rfl hF42 (sc4 rl) ⟨ra0x1,sa0x2,sa0x3,rfl,rfl,ma0x1,(All.monoProcessF na0x1 hF42 nsl)⟩
 refine Cd.condF rfl hb43<|Cd.skip<|At.then<|sr0<|mv1 rfl<|lr (Ev.nilCheckS (α:=ProcessR) rfl (rdo 5 rfl rfl rfl) ((Get.elemN (s:=8) rfl r11g gh0).off (by omega)) rfl)<|lr (Ev.fieldS (α:=ProcessR) (f':=a1.From.toNat * 8+6) rfl (rdo 5 rfl rfl rfl) ((Get.elemN (s:=8) rfl r11g gh0).off (by omega)) rfl U100 rfl Z41 rfl rfl rfl)<|lr (Ev.fieldS (α:=ProcessR) (f':=a1.From.toNat * 8+6+0) rfl (rdo 5 rfl rfl rfl) ((Get.elemN (s:=8) rfl r11g (ProcessR.get_orders gh0)).off (by omega)) rfl U41 rfl Z3 rfl rfl rfl)<|lr (Ev.loadS (α:=ProcessR) rfl (rdo 5 rfl rfl rfl) I3 (v:=iv x8.orders.Next) ((Get.elemN (s:=8) rfl r11g (ProcessR.get_orders (ToR.get_Next gh0))).off (by omega)))<|as1 rfl<|nsr ?_
 refine mv1 rfl<|lr (Ev.loadA (i:=0) rfl rfl I41 Z41 (ch:=enc T3) el gh0)<|lr (Ev.nilCheckS (α:=ProcessR) rfl (rdo 5 rfl rfl rfl) ((Get.elemN (s:=8) rfl r11g gh0).off (by omega)) rfl)<|lr (Ev.fieldS (α:=ProcessR) (f':=a1.From.toNat * 8+6) rfl (rdo 5 rfl rfl rfl) ((Get.elemN (s:=8) rfl r11g gh0).off (by omega)) rfl U100 rfl Z41 rfl rfl rfl) ?_
 obtain ⟨p48,h49,H⟩:=Let_some H
 let T15:Item:=.blk ba0 (enc (WldR.mk ({a0 with all:=p48}:Wld) sa0x1 sa0x2 sa0x3)) 95
 have hm50:T2.map ProcessR.v=p48:=(map_set ma0x1 _ _).trans h49
 refine Lst.freeze (i:=1) rfl (fun F44 hF45 hz46=>?_)
 have hq47:Rd w0 F44 [] s25 l26:=Rd.frozen hz46 rfl rfl
 have ha51:All ProcessR.frel w0 F44 [] T2:=All.set (All.monoProcessF na0x1 (ft hF42 hF45) nsl) (⟨⟨rfl,(r11_2_f1.mono (ft hF42 hF45) nsl)⟩,⟨rfl,(r11_3_f1.mono (ft hF42 hF45) nsl)⟩,⟨rfl,(hq47.mono fl nsl)⟩⟩)
 refine Lst.storeS (i:=4) rfl rfl rfl rfl rfl Z41 (vs:=enc T3) rfl el (by decide) (Enc.one _) (xs':=encs T2) ((Put.elemN (s:=8) (x:=T11) (y:=T0) rfl r11g (ProcessR.put_orders (p:=T11) (l:=({r12.1 with Early:=l26}:To)) phl)).off (by omega)) (L':=(.blk b24 (enc T3) 41)::(.own s27 9 1 (encs l28))::(.blk b6 (enc a1) 132)::T1::T14::T5::T6::T15::L) rfl<|Lst.its (L':=(.blk b24 (enc T3) 41)::(.own s27 9 1 (encs l28))::(.blk b6 (enc a1) 132)::T12::T14::T5::T6::T15::L) (by dsimp +zetaDelta only; rw [map_set_same (y:=T0) r11g rfl] <;> rfl)<|nsr<|mv1 rfl<|lr (Ev.lenS (α:=Str) (xs:=l28) (by decide) rfl rfl U43 (rdo 1 rfl rfl rfl))<|mv1 rfl<|nt0<|Cd.block ?_
 refine Cd.bound (Rd.le (α:=Str) (xs:=l28) (by decide) (rdo 1 rfl rfl rfl)) (fun hN106=>?_)
 obtain ⟨ol52,H,HKl52⟩:=bs H
 refine Cd.loop (σ:=Nat×Nat×Wld×Sl×(List Str)×Sl×(List Str)) (fun (i52,k52,y53,s54,l55,s56,l57)=>[(0,pv ba0 0),(3,pv b6 0),(8,iv x8.orders.Next),(45,Sl.v s27),(46,iv (l28.length:Int)),(47,iv (i52:Int))]) (fun (i52,k52,y53,s54,l55,s56,l57)=>(.blk b24 (enc T3) 41)::(.own s27 9 1 (encs l28))::(.blk b6 (enc a1) 132)::T12::T14::(.own s54 9 1 (encs l55))::(.own s56 9 1 (encs l57))::(.blk ba0 (enc (WldR.mk ({y53 with all:=p48,ordered:=l55,way:=l57}:Wld) sa0x1 s54 s56)) 95)::L) (fun _=>(fun (i52,k52,y53,s54,l55,s56,l57)=>rangeF (world_World_order_B0 a1 x8 l28 p48) k52 i52 (y53,l55,l57)=some ol52∧i52+k52=l28.length)) (fun (i52,k52,y53,s54,l55,s56,l57)=>k52) (0,l28.length,({a0 with all:=p48}:Wld),sa0x2,a0.ordered,sa0x3,a0.way) ⟨rfl,rfl,rfl,rfl,rfl,rfl,trivial⟩ rfl ⟨H,by omega⟩ ?_
 rintro F58 ⟨i52,k52,y53,s54,l55,s56,l57⟩ hF59 ⟨H,hik52⟩
 rcases k52 with _ | k52
 ·have hc52:decide ((i52:Int) < (l28.length:Int))=false:=decide_eq_false (by omega)
  replace H:=rangeF_end H
  refine sr0<|lr (Ev.lss rfl rfl)<|nt0<|Cd.seq<|Cd.condF rfl hc52<|Cd.exit<|At.then_exit<|At.then_exit<|At.in_exit ?_
  subst H
  replace H:=HKl52
  try dsimp only [Sum.elim_inl] at H
  obtain rfl:=si H
  exact At.ret0 (.inr rfl) rfl (ft (ft hF42 hF45) hF59) (sc1 (sc2 rl)) ⟨T2,s54,s56,rfl,rfl,hm50,(All.monoProcessF ha51 hF59 nsl)⟩
 have hc52:decide ((i52:Int) < (l28.length:Int))=true:=decide_eq_true (by omega)
 obtain ⟨c52,H,hgo52⟩:=rangeF_go H
 unfold world_World_order_B0 at H
 try dsimp only at H
 refine sr0<|lr (Ev.lss rfl rfl)<|nt0<|Cd.seq<|Cd.condT rfl hc52<|Cd.skip<|At.then<|Cd.seq<|Cd.block<|sr0<|mv1 rfl ?_
 obtain ⟨x60,h61,H⟩:=bs H
 have g62:=lat_some h61
 refine lr (Ev.indexS (α:=Str) (xs:=l28) rfl rfl U43 Z9 rfl (by decide) (rdo 1 rfl rfl rfl) g62.1 g62.2.1)<|lr (Ev.loadS (α:=Str) rfl (rdo 1 rfl rfl rfl) I9 (v:=Str.v x60) ((Get.elemN (s:=1) (x:=x60) rfl g62.2.2 gh0).off (by omega)))<|as1 rfl<|as1 rfl<|nsr<|lr (Ev.fo 1 rfl U132 rfl Z3 rfl rfl)<|lr (Ev.load (i:=2) rfl rfl I3 (v:=iv a1.From) ((Note.get_From gh0).off rfl)) ?_
 obtain ⟨r63,h64,H⟩:=bs H
 refine cl1 rfl (vs:=[iv a1.From]) ⟨rfl,trivial⟩ Tryz.call55 (strconv_Itoa_sim h64 w0 _ M _ (sc8 hM) hT) ?_
 obtain ⟨u67,h68,H⟩:=bs H
 refine lr (Ev.addStr (s:=r63) (m:=([58]:Str)) rfl rfl (room_some h68))<|mv1 rfl<|mv1 rfl<|lr (Ev.add rfl rfl) ?_
 obtain ⟨r69,h70,H⟩:=bs H
 let T8:=({y53 with all:=p48,ordered:=l55++([(((r63++([58]:Str))++r69)++([58]:Str))++x60]:List Str),way:=l57}:Wld)
 refine cl1 rfl (vs:=[iv (w64 (x8.orders.Next+(i52:Int)))]) ⟨rfl,trivial⟩ Tryz.call55 (strconv_Itoa_sim h70 w0 _ M _ (sc8 hM) hT) ?_
 obtain ⟨u73,h74,H⟩:=bs H
 refine lr (Ev.addStr (s:=r63++([58]:Str)) (m:=r69) rfl rfl (room_some h74)) ?_
 obtain ⟨u75,h76,H⟩:=bs H
 refine lr (Ev.addStr (s:=(r63++([58]:Str))++r69) (m:=([58]:Str)) rfl rfl (room_some h76))<|mv1 rfl ?_
 obtain ⟨u77,h78,H⟩:=bs H
 refine lr (Ev.addStr (s:=((r63++([58]:Str))++r69)++([58]:Str)) (m:=x60) rfl rfl (room_some h78))<|as1 rfl<|nsr<|mv1 rfl<|mv1 rfl<|lr (Ev.nilCheck rfl)<|lr (Ev.fo 3 rfl U95 rfl Z43 rfl rfl)<|lr (Ev.load (i:=7) rfl rfl I43 (v:=Sl.v s54) ((WldR.get_ordered gh0).off rfl))<|mv1 rfl ?_
 refine Lst.buildSlice (α:=Str) (xs:=([(((r63++([58]:Str))++r69)++([58]:Str))++x60]:List Str)) (pv:=[(0,Str.v ((((r63++([58]:Str))++r69)++([58]:Str))++x60))]) rfl rfl (by decide) ⟨rfl,rfl,trivial⟩ (run_buildSlice (α:=Str) (z0:=([]:Str)) (xs:=([(((r63++([58]:Str))++r69)++([58]:Str))++x60]:List Str)) U43 Z9 Tryz.zeroValue9 rfl rfl rfl (by decide) rfl (fill_one rfl rfl)) rfl rfl (by decide) (fun s79 _=>?_)
 obtain ⟨u81,h82,H⟩:=bs H
 refine Lst.append (i:=6) (α:=Str) (xs:=l55) (ys:=([(((r63++([58]:Str))++r69)++([58]:Str))++x60]:List Str)) rfl rfl (by decide) rfl rfl U43 Tryz.typeInfo9 rfl rfl rfl rfl rfl rfl (rdo 0 rfl rfl rfl) rfl (room_some h82) rfl (fun s83=>?_)
 refine lr (Ev.nilCheck rfl)<|lr (Ev.fo 3 rfl U95 rfl Z43 rfl rfl)<|lst 8 rfl rfl rfl Z43 (vs:=[Sl.v s83]) rfl rfl rfl (cs':=enc (WldR.mk T8 sa0x1 s83 s56)) ((WldR.put_ordered (Put.here (vs:=[Sl.v s83]) rfl)).off rfl) rfl<|nsr<|mv1 rfl<|lr (Ev.nilCheck rfl)<|lr (Ev.fo 2 rfl U95 rfl Z93 rfl rfl)<|lr (Ev.load (i:=8) rfl rfl I93 (v:=Sl.v sa0x1) ((WldR.get_all gh0).off rfl))<|lr (Ev.lenM (map_len hm50) (Ev.lenS (α:=ProcessR) (xs:=T2) (by decide) rfl rfl U93 (rdo 5 rfl rfl rfl)))<|mv1 rfl<|nt0 ?_
 refine Cd.block ?_
 refine Cd.bound (Rd.le (α:=ProcessR) (xs:=T2) (by decide) (rdo 5 rfl rfl rfl)) (fun hN105=>?_)
 rw [map_len hm50] at hN105
 obtain ⟨ol85,H,HKl85⟩:=bs H
 refine Cd.loop (σ:=Nat×Nat×Wld×Sl×(List Str)) (fun (i85,k85,y86,s87,l88)=>[(0,pv ba0 0),(3,pv b6 0),(8,iv x8.orders.Next),(11,Str.v ((((r63++([58]:Str))++r69)++([58]:Str))++x60)),(45,Sl.v s27),(46,iv (l28.length:Int)),(47,iv (i52:Int)),(78,iv (p48.length:Int)),(79,iv (i85:Int))]) (fun (i85,k85,y86,s87,l88)=>(.own s79 9 1 (encs ([(((r63++([58]:Str))++r69)++([58]:Str))++x60]:List Str)))::(.blk b24 (enc T3) 41)::(.own s27 9 1 (encs l28))::(.blk b6 (enc a1) 132)::T12::T14::(.own s83 9 1 (encs (l55++([(((r63++([58]:Str))++r69)++([58]:Str))++x60]:List Str))))::(.own s87 9 1 (encs l88))::(.blk ba0 (enc (WldR.mk ({y86 with all:=p48,ordered:=l55++([(((r63++([58]:Str))++r69)++([58]:Str))++x60]:List Str),way:=l88}:Wld) sa0x1 s83 s87)) 95)::L) (fun _=>(fun (i85,k85,y86,s87,l88)=>rangeF (world_World_order_B2 p48 l55 x60 r63 r69) k85 i85 (y86,l88)=some ol85∧i85+k85=p48.length)) (fun (i85,k85,y86,s87,l88)=>k85) (0,p48.length,T8,s56,l57) ⟨rfl,rfl,rfl,rfl,rfl,rfl,rfl,rfl,rfl,trivial⟩ rfl ⟨H,by omega⟩ ?_
 rintro F89 ⟨i85,k85,y86,s87,l88⟩ hF90 ⟨H,hik85⟩
 let T9:=({y86 with all:=p48,ordered:=l55++([(((r63++([58]:Str))++r69)++([58]:Str))++x60]:List Str),way:=l88}:Wld)
 rcases k85 with _ | k85
 ·have hc85:decide ((i85:Int) < (p48.length:Int))=false:=decide_eq_false (by omega)
  replace H:=rangeF_end H
  refine sr0<|lr (Ev.lss rfl rfl)<|nt0<|Cd.seq<|Cd.condF rfl hc85<|Cd.exit<|At.then_exit<|At.then_exit<|At.in_exit ?_
  subst H
  replace H:=HKl85
  try dsimp only [Sum.elim_inl] at H
  refine At.in_normal<|At.then<|Cd.region<|lr (Ev.incr (by omega) rfl rfl)<|mv1 rfl<|Lst.nil<|At.less (sc1 rl) ?_
  exact At.meet (i52+1,k52,T9,s83,l55++([(((r63++([58]:Str))++r69)++([58]:Str))++x60]:List Str),s87,l88) (ft hF59 hF90) ⟨rfl,rfl,rfl,rfl,rfl,rfl,trivial⟩ rfl ⟨⟨hgo52 _ (sj H),by omega⟩,nls⟩
 have hc85:decide ((i85:Int) < (p48.length:Int))=true:=decide_eq_true (by omega)
 obtain ⟨c85,H,hgo85⟩:=rangeF_go H
 unfold world_World_order_B2 at H
 try dsimp only at H
 refine sr0<|lr (Ev.lss rfl rfl)<|nt0<|Cd.seq<|Cd.condT rfl hc85<|Cd.skip<|At.then<|Cd.seq<|Cd.block<|sr0<|mv1 rfl ?_
 refine as1 rfl<|nsr<|mv1 rfl<|mv1 rfl ?_
 obtain ⟨r91,h92,H⟩:=bs H
 refine lf 8 rfl<|lf 8 rfl<|lf 8 rfl<|lf 8 rfl<|lf 8 rfl<|cl1 rfl (vs:=[pv ba0 0,iv (i85:Int)]) ⟨rfl,rfl,trivial⟩ Tryz.call65 (world_World_active_sim h92 w0 _ M _ (sc4 hM) hm50 (All.monoProcessF ha51 (ft hF59 hF90) nsl))<|nt0 ?_
 rcases ic2 H with ⟨hb95,H⟩|⟨hb95,H⟩
 ·refine Cd.condF rfl hb95<|Cd.skip<|At.in_normal<|At.then<|Cd.region<|lr (Ev.incr (by omega) rfl rfl)<|mv1 rfl<|Lst.nil<|af 8 rfl<|af 8 rfl<|af 8 rfl ?_
  refine af 8 rfl ?_
  exact At.meet (i85+1,k85,T9,s87,l88) hF90 ⟨rfl,rfl,rfl,rfl,rfl,rfl,rfl,rfl,rfl,trivial⟩ rfl ⟨⟨hgo85 _ (sj H),by omega⟩,nls⟩
 refine Cd.condT rfl hb95<|Cd.tail 11 (by kernel_rfl) (by kernel_rfl)<|qr (Ev.move rfl)<|qr (Ev.move rfl) ?_
 obtain ⟨r96,h97,H⟩:=bs H
 refine Qt.call rfl rfl (by decide) (vs:=[pv ba0 0]) ⟨rfl,trivial⟩ Tryz.call62 (world_World_sequencer_sim h97 w0 _ M _ (sc4 hM) hm50 (All.monoProcessF ha51 (ft hF59 hF90) nsl))<|qr (Ev.move rfl)<|qr (Ev.move rfl)<|qr (Ev.nilCheck rfl)<|qr (Ev.fo 3 rfl U95 rfl Z43 rfl rfl)<|qr (Ev.load (i:=4) rfl rfl I43 (v:=Sl.v s83) ((WldR.get_ordered gh0).off rfl))<|qr (Ev.lenS (α:=Str) (xs:=(l55++([(((r63++([58]:Str))++r69)++([58]:Str))++x60]:List Str))) (by decide) rfl rfl U43 (rdo 2 rfl rfl rfl))<|qr (Ev.sub rfl rfl)<|qr (Ev.move rfl)<|Qt.tail ?_
 obtain ⟨r100,h101,H⟩:=bs H
 refine cl rfl (vs:=[pv ba0 0,iv (2:Int),iv r96,iv (i85:Int),iv (w64 (((l55++([(((r63++([58]:Str))++r69)++([58]:Str))++x60]:List Str)).length:Int) - (1:Int))),Str.v ((((r63++([58]:Str))++r69)++([58]:Str))++x60)]) ⟨rfl,rfl,rfl,rfl,rfl,rfl,trivial⟩ Tryz.call61 (world_World_send_sim h101 w0 _ M _ (sc4 hM) hm50 (All.monoProcessF ha51 (ft hF59 hF90) nsl)) (fun F103 L' v hF104 hv=>?_)
 obtain ⟨s102,rfl,rfl⟩:=hv
 refine Lst.nil<|At.in_normal<|At.then<|Cd.region<|lr (Ev.incr (by omega) rfl rfl)<|mv1 rfl<|Lst.nil<|af 8 rfl<|af 8 rfl<|af 8 rfl<|af 8 rfl ?_
 exact At.meet (i85+1,k85,({r100.2 with all:=p48,ordered:=l55++([(((r63++([58]:Str))++r69)++([58]:Str))++x60]:List Str),way:=r100.1}:Wld),s102,r100.1) (ft hF90 hF104) ⟨rfl,rfl,rfl,rfl,rfl,rfl,rfl,rfl,rfl,trivial⟩ rfl ⟨⟨hgo85 _ (sj H),by omega⟩,nls⟩
theorem internal_stringslite_IndexByte_sim {a0:Str} {a1:BitVec 8} {r:Int} (H:internal_stringslite_IndexByte a0 a1=some r) (w0:World) (F:Frz) (M L:List Item) (hM:M.Sublist L):Ok Tryz.prog w0 233 [Str.v a0,.int .u8 a1.toNat] F (L) (Is (iv r) (L)):=by
 unfold internal_stringslite_IndexByte at H
 refine Ok.enter (m:=2) (n:=8) Tryz.func233 rfl rfl rfl (by decide)<|Cd.env (e':=[(0,Str.v a0),(1,.int .u8 a1.toNat)]) rfl<|sr0<|as1 rfl<|nsr<|mv1 rfl<|mv1 rfl<|lr (Ev.idxByte (s:=a0) (c:=a1) rfl rfl Tryz.func263 (by kernel_rfl) (by kernel_rfl) (by kernel_rfl) (by kernel_rfl))<|as1 rfl<|nt0 ?_
 obtain rfl:=si H
 refine Cd.ret ?_
 exact At.ret1 rfl (Res.tmp rfl) fl rl ⟨rfl,rfl⟩
theorem internal_stringslite_Index_sim {a0:Str} {a1:Str} {r:Int} (H:internal_stringslite_Index a0 a1=some r) (w0:World) (F:Frz) (M L:List Item) (hM:M.Sublist L):Ok Tryz.prog w0 189 [Str.v a0,Str.v a1] F (L) (Is (iv r) (L)):=by
 unfold internal_stringslite_Index at H
 refine Ok.enter (m:=2) (n:=143) Tryz.func189 rfl rfl rfl (by decide)<|Cd.env (e':=[(0,Str.v a0),(1,Str.v a1)]) rfl<|sr0<|as1 rfl<|nsr<|mv1 rfl<|lr (Ev.lenStr rfl rfl U9)<|as1 rfl<|nt0<|Cd.seq<|Cd.block ?_
 refine sr0<|mv1 rfl<|lr (Ev.eql rfl rfl)<|mv1 rfl ?_
 obtain ⟨o1,H,HKo1⟩:=bs H
 refine Lst.join (σ:=Bool) 4 (fun y2=>[(0,Str.v a0),(1,Str.v a1),(5,iv (a1.length:Int)),(23,.bool y2)]) (fun y2=>L) (fun _ y2=>y2=o1) ?_ ?_
 ·rcases ic H with ⟨hb3,H⟩|⟨hb3,H⟩
  ·refine lsk rfl hb3<|lsk rfl hb3<|lsk rfl hb3<|lr (Ev.pickT rfl hb3 rfl)<|Lst.nil ?_
   exact At.meet true fl ⟨rfl,rfl,rfl,rfl,trivial⟩ rfl (si H)
  refine lg hb3 (Ev.move rfl)<|lg hb3 (Ev.move rfl)<|lg hb3 (Ev.eqlStr (s:=a1) (m:=a0) rfl rfl)<|lr (Ev.pickF rfl hb3 rfl)<|Lst.nil ?_
  exact At.meet (decide (a1=a0)) fl ⟨rfl,rfl,rfl,rfl,trivial⟩ rfl (si H)
 rintro F4 y2 hF5 hy
 subst hy
 replace H:=HKo1
 refine as1 rfl<|nt0 ?_
 rcases ic H with ⟨hb6,H⟩|⟨hb6,H⟩
 ·refine Cd.condT rfl hb6<|sr0<|as1 rfl<|nt0 ?_
  obtain rfl:=si H
  refine Cd.ret<|At.in_ret<|At.then_ret ?_
  exact At.ret1 rfl (Res.tmp rfl) hF5 rl ⟨rfl,rfl⟩
 refine Cd.condF rfl hb6<|sr0<|mv1 rfl<|lr (Ev.eql rfl rfl)<|as1 rfl<|nt0 ?_
 rcases ic H with ⟨hb7,H⟩|⟨hb7,H⟩
 ·refine Cd.condT rfl hb7<|sr0<|mv1 rfl<|mv1 rfl ?_
  obtain ⟨x8,h9,H⟩:=bs H
  refine lr (Ev.indexStr rfl rfl U9 h9) ?_
  obtain ⟨r10,h11,H⟩:=bs H
  refine cl1 rfl (vs:=[Str.v a0,.int .u8 x8.toBitVec.toNat]) ⟨rfl,rfl,trivial⟩ Tryz.call233 (internal_stringslite_IndexByte_sim h11 w0 _ M _ hM)<|as1 rfl<|nt0 ?_
  obtain rfl:=si H
  refine Cd.ret<|At.in_ret<|At.then_ret ?_
  exact At.ret1 rfl (Res.tmp rfl) hF5 rl ⟨rfl,rfl⟩
 refine Cd.condF rfl hb7<|sr0<|mv1 rfl<|mv1 rfl<|lr (Ev.lenStr rfl rfl U9)<|lr (Ev.geq rfl rfl)<|as1 rfl<|nt0 ?_
 rcases ic H with ⟨hb14,H⟩|⟨hb14,H⟩
 ·refine Cd.condT rfl hb14<|sr0<|as1 rfl<|nt0 ?_
  obtain rfl:=si H
  refine Cd.ret<|At.in_ret<|At.then_ret ?_
  exact At.ret1 rfl (Res.tmp rfl) hF5 rl ⟨rfl,rfl⟩
 cases H
theorem internal_stringslite_Cut_sim {a0:Str} {a1:Str} {r:Str×Str×Bool} (H:internal_stringslite_Cut a0 a1=some r) (w0:World) (F:Frz) (M L:List Item) (hM:M.Sublist L):Ok Tryz.prog w0 220 [Str.v a0,Str.v a1] F (L) (Is (.tuple #[Str.v r.1,Str.v r.2.1,.bool r.2.2]) (L)):=by
 unfold internal_stringslite_Cut at H
 refine Ok.enter (m:=2) (n:=23) Tryz.func220 rfl rfl rfl (by decide)<|Cd.env (e':=[(0,Str.v a0),(1,Str.v a1)]) rfl<|sr0<|as1 rfl<|as1 rfl<|as1 rfl<|nt0<|Cd.seq<|sr0<|mv1 rfl<|mv1 rfl ?_
 obtain ⟨r1,h2,H⟩:=bs H
 refine cl1 rfl (vs:=[Str.v a0,Str.v a1]) ⟨rfl,rfl,trivial⟩ Tryz.call189 (internal_stringslite_Index_sim h2 w0 _ M _ hM)<|as1 rfl<|nsr<|mv1 rfl<|lr (Ev.geq rfl rfl)<|nt0 ?_
 rcases ic H with ⟨hb5,H⟩|⟨hb5,H⟩
 ·refine Cd.condT rfl hb5<|Cd.seq<|Cd.quiet (by kernel_rfl) (by kernel_rfl)<|qr (Ev.move rfl)<|qr (Ev.move rfl) ?_
  obtain ⟨m6,h7,H⟩:=bs H
  refine qr (Ev.sliceStrTo rfl rfl  U9 h7)<|qr (Ev.move rfl)<|qr (Ev.move rfl)<|qr (Ev.move rfl)<|qr (Ev.lenStr rfl rfl U9)<|qr (Ev.add rfl rfl) ?_
  obtain ⟨m8,h9,H⟩:=bs H
  refine qr (Ev.sliceStrFrom rfl rfl  U9 h9)<|qr (Ev.assign rfl)<|qr (Ev.assign rfl)<|qr (Ev.assign rfl)<|Qt.done<|At.then ?_
  obtain rfl:=si H
  refine Cd.ret<|At.then_ret ?_
  exact At.ret3 rfl (Res.tmp rfl) (Res.tmp rfl) (Res.tmp rfl) fl rl ⟨rfl,rfl⟩
 refine Cd.condF rfl hb5<|Cd.skip<|At.then<|sr0<|mv1 rfl<|as1 rfl<|as1 rfl<|as1 rfl<|nt0 ?_
 obtain rfl:=si H
 refine Cd.ret ?_
 exact At.ret3 rfl (Res.tmp rfl) (Res.tmp rfl) (Res.tmp rfl) fl rl ⟨rfl,rfl⟩
theorem strings_Cut_sim {a0:Str} {a1:Str} {r:Str×Str×Bool} (H:strings_Cut a0 a1=some r) (w0:World) (F:Frz) (M L:List Item) (hM:M.Sublist L):Ok Tryz.prog w0 177 [Str.v a0,Str.v a1] F (L) (Is (.tuple #[Str.v r.1,Str.v r.2.1,.bool r.2.2]) (L)):=by
 unfold strings_Cut at H
 refine Ok.enter (m:=2) (n:=13) Tryz.func177 rfl rfl rfl (by decide)<|Cd.env (e':=[(0,Str.v a0),(1,Str.v a1)]) rfl<|sr0<|as1 rfl<|as1 rfl<|as1 rfl<|nsr<|mv1 rfl<|mv1 rfl ?_
 obtain ⟨r1,h2,H⟩:=bs H
 refine cl1 rfl (vs:=[Str.v a0,Str.v a1]) ⟨rfl,rfl,trivial⟩ Tryz.call220 (internal_stringslite_Cut_sim h2 w0 _ M _ hM)<|lr (Ev.extract rfl rfl)<|lr (Ev.extract rfl rfl)<|lr (Ev.extract rfl rfl)<|as1 rfl<|as1 rfl<|as1 rfl<|nt0 ?_
 obtain rfl:=si H
 refine Cd.ret ?_
 exact At.ret3 rfl (Res.tmp rfl) (Res.tmp rfl) (Res.tmp rfl) fl rl ⟨rfl,rfl⟩
theorem internal_strconv_Atoi_sim {a0:Str} {r:Int×Unit} (H:internal_strconv_Atoi a0=some r) (w0:World) (F:Frz) (M L:List Item) (hM:M.Sublist L):Ok Tryz.prog w0 221 [Str.v a0] F (L) (Is (.tuple #[iv r.1,.nilIface]) (L)):=by
 unfold internal_strconv_Atoi at H
 refine Ok.enter (m:=1) (n:=77) Tryz.func221 rfl rfl rfl (by decide)<|Cd.env (e':=[(0,Str.v a0)]) rfl<|sr0<|as1 rfl<|as1 rfl<|nsr<|mv1 rfl<|lr (Ev.lenStr rfl rfl U9)<|as1 rfl<|nt0<|Cd.seq ?_
 refine sr0<|mv1 rfl<|lsk rfl rfl<|lsk rfl rfl<|lsk rfl rfl<|Lst.skipU rfl rfl rfl rfl (by decide)<|Lst.skipU rfl rfl rfl rfl (by decide)<|lsk rfl rfl<|lr (Ev.pickF rfl rfl rfl)<|mv1 rfl<|lg rfl (Ev.move rfl) ?_
 refine lg rfl (Ev.move rfl)<|lg rfl (Ev.lss rfl rfl)<|lg rfl (Ev.move rfl) ?_
 obtain ⟨o1,H,HKo1⟩:=bs H
 refine Lst.join (σ:=Bool) 3 (fun y2=>[(0,Str.v a0),(21,.bool false),(22,.bool true),(28,.bool y2)]) (fun y2=>L) (fun _ y2=>y2=o1) ?_ ?_
 ·rcases ic2 H with ⟨hb3,H⟩|⟨hb3,H⟩
  ·refine lsk rfl hb3<|lsk rfl hb3<|lg rfl (Ev.pickF rfl hb3 rfl)<|Lst.nil ?_
   exact At.meet false fl ⟨rfl,rfl,rfl,rfl,trivial⟩ rfl (si H)
  refine lg hb3 (Ev.move rfl)<|lg hb3 (Ev.lss rfl rfl)<|lg rfl (Ev.pickT rfl hb3 rfl)<|Lst.nil ?_
  exact At.meet (decide ((a0.length:Int) < (19:Int))) fl ⟨rfl,rfl,rfl,rfl,trivial⟩ rfl (si H)
 rintro F4 y2 hF5 hy
 subst hy
 replace H:=HKo1
 refine lg rfl (Ev.pickT rfl rfl rfl)<|lr (Ev.pickF rfl rfl rfl)<|nt0 ?_
 rcases ic H with ⟨hb6,H⟩|⟨hb6,H⟩
 ·refine Cd.condT rfl hb6<|sr0<|mv1 rfl<|as1 rfl<|nt0 ?_
  obtain ⟨o8,H,HKo8⟩:=andThen_some H
  refine Cd.join (σ:=Str) (fun y7=>[(0,Str.v y7),(5,Str.v a0)]) (fun y7=>L) (fun _ y7=>.inl y7=o8) ?_ ?_
  ·refine sr0<|mv1 rfl ?_
   obtain ⟨x9,h10,H⟩:=bs H
   refine lr (Ev.indexStr rfl rfl U9 h10)<|lr (Ev.eql rfl rfl)<|mv1 rfl ?_
   obtain ⟨o11,H,HKo11⟩:=bs H
   refine Lst.join (σ:=Bool) 4 (fun y12=>[(0,Str.v a0),(5,Str.v a0),(39,.bool y12)]) (fun y12=>L) (fun _ y12=>y12=o11) ?_ ?_
   ·rcases ic H with ⟨hb13,H⟩|⟨hb13,H⟩
    ·refine lsk rfl hb13<|lsk rfl hb13<|lsk rfl hb13<|lr (Ev.pickT rfl hb13 rfl)<|Lst.nil ?_
     exact At.meet true fl ⟨rfl,rfl,rfl,trivial⟩ rfl (si H)
    refine lg hb13 (Ev.move rfl) ?_
    obtain ⟨x14,h15,H⟩:=bs H
    refine lg hb13 (Ev.indexStr rfl rfl U9 h15)<|lg hb13 (Ev.eql rfl rfl)<|lr (Ev.pickF rfl hb13 rfl)<|Lst.nil ?_
    exact At.meet ((x14.toBitVec.toNat:Int)==((43:BitVec 8).toNat:Int)) fl ⟨rfl,rfl,rfl,trivial⟩ rfl (si H)
   rintro F16 y12 hF17 hy
   subst hy
   replace H:=HKo11
   refine nt0 ?_
   rcases ic2 H with ⟨hb18,H⟩|⟨hb18,H⟩
   ·refine Cd.condF rfl hb18<|Cd.skip ?_
    exact At.meet a0 hF17 ⟨rfl,rfl,trivial⟩ rfl (si H)
   refine Cd.condT rfl hb18<|sr0<|mv1 rfl ?_
   obtain ⟨m19,h20,H⟩:=bs H
   refine lr (Ev.sliceStrFrom rfl rfl  U9 h20)<|as1 rfl<|nsr<|mv1 rfl<|lr (Ev.lenStr rfl rfl U9)<|lr (Ev.lss rfl rfl)<|nt0 ?_
   rcases ic H with ⟨hb21,H⟩|⟨hb21,H⟩
   ·cases H
   refine Cd.condF rfl hb21<|Cd.skip ?_
   exact At.meet m19 hF17 ⟨rfl,rfl,trivial⟩ rfl (si H)
  rintro F22 y7 hF23 hy
  subst hy
  replace H:=HKo8
  refine sr0<|as1 rfl<|nt0<|Cd.seq<|sr0<|mv1 rfl ?_
  obtain ⟨u24,h25,H⟩:=bs H
  refine Lst.bytesOf (el:=5) rfl rfl (by decide) rfl (by kernel_rfl) (by kernel_rfl) (by kernel_rfl) (by have:=room_some h25; simp at this; omega) (fun s26 F27 hF28 hq29=>?_)
  refine lr (Ev.lenS (α:=BitVec 8) (xs:=(Str.bytes y7)) (by decide) rfl rfl U183 (hq29.mono fl nsl))<|mv1 rfl<|nt0<|Cd.block ?_
  refine Cd.bound (Rd.le (α:=BitVec 8) (xs:=(Str.bytes y7)) (by decide) (hq29.mono fl nsl)) (fun hN45=>?_)
  obtain ⟨ol30,H,HKl30⟩:=andThen_some H
  refine Cd.loop (σ:=Nat×Nat×Int) (fun (i30,k30,y31)=>[(5,Str.v a0),(6,iv y31),(47,Sl.v s26),(48,iv ((Str.bytes y7).length:Int)),(49,iv (i30:Int))]) (fun (i30,k30,y31)=>L) (fun _=>(fun (i30,k30,y31)=>rangeM (internal_strconv_Atoi_B0 y7) k30 i30 y31=some ol30∧i30+k30=(Str.bytes y7).length)) (fun (i30,k30,y31)=>k30) (0,(Str.bytes y7).length,(0:Int)) ⟨rfl,rfl,rfl,rfl,rfl,trivial⟩ rfl ⟨H,by omega⟩ ?_
  rintro F32 ⟨i30,k30,y31⟩ hF33 ⟨H,hik30⟩
  rcases k30 with _ | k30
  ·have hc30:decide ((i30:Int) < ((Str.bytes y7).length:Int))=false:=decide_eq_false (by omega)
   replace H:=rangeM_end H
   refine sr0<|lr (Ev.lss rfl rfl)<|nt0<|Cd.seq<|Cd.condF rfl hc30<|Cd.exit<|At.then_exit<|At.then_exit<|At.in_exit ?_
   subst H
   replace H:=HKl30
   refine At.then ?_
   obtain ⟨o39,H,HKo39⟩:=bs H
   refine Cd.join (σ:=Int) (fun y38=>[(6,iv y38)]) (fun y38=>L) (fun _ y38=>y38=o39) ?_ ?_
   ·refine sr0<|mv1 rfl ?_
    obtain ⟨x40,h41,H⟩:=bs H
    refine lr (Ev.indexStr rfl rfl U9 h41)<|lr (Ev.eql rfl rfl)<|nt0 ?_
    rcases ic2 H with ⟨hb42,H⟩|⟨hb42,H⟩
    ·refine Cd.condF rfl hb42<|Cd.skip ?_
     exact At.meet y31 fl ⟨rfl,trivial⟩ rfl (si H)
    refine Cd.condT rfl hb42<|Cd.region<|mv1 rfl<|lr (Ev.neg rfl)<|as1 rfl<|Lst.nil ?_
    exact At.meet (w64 (0 - y31)) fl ⟨rfl,trivial⟩ rfl (si H)
   rintro F43 y38 hF44 hy
   subst hy
   replace H:=HKo39
   refine sr0<|mv1 rfl<|as1 rfl<|as1 rfl<|nt0 ?_
   obtain rfl:=si H
   refine Cd.ret<|At.then_ret ?_
   exact At.ret2 rfl (Res.tmp rfl) (Res.tmp rfl) (ft (ft (ft (ft hF5 hF23) hF28) hF33) hF44) rl ⟨rfl,rfl⟩
  have hc30:decide ((i30:Int) < ((Str.bytes y7).length:Int))=true:=decide_eq_true (by omega)
  obtain ⟨c30,H,hgo30,hbrk30,hret30⟩:=rangeM_go H
  unfold internal_strconv_Atoi_B0 at H
  try dsimp only at H
  refine sr0<|lr (Ev.lss rfl rfl)<|nt0<|Cd.seq<|Cd.condT rfl hc30<|Cd.skip<|At.then<|Cd.seq<|Cd.block<|sr0 ?_
  obtain ⟨x34,h35,H⟩:=bs H
  have g36:=lat_some h35
  refine lr (Ev.indexS (α:=BitVec 8) (xs:=(Str.bytes y7)) rfl rfl U183 Z5 rfl (by decide) (hq29.mono hF33 nsl) g36.1 g36.2.1)<|lr (Ev.loadS (α:=BitVec 8) rfl (hq29.mono hF33 nsl) I5 (v:=.int .u8 x34.toNat) ((Get.elemN (s:=1) (x:=x34) rfl g36.2.2 gh0).off (by omega)))<|as1 rfl<|nsr<|mv1 rfl<|lr (Ev.subU8 (i:=x34) (j:=(48:BitVec 8)) rfl rfl)<|as1 rfl<|nt0<|Cd.seq<|sr0<|mv1 rfl ?_
  refine lr (Ev.gtr rfl rfl)<|nt0 ?_
  rcases ic H with ⟨hb37,H⟩|⟨hb37,H⟩
  ·cases H
  refine Cd.condF rfl hb37<|Cd.skip<|At.then<|Cd.region<|mv1 rfl<|lr (Ev.mul rfl rfl)<|mv1 rfl<|lr (Ev.convIS (j:=((x34 - (48:BitVec 8)).toNat:Int)) rfl U5 U3 (w64_id (by omega) (by omega)))<|lr (Ev.add rfl rfl)<|as1 rfl<|Lst.nil ?_
  refine At.in_normal<|At.then<|Cd.region<|lr (Ev.incr (by omega) rfl rfl)<|mv1 rfl<|Lst.nil ?_
  exact At.meet (i30+1,k30,w64 ((w64 (y31 * (10:Int)))+((x34 - (48:BitVec 8)).toNat:Int))) hF33 ⟨rfl,rfl,rfl,rfl,rfl,trivial⟩ rfl ⟨⟨hgo30 _ (sj H),by omega⟩,nls⟩
 cases H
theorem strconv_Atoi_sim {a0:Str} {r:Int×Unit} (H:strconv_Atoi a0=some r) (w0:World) (F:Frz) (M L:List Item) (hM:M.Sublist L):Ok Tryz.prog w0 178 [Str.v a0] F (L) (Is (.tuple #[iv r.1,.nilIface]) (L)):=by
 unfold strconv_Atoi at H
 refine Ok.enter (m:=1) (n:=18) Tryz.func178 rfl rfl rfl (by decide)<|Cd.env (e':=[(0,Str.v a0)]) rfl<|sr0<|as1 rfl<|as1 rfl<|nsr<|mv1 rfl ?_
 obtain ⟨r1,h2,H⟩:=bs H
 refine cl1 rfl (vs:=[Str.v a0]) ⟨rfl,trivial⟩ Tryz.call221 (internal_strconv_Atoi_sim h2 w0 _ M _ hM)<|mv1 rfl<|lr (Ev.extract rfl rfl)<|lr (Ev.extract rfl rfl)<|as1 rfl<|as1 rfl<|nt0<|Cd.seq<|sr0<|mv1 rfl<|lr (Ev.neqErr rfl U254) ?_
 refine nt0<|Cd.condF rfl rfl<|Cd.skip<|At.then<|sr0<|mv1 rfl<|as1 rfl<|as1 rfl<|nt0 ?_
 obtain rfl:=si H
 refine Cd.ret ?_
 exact At.ret2 rfl (Res.tmp rfl) (Res.tmp rfl) fl rl ⟨rfl,rfl⟩
theorem lane_Heard_sim {a0:From} {a1:Int} {sa0x1:Sl} {r:From×Int} (H:lane_Heard a0 a1=some r) (w0:World) (F:Frz) (M L:List Item) (hM:M.Sublist L) (pa0x1:Rd w0 F M sa0x1 a0.Late):Ok Tryz.prog w0 179 [.agg (enc (FromR.mk a0 sa0x1)).toArray,iv a1] F (L) (fun _ L' v=>∃ (s1:Sl),v=.tuple #[.agg (enc (FromR.mk r.1 s1)).toArray,iv r.2]∧L'=(.own s1 9 1 (encs r.1.Late))::L):=by
 let T4:=sa0x1.cut (max (w64 (a1 - a0.Base)) (0:Int):Int).toNat ((a0.Late.length:Int):Int).toNat 1
 let T3:=FromR.mk ({From.zero with Late:=([]:List Str)}:From) Sl.nil
 let T2:=FromR.mk From.zero Sl.nil
 let T1:=FromR.mk ({From.zero with Base:=w64 (a0.Base+(max (w64 (a1 - a0.Base)) (0:Int)))}:From) Sl.nil
 unfold lane_Heard at H
 refine Ok.enter (m:=2) (n:=38) Tryz.func179 rfl rfl rfl (by decide)<|Cd.env (e':=[(0,.agg (enc (FromR.mk a0 sa0x1)).toArray),(1,iv a1)]) rfl<|sr0 ?_
 refine Lst.box rfl rfl (by decide) rfl (cs:=enc (FromR.mk a0 sa0x1)) rfl (fun b1=>?_)
 refine Lst.addNil 9 1 ?_
 refine Lst.alloc (cs:=enc T3) rfl rfl (by decide) Tryz.zeroValue45 rfl (fun b4=>?_)
 refine as1 rfl<|nt0<|Cd.seq<|sr0<|lr (Ev.loadA (i:=2) rfl rfl I45 Z45 (ch:=enc (FromR.mk a0 sa0x1)) el gh0) ?_
 obtain ⟨r6,h7,H⟩:=bs H
 refine cl1 rfl (vs:=[.agg (enc (FromR.mk a0 sa0x1)).toArray]) ⟨rfl,trivial⟩ Tryz.call111 (lane_CheckFrom_sim h7 w0 _ M _ (sc2 (sc1 hM)) (pa0x1.mono fl rl))<|as1 rfl<|nsr<|mv1 rfl<|lr (Ev.neq rfl rfl)<|nt0 ?_
 rcases ic H with ⟨hb10,H⟩|⟨hb10,H⟩
 ·refine Cd.condT rfl hb10<|sr0<|lr (Ev.build (v:=.agg (enc T2).toArray) (pv:=[]) trivial (fun w=>by kernel_rfl))<|mv1 rfl<|lst 0 rfl rfl rfl Z45 (vs:=enc T2) rfl el (Enc.one _) (cs':=enc T2) phl rfl<|as1 rfl<|nt0 ?_
  obtain rfl:=si H
  refine Cd.ret<|At.then_ret<|At.addNil 9 1 ?_
  exact At.ret2 rfl (Res.cellA (i:=1) rfl rfl I45 Z45 el) (Res.tmp rfl) fl (sk1 (sc1 (sc2 rl))) ⟨Sl.nil,rfl,rfl⟩
 refine Cd.condF rfl hb10<|Cd.skip<|At.then<|Cd.seq<|sr0<|mv1 rfl<|lr (Ev.fo 0 rfl U45 rfl Z3 rfl rfl)<|lr (Ev.load (i:=2) rfl rfl I3 (v:=iv a0.Base) ((FromR.get_Base gh0).off rfl))<|lr (Ev.fo 1 rfl U45 rfl Z43 rfl rfl)<|lr (Ev.load (i:=2) rfl rfl I43 (v:=Sl.v sa0x1) ((FromR.get_Late gh0).off rfl))<|lr (Ev.lenS (α:=Str) (xs:=a0.Late) (by decide) rfl rfl U43 (pa0x1.mono fl (sc2 (sc1 hM)))) ?_
 refine lr (Ev.add rfl rfl)<|lr (Ev.gtr rfl rfl)<|nt0 ?_
 rcases ic H with ⟨hb12,H⟩|⟨hb12,H⟩
 ·refine Cd.condT rfl hb12<|sr0<|lr (Ev.build (v:=.agg (enc T2).toArray) (pv:=[]) trivial (fun w=>by kernel_rfl))<|lst 0 rfl rfl rfl Z45 (vs:=enc T2) rfl el (Enc.one _) (cs':=enc T2) phl rfl<|as1 rfl<|nt0 ?_
  obtain rfl:=si H
  refine Cd.ret<|At.then_ret<|At.addNil 9 1 ?_
  exact At.ret2 rfl (Res.cellA (i:=1) rfl rfl I45 Z45 el) (Res.tmp rfl) fl (sk1 (sc1 (sc2 rl))) ⟨Sl.nil,rfl,rfl⟩
 refine Cd.condF rfl hb12<|Cd.skip<|At.then<|sr0<|mv1 rfl<|lr (Ev.fo 0 rfl U45 rfl Z3 rfl rfl)<|lr (Ev.load (i:=2) rfl rfl I3 (v:=iv a0.Base) ((FromR.get_Base gh0).off rfl))<|lr (Ev.sub rfl rfl)<|lr (Ev.max2 rfl rfl)<|as1 rfl<|nt0 ?_
 refine Cd.seq ?_
 obtain ⟨m14,h15,H⟩:=bs H
 obtain ⟨r19,h20,H⟩:=bs H
 obtain ⟨o28,h29,H⟩:=Let_some H
 refine Cd.headMeet (σ:=Sl×(List Str)) 9 (fun (s26,l27)=>[(4,pv b4 0),(31,iv (w64 (a0.Base+(max (w64 (a1 - a0.Base)) (0:Int))))),(36,Sl.v s26)]) (fun (s26,l27)=>(.own s26 9 1 (encs l27))::(.blk b4 (enc T3) 45)::(.own Sl.nil 9 1 (encs ([]:List Str)))::(.blk b1 (enc (FromR.mk a0 sa0x1)) 45)::L) (fun _ (s26,l27)=>l27=o28) (by kernel_rfl) (by kernel_rfl) (behind_sink (by kernel_rfl) (by kernel_rfl) (by kernel_rfl)) (by kernel_rfl) (fun hsel hlt=>?_) ?_
 ·refine HdJ.keep (fun w=>St w0 F ((.blk b4 (enc T3) 45)::(.own Sl.nil 9 1 (encs ([]:List Str)))::(.blk b1 (enc (FromR.mk a0 sa0x1)) 45)::L) w) (fun w h=>trivial)<|hts rfl hsel hlt 0 rl rfl (Ev.fo 0 rfl U45 rfl Z3 rfl rfl)<|hts rfl hsel hlt 1 rl rfl (Ev.load (i:=2) rfl rfl I3 (v:=iv a0.Base) ((FromR.get_Base gh0).off rfl))<|hts rfl hsel hlt 2 rl rfl (Ev.move rfl)<|hts rfl hsel hlt 3 rl rfl (Ev.add rfl rfl)<|hts rfl hsel hlt 4 rl rfl (Ev.fo 1 rfl U45 rfl Z43 rfl rfl)<|hts rfl hsel hlt 5 rl rfl (Ev.load (i:=2) rfl rfl I43 (v:=Sl.v sa0x1) ((FromR.get_Late gh0).off rfl))<|hts rfl hsel hlt 6 rl rfl (Ev.move rfl) ?_
  obtain ⟨g30,gl31⟩:=cutL_some h15
  try dsimp only at g30
  have hq32:Rd w0 F M T4 m14:=by rw [← gl31]; exact Rd.cut (by decide) pa0x1 (by omega) (by omega)
  refine hts rfl hsel hlt 7 rl rfl (Ev.cut (α:=Str) (xs:=a0.Late) (i:=max (w64 (a1 - a0.Base)) (0:Int)) (j:=(a0.Late.length:Int)) rfl rfl rfl U43 Z9 rfl (by decide) (pa0x1.mono fl (sc2 (sc1 hM))) g30.1 g30.2.1 g30.2.2) ?_
  refine HdJ.o1 8 (fun inv=>?_)
  refine cl rfl (vs:=[Sl.v T4]) ⟨rfl,trivial⟩ Tryz.call45 (slices_Clone_string_string_sim h20 w0 _ M _ (sc2 (sc1 hM)) (hq32.mono fl rl)) (fun F34 L' v hF35 hv=>?_)
  obtain ⟨s33,rfl,rfl⟩:=hv
  refine Lst.nil<|At.hd inv (fun w h=>(h.weaken hF35).sublist (sc1 rl))<|HdJ.done (by kernel_rfl) ?_
  exact At.meetN (s33,r19) hF35 ⟨rfl,rfl,rfl,trivial⟩ rfl h29
 rintro F36 ⟨s26,l27⟩ hF37 hy
 let T0:=FromR.mk ({From.zero with Base:=w64 (a0.Base+(max (w64 (a1 - a0.Base)) (0:Int))),Late:=l27}:From) s26
 subst hy
 refine lr (Ev.build (v:=.agg (enc T0).toArray) (pv:=[(0,iv (w64 (a0.Base+(max (w64 (a1 - a0.Base)) (0:Int))))),(1,Sl.v s26)]) ⟨rfl,rfl,⟨rfl,rfl,trivial⟩⟩ (run_buildStruct (places:=#[(0,1),(1,1)]) Tryz.zeroValue45 (zs:=enc T2) rfl U45 (fun w=>by kernel_rfl) (fill_cons (cs:=enc T2) (cs':=enc T1) (vs:=[iv (w64 (a0.Base+(max (w64 (a1 - a0.Base)) (0:Int))))]) rfl rfl rfl ((FromR.put_Base (p:=T2) (y:=(w64 (a0.Base+(max (w64 (a1 - a0.Base)) (0:Int))))) (Put.here (vs:=[iv (w64 (a0.Base+(max (w64 (a1 - a0.Base)) (0:Int))))]) rfl)).off rfl) (fill_cons (cs:=enc T1) (cs':=enc T0) (vs:=[Sl.v s26]) rfl rfl rfl ((FromR.put_Late (p:=T1) (y:=s26) (Put.here (vs:=[Sl.v s26]) rfl)).off rfl) fill_nil))))<|lst 1 rfl rfl rfl Z45 (vs:=enc T0) rfl el (Enc.one _) (cs':=enc T0) phl rfl<|as1 rfl<|nt0 ?_
 obtain rfl:=si H
 refine Cd.ret ?_
 exact At.ret2 rfl (Res.cellA (i:=1) rfl rfl I45 Z45 el) (Res.tmp rfl) hF37 (sk1 (sc1 (sc2 rl))) ⟨s26,rfl,rfl⟩
theorem world_World_take_sim {fu:Nat} {a0:Wld} {a1:Note} {ba0:Nat} {sa0x1:Sl} {ra0x1:List ProcessR} {sa0x2:Sl} {sa0x3:Sl} {r:(List Procs)×Wld} (H:world_World_take fu a0 a1=some r) (w0:World) (F:Frz) (M L:List Item) (hM:M.Sublist L) (ma0x1:ra0x1.map ProcessR.v=a0.all) (na0x1:All ProcessR.frel w0 F [] ra0x1):Ok Tryz.prog w0 120 [pv ba0 0,.agg (enc a1).toArray] F ((.rows (α:=Saying) 62 (List.map ProcessR.row ra0x1))::(.own sa0x1 100 8 (encs ra0x1))::(.own sa0x2 9 1 (encs a0.ordered))::(.own sa0x3 9 1 (encs a0.way))::(.blk ba0 (enc (WldR.mk a0 sa0x1 sa0x2 sa0x3)) 95)::L) (fun Fx L' v=>∃ (rs6:List ProcessR),v=.tuple #[]∧L'=(.rows (α:=Saying) 62 (List.map ProcessR.row rs6))::(.own sa0x1 100 8 (encs rs6))::(.own sa0x2 9 1 (encs a0.ordered))::(.own sa0x3 9 1 (encs a0.way))::(.blk ba0 (enc (WldR.mk ({r.2 with all:=r.1,ordered:=a0.ordered,way:=a0.way}:Wld) sa0x1 sa0x2 sa0x3)) 95)::L∧rs6.map ProcessR.v=r.1∧All ProcessR.frel w0 Fx [] rs6):=by
 let T22:=ToR.mk ({To.zero with Early:=([]:List Parcel)}:To) Sl.nil
 let T20:Item:=.own Sl.nil 146 2 (encs ([]:List Parcel))
 let T15:=({Parcel.zero with Seq:=a1.Seq,Text:=a1.Text}:Parcel)
 let T12:Item:=.own sa0x1 100 8 (encs ra0x1)
 let T9:Item:=.blk ba0 (enc (WldR.mk a0 sa0x1 sa0x2 sa0x3)) 95
 let T8:Item:=.rows (α:=Saying) 62 (List.map ProcessR.row ra0x1)
 let T7:Item:=.own sa0x3 9 1 (encs a0.way)
 let T5:Item:=.own sa0x2 9 1 (encs a0.ordered)
 unfold world_World_take at H
 refine Ok.enter (m:=2) (n:=110) Tryz.func120 rfl rfl rfl (by decide)<|Cd.env (e':=[(0,pv ba0 0),(1,.agg (enc a1).toArray)]) rfl<|sr0 ?_
 refine Lst.box rfl rfl (by decide) rfl (cs:=enc a1) rfl (fun b6=>?_)
 refine nt0<|Cd.seq<|Cd.quiet (by kernel_rfl) (by kernel_rfl)<|qr (Ev.move rfl)<|qr (Ev.nilCheck rfl)<|qr (Ev.fo 2 rfl U95 rfl Z93 rfl rfl)<|qr (Ev.load (i:=5) rfl rfl I93 (v:=Sl.v sa0x1) ((WldR.get_all gh0).off rfl))<|qr (Ev.fo 2 rfl U132 rfl Z3 rfl rfl)<|qr (Ev.load (i:=0) rfl rfl I3 (v:=iv a1.To) ((Note.get_To gh0).off rfl)) ?_
 obtain ⟨x8,h9,H⟩:=bs H
 have g10:=lat_some h9
 obtain ⟨⟨r11v,r11h1,⟨r11_2v,r11_2h1⟩,⟨r11_3v,r11_3h1⟩,⟨r11_4v,r11_4h1⟩⟩,r11g,r11e,r11m⟩:=map_get ma0x1 g10.2.2
 let T19:=ProcessR.mk x8 r11h1 (FromR.mk x8.from_ r11_2h1) (ToR.mk x8.to r11_3h1) (ToR.mk x8.orders r11_4h1)
 obtain rfl:x8=r11v:=r11e.symm
 have r11q:ProcessR.frel w0 _ _ (ProcessR.mk x8 r11h1 (FromR.mk r11_2v r11_2h1) (ToR.mk r11_3v r11_3h1) (ToR.mk r11_4v r11_4h1)):=na0x1 _ r11m
 obtain ⟨r11_i2,r11_i3,r11_i4⟩:=r11q
 obtain ⟨r11_2e,r11_2q⟩:=r11_i2
 obtain rfl:r11_2v=x8.from_:=r11_2e
 have r11_2_f1:Rd w0 _ _ _ _:=r11_2q
 obtain ⟨r11_3e,r11_3q⟩:=r11_i3
 obtain rfl:r11_3v=x8.to:=r11_3e
 have r11_3_f1:Rd w0 _ _ _ _:=r11_3q
 obtain ⟨r11_4e,r11_4q⟩:=r11_i4
 obtain rfl:r11_4v=x8.orders:=r11_4e
 have r11_4_f1:Rd w0 _ _ _ _:=r11_4q
 have r11wg:=map_at ProcessR.row r11g
 refine qr (Ev.indexS (α:=ProcessR) (xs:=ra0x1) rfl rfl U93 Z100 rfl (by decide) (rdo 2 rfl rfl rfl) g10.1 (by have:=map_len ma0x1; omega))<|qr (Ev.assign rfl)<|Qt.done<|At.then<|Cd.seq ?_
 obtain ⟨r12,h13,H⟩:=bs H
 obtain ⟨o29,h30,H⟩:=Let_some H
 refine Cd.headMeet (σ:=Nat×Sl×(List Parcel)×Sl×(List Str)) 17 (fun (b24,s25,l26,s27,l28)=>[(3,pv b6 0),(4,Sl.at sa0x1 (a1.To.toNat * 8)),(5,pv b24 0),(6,Sl.v s27),(42,iv r12.2.2)]) (fun (b24,s25,l26,s27,l28)=>(.blk b24 (enc (ToR.mk ({r12.1 with Early:=l26}:To) s25)) 41)::(.own s25 146 2 (encs l26))::(.own s27 9 1 (encs l28))::(.blk b6 (enc a1) 132)::T8::T12::T5::T7::T9::L) (fun _ (b24,s25,l26,s27,l28)=>(l26,l28)=o29) (by kernel_rfl) (by kernel_rfl) (behind_sink (by kernel_rfl) (by kernel_rfl) (by kernel_rfl)) (by kernel_rfl) (fun hsel hlt=>?_) ?_
 ·refine HdJ.keep (fun w=>St w0 F ((.blk b6 (enc a1) 132)::T8::T12::T5::T7::T9::L) w) (fun w h=>trivial)<|hts rfl hsel hlt 0 rl rfl (Ev.move rfl)<|hts rfl hsel hlt 1 rl rfl (Ev.nilCheckS (α:=ProcessR) rfl (rdo 2 rfl rfl rfl) ((Get.elemN (s:=8) rfl r11g gh0).off (by omega)) rfl)<|hts rfl hsel hlt 2 rl rfl (Ev.fieldS (α:=ProcessR) (f':=a1.To.toNat * 8+4) rfl (rdo 2 rfl rfl rfl) ((Get.elemN (s:=8) rfl r11g gh0).off (by omega)) rfl U100 rfl Z41 rfl rfl rfl)<|hts rfl hsel hlt 3 rl rfl (Ev.loadSA (α:=ProcessR) rfl (rdo 2 rfl rfl rfl) I41 Z41 (ch:=enc (ToR.mk x8.to r11_3h1)) el (by decide) ((Get.elemN (s:=8) rfl r11g (ProcessR.get_to gh0)).off (by omega)))<|hts rfl hsel hlt 4 rl rfl (Ev.fo 4 rfl U132 rfl Z3 rfl rfl)<|hts rfl hsel hlt 5 rl rfl (Ev.load (i:=0) rfl rfl I3 (v:=iv a1.Seq) ((Note.get_Seq gh0).off rfl))<|hts rfl hsel hlt 6 rl rfl (Ev.fo 11 rfl U132 rfl Z9 rfl rfl)<|hts rfl hsel hlt 7 rl rfl (Ev.load (i:=0) rfl rfl I9 (v:=Str.v a1.Text) ((Note.get_Text gh0).off rfl))<|hts rfl hsel hlt 8 rl rfl (Ev.build (v:=.agg (enc T15).toArray) (pv:=[(0,iv a1.Seq),(1,Str.v a1.Text)]) ⟨rfl,rfl,⟨rfl,rfl,trivial⟩⟩ (fun w=>by kernel_rfl))<|HdJ.step [9,14] (by kernel_rfl) rfl ?_
  refine HdStep.c (fun inv=>?_) ?_
  ·refine cl rfl (vs:=[.agg (enc (ToR.mk x8.to r11_3h1)).toArray,.agg (enc T15).toArray]) ⟨rfl,rfl,trivial⟩ Tryz.call176 (lane_Take_sim h13 w0 _ M _ (sc4 (sc2 hM)) (r11_3_f1.mono fl nsl)) (fun F33 L' v hF34 hv=>?_)
   obtain ⟨s31,s32,rfl,rfl⟩:=hv
   refine Lst.nil<|At.hd inv (fun w h=>(h.weaken hF34).sublist (sc2 rl))<|HdJ.keep (fun w=>St w0 F33 ((.own s31 146 2 (encs r12.1.Early))::(.own s32 9 1 (encs r12.2.1))::(.blk b6 (enc a1) 132)::T8::T12::T5::T7::T9::L) w) (fun w h=>(h.weaken hF34).sublist (sc2 rl))<|hts rfl hsel hlt 10 rl rfl (Ev.move rfl)<|hts rfl hsel hlt 11 rl rfl (Ev.extract rfl rfl)<|hts rfl hsel hlt 12 rl rfl (Ev.extract rfl rfl)<|hts rfl hsel hlt 13 rl rfl (Ev.extract rfl rfl) ?_
   refine HdJ.o1 14 (fun inv=>?_)
   refine Lst.addNil 146 2 ?_
   refine Lst.alloc (cs:=enc T22) rfl rfl (by decide) Tryz.zeroValue41 rfl (fun b35=>?_)
   refine hds inv (sc2 rl) ?_
   refine HdJ.o1 15 (fun inv=>?_)
   refine lst 0 rfl rfl rfl Z41 (vs:=enc (ToR.mk r12.1 s31)) rfl el (Enc.one _) (cs':=enc (ToR.mk r12.1 s31)) phl rfl<|hds inv (sc2 rl)<|HdJ.keep (fun w=>St w0 F33 ((.blk b35 (enc (ToR.mk r12.1 s31)) 41)::T20::(.own s31 146 2 (encs r12.1.Early))::(.own s32 9 1 (encs r12.2.1))::(.blk b6 (enc a1) 132)::T8::T12::T5::T7::T9::L) w) (fun w h=>(h.weaken fl).sublist (sc2 rl))<|hts rfl hsel hlt 16 rl rfl (Ev.assign rfl)<|HdJ.done (by kernel_rfl)<|At.less (sk1 (sc1 rl)) ?_
   exact At.meetN (b35,s31,r12.1.Early,s32,r12.2.1) hF34 ⟨rfl,rfl,rfl,rfl,rfl,trivial⟩ rfl h30
  refine HdStep.c (fun inv=>?_) trivial
  refine Lst.addNil 146 2 ?_
  refine Lst.alloc (cs:=enc T22) rfl rfl (by decide) Tryz.zeroValue41 rfl (fun b36=>?_)
  refine hds inv (sc2 rl) ?_
  refine HdJ.o1 9 (fun inv=>?_)
  refine cl rfl (vs:=[.agg (enc (ToR.mk x8.to r11_3h1)).toArray,.agg (enc T15).toArray]) ⟨rfl,rfl,trivial⟩ Tryz.call176 (lane_Take_sim h13 w0 _ M _ (sc8 hM) (r11_3_f1.mono fl nsl)) (fun F39 L' v hF40 hv=>?_)
  obtain ⟨s37,s38,rfl,rfl⟩:=hv
  refine Lst.nil<|At.hd inv (fun w h=>(h.weaken hF40).sublist (sc4 rl))<|HdJ.keep (fun w=>St w0 F39 ((.own s37 146 2 (encs r12.1.Early))::(.own s38 9 1 (encs r12.2.1))::T20::(.blk b6 (enc a1) 132)::T8::T12::T5::T7::T9::L) w) (fun w h=>(h.weaken hF40).sublist (sc1 (sc2 rl)))<|hts rfl hsel hlt 10 (sk2 (sc1 rl)) rfl (Ev.move rfl)<|hts rfl hsel hlt 11 (sk2 (sc1 rl)) rfl (Ev.extract rfl rfl)<|hts rfl hsel hlt 12 (sk2 (sc1 rl)) rfl (Ev.extract rfl rfl)<|hts rfl hsel hlt 13 (sk2 (sc1 rl)) rfl (Ev.extract rfl rfl) ?_
  refine HdJ.o1 15 (fun inv=>?_)
  refine lst 2 rfl rfl rfl Z41 (vs:=enc (ToR.mk r12.1 s37)) rfl el (Enc.one _) (cs':=enc (ToR.mk r12.1 s37)) phl rfl<|hds inv (sk2 (sc1 rl))<|HdJ.keep (fun w=>St w0 F39 ((.own s37 146 2 (encs r12.1.Early))::(.own s38 9 1 (encs r12.2.1))::(.blk b36 (enc (ToR.mk r12.1 s37)) 41)::T20::(.blk b6 (enc a1) 132)::T8::T12::T5::T7::T9::L) w) (fun w h=>(h.weaken fl).sublist (sk2 (sc1 rl)))<|hts rfl hsel hlt 16 rl rfl (Ev.assign rfl)<|HdJ.done (by kernel_rfl)<|af 2 rfl<|At.less (sk1 (sk2 (sc1 rl))) ?_
  exact At.meetN (b36,s37,r12.1.Early,s38,r12.2.1) hF40 ⟨rfl,rfl,rfl,rfl,rfl,trivial⟩ rfl h30
 rintro F41 ⟨b24,s25,l26,s27,l28⟩ hF42 hy
 let T14:Item:=.own s27 9 1 (encs l28)
 let T4:=ToR.mk ({r12.1 with Early:=l26}:To) s25
 let T1:=ProcessR.mk ({x8 with to:=({r12.1 with Early:=l26}:To)}:Procs) r11h1 (FromR.mk x8.from_ r11_2h1) T4 (ToR.mk x8.orders r11_4h1)
 let T11:=ra0x1.set a1.To.toNat T1
 subst hy
 try dsimp only at H
 refine as1 rfl<|nt0<|Cd.seq<|sr0<|mv1 rfl<|lr (Ev.neq rfl rfl)<|nt0 ?_
 rcases ic H with ⟨hb43,H⟩|⟨hb43,H⟩
 ·refine Cd.condT rfl hb43 ?_
  obtain rfl:=si H
  refine Cd.ret<|At.then_ret ?_
  exact At.ret0 (.inl rfl) rfl hF42 (sc4 rl) ⟨ra0x1,rfl,rfl,ma0x1,(All.monoProcessF na0x1 hF42 nsl)⟩
 refine Cd.condF rfl hb43<|Cd.skip<|At.then<|sr0<|mv1 rfl<|lr (Ev.loadA (i:=0) rfl rfl I41 Z41 (ch:=enc T4) el gh0)<|lr (Ev.nilCheckS (α:=ProcessR) rfl (rdo 5 rfl rfl rfl) ((Get.elemN (s:=8) rfl r11g gh0).off (by omega)) rfl)<|lr (Ev.fieldS (α:=ProcessR) (f':=a1.To.toNat * 8+4) rfl (rdo 5 rfl rfl rfl) ((Get.elemN (s:=8) rfl r11g gh0).off (by omega)) rfl U100 rfl Z41 rfl rfl rfl) ?_
 obtain ⟨p48,h49,H⟩:=Let_some H
 let T21:Item:=.blk ba0 (enc (WldR.mk ({a0 with all:=p48}:Wld) sa0x1 sa0x2 sa0x3)) 95
 have hm50:T11.map ProcessR.v=p48:=(map_set ma0x1 _ _).trans h49
 refine Lst.freeze (i:=1) rfl (fun F44 hF45 hz46=>?_)
 have hq47:Rd w0 F44 [] s25 l26:=Rd.frozen hz46 rfl rfl
 have ha51:All ProcessR.frel w0 F44 [] T11:=All.set (All.monoProcessF na0x1 (ft hF42 hF45) nsl) (⟨⟨rfl,(r11_2_f1.mono (ft hF42 hF45) nsl)⟩,⟨rfl,(hq47.mono fl nsl)⟩,⟨rfl,(r11_4_f1.mono (ft hF42 hF45) nsl)⟩⟩)
 refine Lst.storeS (i:=4) rfl rfl rfl rfl rfl Z41 (vs:=enc T4) rfl el (by decide) (Enc.one _) (xs':=encs T11) ((Put.elemN (s:=8) (x:=T19) (y:=T1) rfl r11g (ProcessR.put_to (p:=T19) (l:=({r12.1 with Early:=l26}:To)) phl)).off (by omega)) (L':=(.blk b24 (enc T4) 41)::T14::(.blk b6 (enc a1) 132)::T8::(.own sa0x1 100 8 (encs T11))::T5::T7::T21::L) rfl<|Lst.its (L':=(.blk b24 (enc T4) 41)::T14::(.blk b6 (enc a1) 132)::(.rows (α:=Saying) 62 (List.map ProcessR.row T11))::(.own sa0x1 100 8 (encs T11))::T5::T7::T21::L) (by dsimp +zetaDelta only; rw [map_set_same (y:=T1) r11g rfl] <;> rfl)<|nsr<|mv1 rfl<|lr (Ev.lenS (α:=Str) (xs:=l28) (by decide) rfl rfl U43 (rdo 1 rfl rfl rfl))<|mv1 rfl<|nt0<|Cd.block ?_
 refine Cd.bound (Rd.le (α:=Str) (xs:=l28) (by decide) (rdo 1 rfl rfl rfl)) (fun hN124=>?_)
 obtain ⟨ol52,H,HKl52⟩:=bs H
 refine Cd.loop (σ:=Nat×Nat×Wld×(List Procs)×(List ProcessR)) (fun (i52,k52,y53,l54,rs55)=>[(3,pv b6 0),(4,Sl.at sa0x1 (a1.To.toNat * 8)),(49,Sl.v s27),(50,iv (l28.length:Int)),(51,iv (i52:Int))]) (fun (i52,k52,y53,l54,rs55)=>(.blk b24 (enc T4) 41)::T14::(.blk b6 (enc a1) 132)::(.rows (α:=Saying) 62 (List.map ProcessR.row rs55))::(.own sa0x1 100 8 (encs rs55))::T5::T7::(.blk ba0 (enc (WldR.mk ({y53 with all:=l54,ordered:=a0.ordered,way:=a0.way}:Wld) sa0x1 sa0x2 sa0x3)) 95)::L) (fun Fx=>(fun (i52,k52,y53,l54,rs55)=>rangeF (world_World_take_B0 a0 a1 l28) k52 i52 (y53,l54)=some ol52∧i52+k52=l28.length∧rs55.map ProcessR.v=l54∧All ProcessR.frel w0 Fx [] rs55)) (fun (i52,k52,y53,l54,rs55)=>k52) (0,l28.length,({a0 with all:=p48}:Wld),p48,T11) ⟨rfl,rfl,rfl,rfl,rfl,trivial⟩ rfl ⟨H,by omega,hm50,(All.monoProcessF ha51 fl nsl)⟩ ?_
 rintro F58 ⟨i52,k52,y53,l54,rs55⟩ hF59 ⟨H,hik52,fm56,fa57⟩
 rcases k52 with _ | k52
 ·have hc52:decide ((i52:Int) < (l28.length:Int))=false:=decide_eq_false (by omega)
  replace H:=rangeF_end H
  refine sr0<|lr (Ev.lss rfl rfl)<|nt0<|Cd.seq<|Cd.condF rfl hc52<|Cd.exit<|At.then_exit<|At.then_exit<|At.in_exit ?_
  subst H
  replace H:=HKl52
  try dsimp only [Sum.elim_inl] at H
  obtain rfl:=si H
  exact At.ret0 (.inr rfl) rfl (ft (ft hF42 hF45) hF59) (sc1 (sc2 rl)) ⟨rs55,rfl,rfl,fm56,(All.monoProcessF fa57 fl nsl)⟩
 have hc52:decide ((i52:Int) < (l28.length:Int))=true:=decide_eq_true (by omega)
 obtain ⟨c52,H,hgo52⟩:=rangeF_go H
 unfold world_World_take_B0 at H
 try dsimp only at H
 refine sr0<|lr (Ev.lss rfl rfl)<|nt0<|Cd.seq<|Cd.condT rfl hc52<|Cd.skip<|At.then<|Cd.seq<|Cd.block<|sr0 ?_
 obtain ⟨x60,h61,H⟩:=bs H
 have g62:=lat_some h61
 refine lr (Ev.indexS (α:=Str) (xs:=l28) rfl rfl U43 Z9 rfl (by decide) (rdo 1 rfl rfl rfl) g62.1 g62.2.1)<|lr (Ev.loadS (α:=Str) rfl (rdo 1 rfl rfl rfl) I9 (v:=Str.v x60) ((Get.elemN (s:=1) (x:=x60) rfl g62.2.2 gh0).off (by omega)))<|as1 rfl<|nsr<|mv1 rfl ?_
 obtain ⟨r63,h64,H⟩:=bs H
 refine cl1 rfl (vs:=[Str.v x60,Str.v ([58]:Str)]) ⟨rfl,rfl,trivial⟩ Tryz.call177 (strings_Cut_sim h64 w0 _ M _ (sc8 hM))<|mv1 rfl<|lr (Ev.extract rfl rfl)<|lr (Ev.extract rfl rfl)<|lr (Ev.extract rfl rfl)<|as1 rfl<|as1 rfl<|as1 rfl<|nsr<|mv1 rfl ?_
 obtain ⟨r67,h68,H⟩:=bs H
 refine cl1 rfl (vs:=[Str.v r63.2.1,Str.v ([58]:Str)]) ⟨rfl,rfl,trivial⟩ Tryz.call177 (strings_Cut_sim h68 w0 _ M _ (sc8 hM))<|mv1 rfl<|lr (Ev.extract rfl rfl)<|lr (Ev.extract rfl rfl)<|lr (Ev.extract rfl rfl)<|as1 rfl<|as1 rfl<|as1 rfl<|nsr<|mv1 rfl ?_
 obtain ⟨r71,h72,H⟩:=bs H
 let T3:=({Saying.zero with From:=r71.1,Text:=r67.2.1}:Saying)
 refine cl1 rfl (vs:=[Str.v r63.1]) ⟨rfl,trivial⟩ Tryz.call178 (strconv_Atoi_sim h72 w0 _ M _ (sc8 hM))<|mv1 rfl<|lr (Ev.extract rfl rfl)<|lr (Ev.extract rfl rfl)<|as1 rfl<|as1 rfl<|nsr<|mv1 rfl<|mv1 rfl ?_
 obtain ⟨x75,h76,H⟩:=bs H
 have g77:=lat_some h76
 obtain ⟨⟨r78v,r78h1,⟨r78_2v,r78_2h1⟩,⟨r78_3v,r78_3h1⟩,⟨r78_4v,r78_4h1⟩⟩,r78g,r78e,r78m⟩:=map_get fm56 g77.2.2
 obtain rfl:x75=r78v:=r78e.symm
 have r78q:ProcessR.frel w0 _ _ (ProcessR.mk x75 r78h1 (FromR.mk r78_2v r78_2h1) (ToR.mk r78_3v r78_3h1) (ToR.mk r78_4v r78_4h1)):=fa57 _ r78m
 obtain ⟨r78_i2,r78_i3,r78_i4⟩:=r78q
 obtain ⟨r78_2e,r78_2q⟩:=r78_i2
 obtain rfl:r78_2v=x75.from_:=r78_2e
 have r78_2_f1:Rd w0 _ _ _ _:=r78_2q
 obtain ⟨r78_3e,r78_3q⟩:=r78_i3
 obtain rfl:r78_3v=x75.to:=r78_3e
 have r78_3_f1:Rd w0 _ _ _ _:=r78_3q
 obtain ⟨r78_4e,r78_4q⟩:=r78_i4
 obtain rfl:r78_4v=x75.orders:=r78_4e
 have r78_4_f1:Rd w0 _ _ _ _:=r78_4q
 have r78wg:=map_at ProcessR.row r78g
 refine lr (Ev.nilCheckS (α:=ProcessR) rfl (rdo 4 rfl rfl rfl) ((Get.elemN (s:=8) rfl r78g gh0).off (by omega)) rfl)<|lr (Ev.fieldS (α:=ProcessR) (f':=a1.To.toNat * 8+1) rfl (rdo 4 rfl rfl rfl) ((Get.elemN (s:=8) rfl r78g gh0).off (by omega)) rfl U100 rfl Z37 rfl rfl rfl)<|lr (Ev.loadS (α:=ProcessR) rfl (rdo 4 rfl rfl rfl) I37 (v:=Sl.v r78h1) ((Get.elemN (s:=8) rfl r78g (ProcessR.get_log gh0)).off (by omega)))<|mv1 rfl<|mv1 rfl<|lr (Ev.build (v:=.agg (enc T3).toArray) (pv:=[(0,iv r71.1),(1,Str.v r67.2.1)]) ⟨rfl,rfl,⟨rfl,rfl,trivial⟩⟩ (fun w=>by kernel_rfl)) ?_
 refine Lst.buildSlice (α:=Saying) (xs:=([T3]:List Saying)) (pv:=[(0,.agg (enc T3).toArray)]) rfl rfl (by decide) ⟨rfl,rfl,trivial⟩ (run_buildSlice (α:=Saying) (z0:=Saying.zero) (xs:=([T3]:List Saying)) U37 Z62 Tryz.zeroValue62 rfl rfl rfl (by decide) rfl (fill_one rfl rfl)) rfl rfl (by decide) (fun s79 _=>?_)
 let T16:Item:=.own s79 62 2 (encs ([T3]:List Saying))
 refine lf 4 rfl<|Lst.rowOut (k:=a1.To.toNat) r78wg rfl ?_
 obtain ⟨u82,h83,H⟩:=bs H
 refine Lst.append (i:=0) (α:=Saying) (xs:=x75.log) (ys:=([T3]:List Saying)) rfl rfl (by decide) rfl rfl U37 Tryz.typeInfo62 rfl rfl rfl rfl rfl rfl (rdo 2 rfl rfl rfl) rfl (room_some h83) rfl (fun s84=>?_)
 obtain ⟨x85,h86,H⟩:=bs H
 have g87:=lat_some h86
 obtain ⟨⟨r88v,r88h1,⟨r88_2v,r88_2h1⟩,⟨r88_3v,r88_3h1⟩,⟨r88_4v,r88_4h1⟩⟩,r88g,r88e,r88m⟩:=map_get fm56 g87.2.2
 let T18:=ProcessR.mk x85 r88h1 (FromR.mk x85.from_ r88_2h1) (ToR.mk x85.to r88_3h1) (ToR.mk x85.orders r88_4h1)
 let T0:=ProcessR.mk ({x85 with log:=x75.log++([T3]:List Saying)}:Procs) s84 (FromR.mk x85.from_ r88_2h1) (ToR.mk x85.to r88_3h1) (ToR.mk x85.orders r88_4h1)
 let T6:=rs55.set a1.To.toNat T0
 obtain rfl:x85=r88v:=r88e.symm
 have r88q:ProcessR.frel w0 _ _ (ProcessR.mk x85 r88h1 (FromR.mk r88_2v r88_2h1) (ToR.mk r88_3v r88_3h1) (ToR.mk r88_4v r88_4h1)):=fa57 _ r88m
 obtain ⟨r88_i2,r88_i3,r88_i4⟩:=r88q
 obtain ⟨r88_2e,r88_2q⟩:=r88_i2
 obtain rfl:r88_2v=x85.from_:=r88_2e
 have r88_2_f1:Rd w0 _ _ _ _:=r88_2q
 obtain ⟨r88_3e,r88_3q⟩:=r88_i3
 obtain rfl:r88_3v=x85.to:=r88_3e
 have r88_3_f1:Rd w0 _ _ _ _:=r88_3q
 obtain ⟨r88_4e,r88_4q⟩:=r88_i4
 obtain rfl:r88_4v=x85.orders:=r88_4e
 have r88_4_f1:Rd w0 _ _ _ _:=r88_4q
 have r88wg:=map_at ProcessR.row r88g
 refine lr (Ev.nilCheckS (α:=ProcessR) rfl (rdo 6 rfl rfl rfl) ((Get.elemN (s:=8) rfl r88g gh0).off (by omega)) rfl)<|lr (Ev.fieldS (α:=ProcessR) (f':=a1.To.toNat * 8+1) rfl (rdo 6 rfl rfl rfl) ((Get.elemN (s:=8) rfl r88g gh0).off (by omega)) rfl U100 rfl Z37 rfl rfl rfl) ?_
 obtain ⟨p89,h90,H⟩:=Let_some H
 let T10:=({y53 with all:=p89,ordered:=a0.ordered,way:=a0.way}:Wld)
 have hm91:T6.map ProcessR.v=p89:=(map_set fm56 _ _).trans h90
 have ha92:All ProcessR.frel w0 F58 [] T6:=All.set (All.monoProcessF fa57 fl nsl) (⟨⟨rfl,(r88_2_f1.mono fl nsl)⟩,⟨rfl,(r88_3_f1.mono fl nsl)⟩,⟨rfl,(r88_4_f1.mono fl nsl)⟩⟩)
 refine Lst.storeS (i:=6) rfl rfl rfl rfl rfl Z37 (vs:=[Sl.v s84]) rfl rfl (by decide) rfl (xs':=encs T6) ((Put.elemN (s:=8) (x:=T18) (y:=T0) rfl r88g (ProcessR.put_log (p:=T18) (l:=(x75.log++([T3]:List Saying))) (Put.here (vs:=[Sl.v s84]) rfl))).off (by omega)) (L':=(.own s84 62 2 (encs (x75.log++([T3]:List Saying))))::(.rows (α:=Saying) 62 ((List.map ProcessR.row rs55).set a1.To.toNat ⟨[],Sl.nil⟩))::T16::(.blk b24 (enc T4) 41)::T14::(.blk b6 (enc a1) 132)::(.own sa0x1 100 8 (encs T6))::T5::T7::(.blk ba0 (enc (WldR.mk T10 sa0x1 sa0x2 sa0x3)) 95)::L) rfl ?_
 refine Lst.rowIn (k:=a1.To.toNat) (by rw [List.getElem?_set_self (List.getElem?_eq_some_iff.1 r88wg).1]) rfl ?_
 refine Lst.its (L':=(.rows (α:=Saying) 62 (List.map ProcessR.row T6))::T16::(.blk b24 (enc T4) 41)::T14::(.blk b6 (enc a1) 132)::(.own sa0x1 100 8 (encs T6))::T5::T7::(.blk ba0 (enc (WldR.mk T10 sa0x1 sa0x2 sa0x3)) 95)::L) (by dsimp +zetaDelta only; rw [map_set_in (f:=ProcessR.row) (l:=rs55) (y:=T0) (b:=⟨x75.log++([T3]:List Saying),s84⟩) rfl] <;> rfl)<|nsr<|mv1 rfl<|lr (Ev.fo 2 rfl U132 rfl Z3 rfl rfl)<|lr (Ev.load (i:=4) rfl rfl I3 (v:=iv a1.To) ((Note.get_To gh0).off rfl))<|lr (Ev.eql rfl rfl)<|nt0 ?_
 rcases ic2 H with ⟨hb93,H⟩|⟨hb93,H⟩
 ·refine Cd.condF rfl hb93<|Cd.skip<|At.in_normal<|At.then<|Cd.region<|lr (Ev.incr (by omega) rfl rfl)<|mv1 rfl<|Lst.nil<|af 4 rfl<|af 4 rfl<|af 4 rfl ?_
  refine At.less (sk4 (sc1 rl)) ?_
  exact At.meet (i52+1,k52,T10,p89,T6) hF59 ⟨rfl,rfl,rfl,rfl,rfl,trivial⟩ rfl ⟨⟨hgo52 _ (sj H),by omega,hm91,(All.monoProcessF ha92 fl nsl)⟩,nls⟩
 refine Cd.condT rfl hb93<|sr0<|mv1 rfl ?_
 obtain ⟨r94,h95,H⟩:=bs H
 refine cl1 rfl (vs:=[Str.v r67.1]) ⟨rfl,trivial⟩ Tryz.call178 (strconv_Atoi_sim h95 w0 _ M _ (sc8 (sc1 hM)))<|mv1 rfl<|lr (Ev.extract rfl rfl)<|lr (Ev.extract rfl rfl)<|as1 rfl<|as1 rfl<|nt0<|Cd.seq<|Cd.as (e':=[(3,pv b6 0),(4,Sl.at sa0x1 (a1.To.toNat * 8)),(49,Sl.v s27),(50,iv (l28.length:Int)),(51,iv (i52:Int)),(18,iv r94.1)]) ⟨rfl,rfl,rfl,rfl,rfl,rfl,trivial⟩ rfl<|Cd.region<|mv1 rfl ?_
 obtain ⟨x98,h99,H⟩:=bs H
 have g100:=lat_some h99
 obtain ⟨⟨r101v,r101h1,⟨r101_2v,r101_2h1⟩,⟨r101_3v,r101_3h1⟩,⟨r101_4v,r101_4h1⟩⟩,r101g,r101e,r101m⟩:=map_get hm91 g100.2.2
 obtain rfl:x98=r101v:=r101e.symm
 have r101q:ProcessR.frel w0 _ _ (ProcessR.mk x98 r101h1 (FromR.mk r101_2v r101_2h1) (ToR.mk r101_3v r101_3h1) (ToR.mk r101_4v r101_4h1)):=ha92 _ r101m
 obtain ⟨r101_i2,r101_i3,r101_i4⟩:=r101q
 obtain ⟨r101_2e,r101_2q⟩:=r101_i2
 obtain rfl:r101_2v=x98.from_:=r101_2e
 have r101_2_f1:Rd w0 _ _ _ _:=r101_2q
 obtain ⟨r101_3e,r101_3q⟩:=r101_i3
 obtain rfl:r101_3v=x98.to:=r101_3e
 have r101_3_f1:Rd w0 _ _ _ _:=r101_3q
 obtain ⟨r101_4e,r101_4q⟩:=r101_i4
 obtain rfl:r101_4v=x98.orders:=r101_4e
 have r101_4_f1:Rd w0 _ _ _ _:=r101_4q
 have r101wg:=map_at ProcessR.row r101g
 refine lr (Ev.nilCheckS (α:=ProcessR) rfl (rdo 5 rfl rfl rfl) ((Get.elemN (s:=8) rfl r101g gh0).off (by omega)) rfl)<|lr (Ev.fieldS (α:=ProcessR) (f':=a1.To.toNat * 8+2) rfl (rdo 5 rfl rfl rfl) ((Get.elemN (s:=8) rfl r101g gh0).off (by omega)) rfl U100 rfl Z45 rfl rfl rfl)<|lr (Ev.loadSA (α:=ProcessR) rfl (rdo 5 rfl rfl rfl) I45 Z45 (ch:=enc (FromR.mk x98.from_ r101_2h1)) el (by decide) ((Get.elemN (s:=8) rfl r101g (ProcessR.get_from_ gh0)).off (by omega)))<|mv1 rfl<|lr (Ev.add rfl rfl) ?_
 obtain ⟨r102,h103,H⟩:=bs H
 refine cl rfl (vs:=[.agg (enc (FromR.mk x98.from_ r101_2h1)).toArray,iv (w64 (r94.1+(1:Int)))]) ⟨rfl,rfl,trivial⟩ Tryz.call179 (lane_Heard_sim h103 w0 _ M _ (sc8 (sc1 hM)) (r101_2_f1.mono fl nsl)) (fun F106 L' v hF107 hv=>?_)
 obtain ⟨s104,rfl,rfl⟩:=hv
 refine mv1 rfl<|lr (Ev.extract rfl rfl)<|lr (Ev.extract rfl rfl)<|Lst.addNil 9 1 ?_
 refine Lst.alloc (cs:=enc (FromR.mk ({From.zero with Late:=([]:List Str)}:From) Sl.nil)) rfl rfl (by decide) Tryz.zeroValue45 rfl (fun b109=>?_)
 refine lst 0 rfl rfl rfl Z45 (vs:=enc (FromR.mk r102.1 s104)) rfl el (Enc.one _) (cs':=enc (FromR.mk r102.1 s104)) phl rfl<|as1 rfl<|nsr<|mv1 rfl<|lr (Ev.eql rfl rfl)<|nt0 ?_
 rcases ic2 H with ⟨hb111,H⟩|⟨hb111,H⟩
 ·refine Cd.condF rfl hb111<|Cd.skip<|At.in_normal<|At.then<|Cd.region<|lr (Ev.incr (by omega) rfl rfl)<|mv1 rfl<|Lst.nil<|af 7 rfl<|af 7 rfl<|af 7 rfl ?_
  refine At.less (sk1 (sk2 (sc1 (sc2 (sk1 (sc1 rl)))))) ?_
  exact At.meet (i52+1,k52,T10,p89,T6) (ft hF59 hF107) ⟨rfl,rfl,rfl,rfl,rfl,trivial⟩ rfl ⟨⟨hgo52 _ (sj H),by omega,hm91,(All.monoProcessF ha92 hF107 nsl)⟩,nls⟩
 refine Cd.condT rfl hb111<|Cd.region<|mv1 rfl<|lr (Ev.loadA (i:=0) rfl rfl I45 Z45 (ch:=enc (FromR.mk r102.1 s104)) el gh0) ?_
 obtain ⟨x112,h113,H⟩:=bs H
 have g114:=lat_some h113
 obtain ⟨⟨r115v,r115h1,⟨r115_2v,r115_2h1⟩,⟨r115_3v,r115_3h1⟩,⟨r115_4v,r115_4h1⟩⟩,r115g,r115e,r115m⟩:=map_get hm91 g114.2.2
 let T17:=ProcessR.mk x112 r115h1 (FromR.mk x112.from_ r115_2h1) (ToR.mk x112.to r115_3h1) (ToR.mk x112.orders r115_4h1)
 let T2:=ProcessR.mk ({x112 with from_:=r102.1}:Procs) r115h1 (FromR.mk r102.1 s104) (ToR.mk x112.to r115_3h1) (ToR.mk x112.orders r115_4h1)
 obtain rfl:x112=r115v:=r115e.symm
 have r115q:ProcessR.frel w0 _ _ (ProcessR.mk x112 r115h1 (FromR.mk r115_2v r115_2h1) (ToR.mk r115_3v r115_3h1) (ToR.mk r115_4v r115_4h1)):=ha92 _ r115m
 obtain ⟨r115_i2,r115_i3,r115_i4⟩:=r115q
 obtain ⟨r115_2e,r115_2q⟩:=r115_i2
 obtain rfl:r115_2v=x112.from_:=r115_2e
 have r115_2_f1:Rd w0 _ _ _ _:=r115_2q
 obtain ⟨r115_3e,r115_3q⟩:=r115_i3
 obtain rfl:r115_3v=x112.to:=r115_3e
 have r115_3_f1:Rd w0 _ _ _ _:=r115_3q
 obtain ⟨r115_4e,r115_4q⟩:=r115_i4
 obtain rfl:r115_4v=x112.orders:=r115_4e
 have r115_4_f1:Rd w0 _ _ _ _:=r115_4q
 have r115wg:=map_at ProcessR.row r115g
 refine lr (Ev.nilCheckS (α:=ProcessR) rfl (rdo 8 rfl rfl rfl) ((Get.elemN (s:=8) rfl r115g gh0).off (by omega)) rfl)<|lr (Ev.fieldS (α:=ProcessR) (f':=a1.To.toNat * 8+2) rfl (rdo 8 rfl rfl rfl) ((Get.elemN (s:=8) rfl r115g gh0).off (by omega)) rfl U100 rfl Z45 rfl rfl rfl) ?_
 obtain ⟨p120,h121,H⟩:=Let_some H
 let T13:=({y53 with all:=p120,ordered:=a0.ordered,way:=a0.way}:Wld)
 have hm122:(T6.set a1.To.toNat T2).map ProcessR.v=p120:=(map_set hm91 _ _).trans h121
 refine Lst.freeze (i:=2) rfl (fun F116 hF117 hz118=>?_)
 have hq119:Rd w0 F116 [] s104 r102.1.Late:=Rd.frozen hz118 rfl rfl
 have ha123:All ProcessR.frel w0 F116 [] (T6.set a1.To.toNat T2):=All.set (All.monoProcessF ha92 (ft hF107 hF117) nsl) (⟨⟨rfl,(hq119.mono fl nsl)⟩,⟨rfl,(r115_3_f1.mono (ft hF107 hF117) nsl)⟩,⟨rfl,(r115_4_f1.mono (ft hF107 hF117) nsl)⟩⟩)
 refine Lst.storeS (i:=7) rfl rfl rfl rfl rfl Z45 (vs:=enc (FromR.mk r102.1 s104)) rfl el (by decide) (Enc.one _) (xs':=encs (T6.set a1.To.toNat T2)) ((Put.elemN (s:=8) (x:=T17) (y:=T2) rfl r115g (ProcessR.put_from_ (p:=T17) (l:=r102.1) phl)).off (by omega)) (L':=(.blk b109 (enc (FromR.mk r102.1 s104)) 45)::(.own Sl.nil 9 1 (encs ([]:List Str)))::(.rows (α:=Saying) 62 (List.map ProcessR.row T6))::T16::(.blk b24 (enc T4) 41)::T14::(.blk b6 (enc a1) 132)::(.own sa0x1 100 8 (encs (T6.set a1.To.toNat T2)))::T5::T7::(.blk ba0 (enc (WldR.mk T13 sa0x1 sa0x2 sa0x3)) 95)::L) rfl<|Lst.its (L':=(.blk b109 (enc (FromR.mk r102.1 s104)) 45)::(.own Sl.nil 9 1 (encs ([]:List Str)))::(.rows (α:=Saying) 62 (List.map ProcessR.row (T6.set a1.To.toNat T2)))::T16::(.blk b24 (enc T4) 41)::T14::(.blk b6 (enc a1) 132)::(.own sa0x1 100 8 (encs (T6.set a1.To.toNat T2)))::T5::T7::(.blk ba0 (enc (WldR.mk T13 sa0x1 sa0x2 sa0x3)) 95)::L) (by dsimp +zetaDelta only; rw [map_set_same (y:=T2) r115g rfl] <;> rfl)<|Lst.nil<|At.in_normal<|At.then<|Cd.region<|lr (Ev.incr (by omega) rfl rfl)<|mv1 rfl<|Lst.nil<|af 6 rfl<|af 6 rfl ?_
 refine af 6 rfl<|At.less (sk1 (sk2 (sc2 (sk1 (sc1 rl))))) ?_
 exact At.meet (i52+1,k52,T13,p120,(T6.set a1.To.toNat T2)) (ft (ft hF59 hF107) hF117) ⟨rfl,rfl,rfl,rfl,rfl,trivial⟩ rfl ⟨⟨hgo52 _ (sj H),by omega,hm122,(All.monoProcessF ha123 fl nsl)⟩,nls⟩
theorem world_World_deliver_sim {fu:Nat} {a0:Wld} {a1:Note} {ba0:Nat} {sa0x1:Sl} {ra0x1:List ProcessR} {sa0x2:Sl} {sa0x3:Sl} {r:(List Procs)×(List Str)×(List Str)×Wld} (H:world_World_deliver fu a0 a1=some r) (w0:World) (F:Frz) (M L:List Item) (hM:M.Sublist L) (hT:Tab Tryz.prog w0) (ma0x1:ra0x1.map ProcessR.v=a0.all) (na0x1:All ProcessR.frel w0 F [] ra0x1):Ok Tryz.prog w0 66 [pv ba0 0,.agg (enc a1).toArray] F ((.rows (α:=Saying) 62 (List.map ProcessR.row ra0x1))::(.own sa0x1 100 8 (encs ra0x1))::(.own sa0x2 9 1 (encs a0.ordered))::(.own sa0x3 9 1 (encs a0.way))::(.blk ba0 (enc (WldR.mk a0 sa0x1 sa0x2 sa0x3)) 95)::L) (fun Fx L' v=>∃ (rs6:List ProcessR) (s9:Sl) (s10:Sl),v=.tuple #[]∧L'=(.rows (α:=Saying) 62 (List.map ProcessR.row rs6))::(.own sa0x1 100 8 (encs rs6))::(.own s9 9 1 (encs r.2.1))::(.own s10 9 1 (encs r.2.2.1))::(.blk ba0 (enc (WldR.mk ({r.2.2.2 with all:=r.1,ordered:=r.2.1,way:=r.2.2.1}:Wld) sa0x1 s9 s10)) 95)::L∧rs6.map ProcessR.v=r.1∧All ProcessR.frel w0 Fx [] rs6):=by
 unfold world_World_deliver at H
 refine Ok.enter (m:=2) (n:=56) Tryz.func66 rfl rfl rfl (by decide)<|Cd.env (e':=[(0,pv ba0 0),(1,.agg (enc a1).toArray)]) rfl<|sr0 ?_
 refine Lst.box rfl rfl (by decide) rfl (cs:=enc a1) rfl (fun b6=>?_)
 refine nt0<|Cd.seq<|sr0<|mv1 rfl<|lr (Ev.fo 1 rfl U132 rfl Z3 rfl rfl)<|lr (Ev.load (i:=0) rfl rfl I3 (v:=iv a1.From) ((Note.get_From gh0).off rfl)) ?_
 obtain ⟨r8,h9,H⟩:=bs H
 refine lf 5 rfl<|lf 5 rfl<|lf 5 rfl<|lf 5 rfl<|lf 5 rfl<|cl1 rfl (vs:=[pv ba0 0,iv a1.From]) ⟨rfl,rfl,trivial⟩ Tryz.call43 (world_World_known_sim h9 w0 _ M _ (sc1 hM) ma0x1 (All.monoProcessF na0x1 fl nsl))<|lr (Ev.neq rfl rfl)<|nt0 ?_
 rcases ic H with ⟨hb12,H⟩|⟨hb12,H⟩
 ·refine Cd.condT rfl hb12 ?_
  obtain rfl:=si H
  refine Cd.ret<|At.then_ret ?_
  exact At.ret0 (.inl rfl) rfl fl (sk1 (sk4 (sc1 rl))) ⟨ra0x1,sa0x2,sa0x3,rfl,rfl,ma0x1,(All.monoProcessF na0x1 fl nsl)⟩
 refine Cd.condF rfl hb12<|Cd.skip<|At.then<|sr0<|lr (Ev.fo 0 rfl U132 rfl Z3 rfl rfl)<|lr (Ev.load (i:=5) rfl rfl I3 (v:=iv a1.Kind) ((Note.get_Kind gh0).off rfl))<|nt0<|Cd.block<|sr0<|lr (Ev.eql rfl rfl)<|as1 rfl ?_
 refine nt0 ?_
 rcases ic H with ⟨hb13,H⟩|⟨hb13,H⟩
 ·refine Cd.condT rfl hb13<|Cd.region<|mv1 rfl<|lr (Ev.loadA (i:=5) rfl rfl I132 Z132 (ch:=enc a1) el gh0) ?_
  obtain ⟨r14,h15,H⟩:=bs H
  refine cl rfl (vs:=[pv ba0 0,.agg (enc a1).toArray]) ⟨rfl,rfl,trivial⟩ Tryz.call119 (world_World_order_sim h15 w0 _ M _ (sc1 hM) hT ma0x1 (All.monoProcessF na0x1 fl nsl)) (fun F21 L' v hF22 hv=>?_)
  obtain ⟨rs16,s19,s20,rfl,rfl,fm17,fa18⟩:=hv
  refine Lst.nil<|At.in_normal ?_
  obtain rfl:=si H
  exact At.ret0 (.inr rfl) rfl hF22 (sk1 (sk4 (sc1 rl))) ⟨rs16,s19,s20,rfl,rfl,fm17,(All.monoProcessF fa18 fl nsl)⟩
 refine Cd.condF rfl hb13<|sr0<|lr (Ev.eql rfl rfl)<|as1 rfl<|nt0 ?_
 rcases ic2 H with ⟨hb23,H⟩|⟨hb23,H⟩
 ·refine Cd.condF rfl hb23<|sr0<|lr (Ev.eql rfl rfl)<|as1 rfl<|nt0 ?_
  rcases ic2 H with ⟨hb24,H⟩|⟨hb24,H⟩
  ·refine Cd.condF rfl hb24<|Cd.skip<|At.in_normal ?_
   obtain rfl:=si H
   exact At.ret0 (.inr rfl) rfl fl (sk1 (sk4 (sc1 rl))) ⟨ra0x1,sa0x2,sa0x3,rfl,rfl,ma0x1,(All.monoProcessF na0x1 fl nsl)⟩
  refine Cd.condT rfl hb24<|Cd.region<|mv1 rfl<|lr (Ev.loadA (i:=5) rfl rfl I132 Z132 (ch:=enc a1) el gh0) ?_
  obtain ⟨r25,h26,H⟩:=bs H
  refine cl rfl (vs:=[pv ba0 0,.agg (enc a1).toArray]) ⟨rfl,rfl,trivial⟩ Tryz.call120 (world_World_take_sim h26 w0 _ M _ (sc1 hM) ma0x1 (All.monoProcessF na0x1 fl nsl)) (fun F30 L' v hF31 hv=>?_)
  obtain ⟨rs27,rfl,rfl,fm28,fa29⟩:=hv
  refine Lst.nil<|At.in_normal ?_
  obtain rfl:=si H
  exact At.ret0 (.inr rfl) rfl hF31 (sk1 (sk4 (sc1 rl))) ⟨rs27,sa0x2,sa0x3,rfl,rfl,fm28,(All.monoProcessF fa29 fl nsl)⟩
 refine Cd.condT rfl hb23<|sr0<|lr (Ev.fo 4 rfl U132 rfl Z3 rfl rfl)<|lr (Ev.load (i:=5) rfl rfl I3 (v:=iv a1.Seq) ((Note.get_Seq gh0).off rfl))<|as1 rfl<|nt0<|Cd.block ?_
 obtain ⟨ol32,H,HKl32⟩:=andThen_some H
 refine Cd.loop (σ:=Nat×Int×Wld×Sl×(List Str)) (fun (k32,y33,y34,s35,l36)=>[(0,pv ba0 0),(3,pv b6 0),(4,iv y33)]) (fun (k32,y33,y34,s35,l36)=>(.rows (α:=Saying) 62 (List.map ProcessR.row ra0x1))::(.own sa0x1 100 8 (encs ra0x1))::(.own sa0x2 9 1 (encs a0.ordered))::(.own s35 9 1 (encs l36))::(.blk ba0 (enc (WldR.mk ({y34 with all:=a0.all,ordered:=a0.ordered,way:=l36}:Wld) sa0x1 sa0x2 s35)) 95)::(.blk b6 (enc a1) 132)::L) (fun _=>(fun (k32,y33,y34,s35,l36)=>whileM (world_World_deliver_B1 a0 a1) k32 (y33,y34,l36)=some ol32)) (fun (k32,y33,y34,s35,l36)=>k32) (fu,a1.Seq,a0,sa0x3,a0.way) ⟨rfl,rfl,rfl,trivial⟩ rfl H ?_
 rintro F37 ⟨k32,y33,y34,s35,l36⟩ hF38 H
 rcases k32 with _ | k32
 ·cases H
 obtain ⟨c32,H,hgo32,hbrk32,hret32⟩:=whileM_go H
 unfold world_World_deliver_B1 at H
 try dsimp only at H
 refine Cd.seq<|sr0<|mv1 rfl<|mv1 rfl<|lr (Ev.nilCheck rfl)<|lr (Ev.fo 3 rfl U95 rfl Z43 rfl rfl)<|lr (Ev.load (i:=4) rfl rfl I43 (v:=Sl.v sa0x2) ((WldR.get_ordered gh0).off rfl))<|lr (Ev.lenS (α:=Str) (xs:=a0.ordered) (by decide) rfl rfl U43 (rdo 2 rfl rfl rfl))<|lr (Ev.lss rfl rfl)<|mv1 rfl ?_
 obtain ⟨o39,H,HKo39⟩:=bs H
 refine Lst.join (σ:=Bool) 6 (fun y40=>[(0,pv ba0 0),(3,pv b6 0),(4,iv y33),(34,.bool y40)]) (fun y40=>(.rows (α:=Saying) 62 (List.map ProcessR.row ra0x1))::(.own sa0x1 100 8 (encs ra0x1))::(.own sa0x2 9 1 (encs a0.ordered))::(.own s35 9 1 (encs l36))::(.blk ba0 (enc (WldR.mk ({y34 with all:=a0.all,ordered:=a0.ordered,way:=l36}:Wld) sa0x1 sa0x2 s35)) 95)::(.blk b6 (enc a1) 132)::L) (fun _ y40=>y40=o39) ?_ ?_
 ·rcases ic2 H with ⟨hb41,H⟩|⟨hb41,H⟩
  ·refine lsk rfl hb41<|lsk rfl hb41<|lsk rfl hb41<|lsk rfl hb41<|lsk rfl hb41<|lr (Ev.pickF rfl hb41 rfl)<|Lst.nil ?_
   exact At.meet false fl ⟨rfl,rfl,rfl,rfl,trivial⟩ rfl (si H)
  refine lg hb41 (Ev.move rfl)<|lg hb41 (Ev.fo 4 rfl U132 rfl Z3 rfl rfl)<|lg hb41 (Ev.load (i:=5) rfl rfl I3 (v:=iv a1.Seq) ((Note.get_Seq gh0).off rfl))<|lg hb41 (Ev.add rfl rfl)<|lg hb41 (Ev.lss rfl rfl)<|lr (Ev.pickT rfl hb41 rfl)<|Lst.nil ?_
  exact At.meet (decide (y33 < (w64 (a1.Seq+(4:Int))))) fl ⟨rfl,rfl,rfl,rfl,trivial⟩ rfl (si H)
 rintro F42 y40 hF43 hy
 subst hy
 replace H:=HKo39
 refine nt0 ?_
 rcases ic2 H with ⟨hb44,H⟩|⟨hb44,H⟩
 ·refine Cd.condF rfl hb44<|Cd.exit<|At.then_exit<|At.then_exit<|At.in_exit ?_
  have H:=hbrk32 _ (sj H)
  subst H
  replace H:=HKl32
  try dsimp only [Sum.elim_inl] at H
  refine At.in_normal ?_
  obtain rfl:=si H
  exact At.ret0 (.inr rfl) rfl (ft hF38 hF43) (sk1 (sk4 (sc1 rl))) ⟨ra0x1,sa0x2,s35,rfl,rfl,ma0x1,(All.monoProcessF na0x1 (ft hF38 hF43) nsl)⟩
 refine Cd.condT rfl hb44<|Cd.skip<|At.then<|Cd.seq<|Cd.block<|Cd.tail 13 (by kernel_rfl) (by kernel_rfl)<|qr (Ev.move rfl)<|qr (Ev.move rfl) ?_
 obtain ⟨r45,h46,H⟩:=bs H
 refine Qt.call rfl rfl (by decide) (vs:=[pv ba0 0]) ⟨rfl,trivial⟩ Tryz.call62 (world_World_sequencer_sim h46 w0 _ M _ (sc1 hM) ma0x1 (All.monoProcessF na0x1 (ft hF38 hF43) nsl))<|qr (Ev.fo 1 rfl U132 rfl Z3 rfl rfl)<|qr (Ev.load (i:=5) rfl rfl I3 (v:=iv a1.From) ((Note.get_From gh0).off rfl))<|qr (Ev.move rfl)<|qr (Ev.move rfl)<|qr (Ev.nilCheck rfl)<|qr (Ev.fo 3 rfl U95 rfl Z43 rfl rfl)<|qr (Ev.load (i:=4) rfl rfl I43 (v:=Sl.v sa0x2) ((WldR.get_ordered gh0).off rfl))<|qr (Ev.move rfl) ?_
 obtain ⟨x49,h50,H⟩:=bs H
 have g51:=lat_some h50
 refine qr (Ev.indexS (α:=Str) (xs:=a0.ordered) rfl rfl U43 Z9 rfl (by decide) (rdo 2 rfl rfl rfl) g51.1 g51.2.1)<|qr (Ev.loadS (α:=Str) rfl (rdo 2 rfl rfl rfl) I9 (v:=Str.v x49) ((Get.elemN (s:=1) (x:=x49) rfl g51.2.2 gh0).off (by omega)))<|Qt.tail ?_
 obtain ⟨r52,h53,H⟩:=bs H
 refine cl rfl (vs:=[pv ba0 0,iv (2:Int),iv r45,iv a1.From,iv y33,Str.v x49]) ⟨rfl,rfl,rfl,rfl,rfl,rfl,trivial⟩ Tryz.call61 (world_World_send_sim h53 w0 _ M _ (sc1 hM) ma0x1 (All.monoProcessF na0x1 (ft hF38 hF43) nsl)) (fun F55 L' v hF56 hv=>?_)
 obtain ⟨s54,rfl,rfl⟩:=hv
 refine Lst.nil<|At.in_normal<|At.then<|Cd.region<|mv1 rfl<|lr (Ev.add rfl rfl)<|as1 rfl<|Lst.nil ?_
 exact At.meet (k32,w64 (y33+(1:Int)),({r52.2 with all:=a0.all,ordered:=a0.ordered,way:=r52.1}:Wld),s54,r52.1) (ft (ft hF38 hF43) hF56) ⟨rfl,rfl,rfl,trivial⟩ rfl ⟨hgo32 _ (sj H),nls⟩
theorem world_World_Move_sim {fu:Nat} {a0:Wld} {a1:Int} {a2:Int} {ba0:Nat} {sa0x1:Sl} {ra0x1:List ProcessR} {sa0x2:Sl} {sa0x3:Sl} {r:(List Procs)×(List Str)×Wld×Int} (H:world_World_Move fu a0 a1 a2=some r) (w0:World) (F:Frz) (M L:List Item) (hM:M.Sublist L) (hT:Tab Tryz.prog w0) (ma0x1:ra0x1.map ProcessR.v=a0.all) (na0x1:All ProcessR.frel w0 F [] ra0x1):Ok Tryz.prog w0 32 [pv ba0 0,iv a1,iv a2] F ((.rows (α:=Saying) 62 (List.map ProcessR.row ra0x1))::(.own sa0x1 100 8 (encs ra0x1))::(.own sa0x2 9 1 (encs a0.ordered))::(.own sa0x3 9 1 (encs a0.way))::(.blk ba0 (enc (WldR.mk a0 sa0x1 sa0x2 sa0x3)) 95)::L) (fun Fx L' v=>∃ (rs6:List ProcessR) (s9:Sl) (s10:Sl),v=iv r.2.2.2∧L'=(.own s10 9 1 (encs r.2.2.1.way))::(.rows (α:=Saying) 62 (List.map ProcessR.row rs6))::(.own sa0x1 100 8 (encs rs6))::(.own s9 9 1 (encs r.2.1))::(.blk ba0 (enc (WldR.mk ({r.2.2.1 with all:=r.1,ordered:=r.2.1}:Wld) sa0x1 s9 s10)) 95)::L∧rs6.map ProcessR.v=r.1∧All ProcessR.frel w0 Fx [] rs6):=by
 unfold world_World_Move at H
 refine Ok.enter (m:=3) (n:=95) Tryz.func32 rfl rfl rfl (by decide)<|Cd.env (e':=[(0,pv ba0 0),(1,iv a1),(2,iv a2)]) rfl<|sr0<|as1 rfl<|nt0<|Cd.seq<|Cd.block<|sr0<|mv1 rfl ?_
 obtain ⟨r6,h7,H⟩:=bs H
 refine cl1 rfl (vs:=[iv a2,iv (1:Int),iv (3:Int)]) ⟨rfl,rfl,rfl,trivial⟩ Tryz.call34 (world_in_sim h7 w0 _ M _ (sc4 (sc1 hM)))<|lr (Ev.not rfl)<|as1 rfl<|nt0 ?_
 rcases ic H with ⟨hb10,H⟩|⟨hb10,H⟩
 ·refine Cd.condT rfl hb10<|sr0<|as1 rfl<|nt0 ?_
  obtain rfl:=si H
  refine Cd.ret<|At.in_ret<|At.then_ret<|af 3 rfl ?_
  exact At.ret1 rfl (Res.tmp rfl) fl rl ⟨ra0x1,sa0x2,sa0x3,rfl,rfl,ma0x1,(All.monoProcessF na0x1 fl nsl)⟩
 refine Cd.condF rfl hb10<|sr0<|mv1 rfl<|mv1 rfl<|lr (Ev.nilCheck rfl)<|lr (Ev.fo 4 rfl U95 rfl Z43 rfl rfl)<|lr (Ev.load (i:=4) rfl rfl I43 (v:=Sl.v sa0x3) ((WldR.get_way gh0).off rfl))<|lr (Ev.lenS (α:=Str) (xs:=a0.way) (by decide) rfl rfl U43 (rdo 3 rfl rfl rfl))<|lr (Ev.sub rfl rfl) ?_
 obtain ⟨r11,h12,H⟩:=bs H
 refine cl1 rfl (vs:=[iv a1,iv (0:Int),iv (w64 ((a0.way.length:Int) - (1:Int)))]) ⟨rfl,rfl,rfl,trivial⟩ Tryz.call34 (world_in_sim h12 w0 _ M _ (sc4 (sc1 hM)))<|lr (Ev.not rfl)<|as1 rfl<|nt0 ?_
 rcases ic H with ⟨hb15,H⟩|⟨hb15,H⟩
 ·refine Cd.condT rfl hb15<|sr0<|as1 rfl<|nt0 ?_
  obtain rfl:=si H
  refine Cd.ret<|At.in_ret<|At.then_ret<|af 3 rfl ?_
  exact At.ret1 rfl (Res.tmp rfl) fl rl ⟨ra0x1,sa0x2,sa0x3,rfl,rfl,ma0x1,(All.monoProcessF na0x1 fl nsl)⟩
 refine Cd.condF rfl hb15<|sr0<|mv1 rfl<|lr (Ev.eql rfl rfl)<|mv1 rfl ?_
 obtain ⟨o16,H,HKo16⟩:=bs H
 refine Lst.join (σ:=Bool) 7 (fun y17=>[(0,pv ba0 0),(1,iv a1),(2,iv a2),(34,.bool y17)]) (fun y17=>(.rows (α:=Saying) 62 (List.map ProcessR.row ra0x1))::(.own sa0x1 100 8 (encs ra0x1))::(.own sa0x2 9 1 (encs a0.ordered))::(.own sa0x3 9 1 (encs a0.way))::(.blk ba0 (enc (WldR.mk a0 sa0x1 sa0x2 sa0x3)) 95)::L) (fun _ y17=>y17=o16) ?_ ?_
 ·rcases ic2 H with ⟨hb18,H⟩|⟨hb18,H⟩
  ·refine lsk rfl hb18<|lsk rfl hb18<|lsk rfl hb18<|lsk rfl hb18<|lsk rfl hb18<|lsk rfl hb18<|lr (Ev.pickF rfl hb18 rfl)<|Lst.nil ?_
   exact At.meet false fl ⟨rfl,rfl,rfl,rfl,trivial⟩ rfl (si H)
  refine lg hb18 (Ev.move rfl)<|lg hb18 (Ev.nilCheck rfl)<|lg hb18 (Ev.fo 4 rfl U95 rfl Z43 rfl rfl)<|lg hb18 (Ev.load (i:=4) rfl rfl I43 (v:=Sl.v sa0x3) ((WldR.get_way gh0).off rfl))<|lg hb18 (Ev.lenS (α:=Str) (xs:=a0.way) (by decide) rfl rfl U43 (rdo 3 rfl rfl rfl))<|lg hb18 (Ev.eql rfl rfl)<|lr (Ev.pickT rfl hb18 rfl)<|Lst.nil ?_
  exact At.meet ((a0.way.length:Int)==(60:Int)) fl ⟨rfl,rfl,rfl,rfl,trivial⟩ rfl (si H)
 rintro F19 y17 hF20 hy
 subst hy
 replace H:=HKo16
 refine as1 rfl<|nt0 ?_
 rcases ic H with ⟨hb21,H⟩|⟨hb21,H⟩
 ·refine Cd.condT rfl hb21<|sr0<|as1 rfl<|nt0 ?_
  obtain rfl:=si H
  refine Cd.ret<|At.in_ret<|At.then_ret<|af 3 rfl ?_
  exact At.ret1 rfl (Res.tmp rfl) hF20 rl ⟨ra0x1,sa0x2,sa0x3,rfl,rfl,ma0x1,(All.monoProcessF na0x1 hF20 nsl)⟩
 refine Cd.condF rfl hb21<|Cd.skip<|At.in_normal<|At.then<|sr0<|mv1 rfl<|lr (Ev.nilCheck rfl)<|lr (Ev.fo 4 rfl U95 rfl Z43 rfl rfl)<|lr (Ev.load (i:=4) rfl rfl I43 (v:=Sl.v sa0x3) ((WldR.get_way gh0).off rfl))<|mv1 rfl ?_
 obtain ⟨x22,h23,H⟩:=bs H
 have g24:=lat_some h23
 refine lr (Ev.indexS (α:=Str) (xs:=a0.way) rfl rfl U43 Z9 rfl (by decide) (rdo 3 rfl rfl rfl) g24.1 g24.2.1)<|lr (Ev.loadS (α:=Str) rfl (rdo 3 rfl rfl rfl) I9 (v:=Str.v x22) ((Get.elemN (s:=1) (x:=x22) rfl g24.2.2 gh0).off (by omega)))<|as1 rfl<|nt0<|Cd.seq<|sr0<|mv1 rfl<|lr (Ev.eql rfl rfl)<|nt0 ?_
 rcases ic H with ⟨hb25,H⟩|⟨hb25,H⟩
 ·refine Cd.condT rfl hb25<|sr0<|mv1 rfl<|mv1 rfl<|lr (Ev.nilCheck rfl)<|lr (Ev.fo 4 rfl U95 rfl Z43 rfl rfl)<|lr (Ev.load (i:=4) rfl rfl I43 (v:=Sl.v sa0x3) ((WldR.get_way gh0).off rfl))<|mv1 rfl ?_
  refine Lst.buildSlice (α:=Str) (xs:=([x22]:List Str)) (pv:=[(0,Str.v x22)]) rfl rfl (by decide) ⟨rfl,rfl,trivial⟩ (run_buildSlice (α:=Str) (z0:=([]:Str)) (xs:=([x22]:List Str)) U43 Z9 Tryz.zeroValue9 rfl rfl rfl (by decide) rfl (fill_one rfl rfl)) rfl rfl (by decide) (fun s26 _=>?_)
  obtain ⟨u28,h29,H⟩:=bs H
  refine Lst.append (i:=4) (α:=Str) (xs:=a0.way) (ys:=([x22]:List Str)) rfl rfl (by decide) rfl rfl U43 Tryz.typeInfo9 rfl rfl rfl rfl rfl rfl (rdo 0 rfl rfl rfl) rfl (room_some h29) rfl (fun s30=>?_)
  refine lr (Ev.nilCheck rfl)<|lr (Ev.fo 4 rfl U95 rfl Z43 rfl rfl)<|lst 5 rfl rfl rfl Z43 (vs:=[Sl.v s30]) rfl rfl rfl (cs':=enc (WldR.mk ({a0 with way:=a0.way++([x22]:List Str)}:Wld) sa0x1 sa0x2 s30)) ((WldR.put_way (Put.here (vs:=[Sl.v s30]) rfl)).off rfl) rfl<|nsr<|as1 rfl<|nt0 ?_
  obtain rfl:=si H
  refine Cd.ret<|At.then_ret<|af 4 rfl ?_
  exact At.ret1 rfl (Res.tmp rfl) hF20 (sk1 (sc1 rl)) ⟨ra0x1,sa0x2,s30,rfl,rfl,ma0x1,(All.monoProcessF na0x1 hF20 nsl)⟩
 refine Cd.condF rfl hb25<|Cd.skip<|At.then<|sr0<|mv1 rfl<|mv1 rfl<|lr (Ev.nilCheck rfl)<|lr (Ev.fo 4 rfl U95 rfl Z43 rfl rfl)<|lr (Ev.load (i:=4) rfl rfl I43 (v:=Sl.v sa0x3) ((WldR.get_way gh0).off rfl))<|mv1 rfl<|mv1 rfl ?_
 refine lr (Ev.add rfl rfl) ?_
 obtain ⟨r31,h32,H⟩:=bs H
 refine lf 3 rfl ?_
 refine cl rfl (vs:=[Sl.v sa0x3,iv a1,iv (w64 (a1+(1:Int)))]) ⟨rfl,rfl,rfl,trivial⟩ Tryz.call63 (slices_Delete_string_string_sim h32 w0 _ M _ (sc4 hM)) (fun F35 L' v hF36 hv=>?_)
 obtain ⟨s33,rfl,rfl⟩:=hv
 refine lr (Ev.nilCheck rfl)<|lr (Ev.fo 4 rfl U95 rfl Z43 rfl rfl)<|lst 4 rfl rfl rfl Z43 (vs:=[Sl.v s33]) rfl rfl rfl (cs':=enc (WldR.mk ({a0 with way:=r31}:Wld) sa0x1 sa0x2 s33)) ((WldR.put_way (Put.here (vs:=[Sl.v s33]) rfl)).off rfl) rfl<|nsr<|mv1 rfl ?_
 obtain ⟨r37,h38,H⟩:=bs H
 refine cl1 rfl (vs:=[Str.v x22]) ⟨rfl,trivial⟩ Tryz.call64 (wire_Read_sim h38 w0 _ M _ (sc4 (sc1 hM)))<|mv1 rfl<|lr (Ev.extract rfl rfl)<|lr (Ev.extract rfl rfl) ?_
 refine Lst.alloc (cs:=enc Note.zero) rfl rfl (by decide) Tryz.zeroValue132 rfl (fun b41=>?_)
 refine lst 0 rfl rfl rfl Z132 (vs:=enc r37.1) rfl el (Enc.one _) (cs':=enc r37.1) phl rfl<|as1 rfl<|nt0 ?_
 obtain ⟨o52,H,HKo52⟩:=bs H
 refine Cd.join (σ:=Wld×Sl×(List Str)×(List Procs)×(List ProcessR)×Sl×(List Str)) (fun (y43,s44,l45,l46,rs47,s50,l51)=>[]) (fun (y43,s44,l45,l46,rs47,s50,l51)=>(.blk b41 (enc r37.1) 132)::(.own s44 9 1 (encs l45))::(.rows (α:=Saying) 62 (List.map ProcessR.row rs47))::(.own sa0x1 100 8 (encs rs47))::(.own s50 9 1 (encs l51))::(.blk ba0 (enc (WldR.mk ({y43 with all:=l46,ordered:=l51,way:=l45}:Wld) sa0x1 s50 s44)) 95)::L) (fun Fx (y43,s44,l45,l46,rs47,s50,l51)=>(y43,l45,l46,l51)=o52∧rs47.map ProcessR.v=l46∧All ProcessR.frel w0 Fx [] rs47) ?_ ?_
 ·refine Cd.seq<|Cd.quiet (by kernel_rfl) (by kernel_rfl)<|qr (Ev.move rfl)<|qr (Ev.eql rfl rfl)<|qr (Ev.move rfl) ?_
  obtain ⟨o53,H,HKo53⟩:=bs H
  refine Qt.join (σ:=Bool) 3 (fun y54=>[(0,pv ba0 0),(8,pv b41 0),(75,.bool y54)]) (fun y54=>y54=o53) ?_ ?_
  ·rcases ic2 H with ⟨hb55,H⟩|⟨hb55,H⟩
   ·refine qsk rfl hb55<|qsk rfl hb55<|qr (Ev.pickF rfl hb55 rfl) ?_
    exact Qt.meet false ⟨rfl,rfl,rfl,trivial⟩ (si H)
   refine qg hb55 (Ev.move rfl)<|qg hb55 (Ev.eql rfl rfl)<|qr (Ev.pickT rfl hb55 rfl) ?_
   exact Qt.meet (r37.2==(0:Int)) ⟨rfl,rfl,rfl,trivial⟩ (si H)
  rintro y54 hy
  subst hy
  refine Qt.as (e':=[(0,pv ba0 0),(8,pv b41 0),(75,.bool y54)]) ⟨rfl,rfl,rfl,trivial⟩ ?_
  replace H:=HKo53
  refine qr (Ev.move rfl) ?_
  obtain ⟨o56,H,HKo56⟩:=bs H
  refine Qt.join (σ:=Bool) 9 (fun y57=>[(0,pv ba0 0),(8,pv b41 0),(85,.bool y57)]) (fun y57=>y57=o56) ?_ ?_
  ·rcases ic2 H with ⟨hb58,H⟩|⟨hb58,H⟩
   ·refine qsk rfl hb58<|qsk rfl hb58<|qsk rfl hb58<|qsk rfl hb58<|qsk rfl hb58<|qsk rfl hb58<|qsk rfl hb58<|qsk rfl hb58<|qr (Ev.pickF rfl hb58 rfl) ?_
    exact Qt.meet false ⟨rfl,rfl,rfl,trivial⟩ (si H)
   refine qg hb58 (Ev.fo 3 rfl U132 rfl Z3 rfl rfl)<|qg hb58 (Ev.load (i:=0) rfl rfl I3 (v:=iv r37.1.View) ((Note.get_View gh0).off rfl))<|qg hb58 (Ev.move rfl)<|qg hb58 (Ev.nilCheck rfl)<|qg hb58 (Ev.fo 0 rfl U95 rfl Z34 rfl rfl)<|qg hb58 (Ev.fo 0 rfl U34 rfl Z3 rfl rfl)<|qg hb58 (Ev.load (i:=5) rfl rfl I3 (v:=iv a0.view.Num) ((WldR.get_view (View.get_Num gh0)).off rfl))<|qg hb58 (Ev.eql rfl rfl)<|qr (Ev.pickT rfl hb58 rfl) ?_
   exact Qt.meet (r37.1.View==a0.view.Num) ⟨rfl,rfl,rfl,trivial⟩ (si H)
  rintro y57 hy
  subst hy
  refine Qt.as (e':=[(0,pv ba0 0),(8,pv b41 0),(85,.bool y57)]) ⟨rfl,rfl,rfl,trivial⟩ ?_
  replace H:=HKo56
  refine qr (Ev.move rfl) ?_
  obtain ⟨o59,H,HKo59⟩:=bs H
  refine Qt.join (σ:=Bool) 5 (fun y60=>[(0,pv ba0 0),(8,pv b41 0),(91,.bool y60)]) (fun y60=>y60=o59) ?_ ?_
  ·rcases ic2 H with ⟨hb61,H⟩|⟨hb61,H⟩
   ·refine qsk rfl hb61<|qsk rfl hb61<|qsk rfl hb61<|qsk rfl hb61<|qr (Ev.pickF rfl hb61 rfl) ?_
    exact Qt.meet false ⟨rfl,rfl,rfl,trivial⟩ (si H)
   refine qg hb61 (Ev.move rfl)<|qg hb61 (Ev.fo 2 rfl U132 rfl Z3 rfl rfl)<|qg hb61 (Ev.load (i:=0) rfl rfl I3 (v:=iv r37.1.To) ((Note.get_To gh0).off rfl)) ?_
   obtain ⟨r62,h63,H⟩:=bs H
   refine Qt.callG rfl rfl rfl hb61 rfl (by decide) (vs:=[pv ba0 0,iv r37.1.To]) ⟨rfl,rfl,trivial⟩ Tryz.call65 (Ok.isPerm (List.Perm.trans (front_perm (i:=5) rfl) (List.Perm.trans (front_perm (i:=2) rfl) (List.Perm.trans (front_perm (i:=5) rfl) (List.Perm.trans (front_perm (i:=5) rfl) (front_perm (i:=5) rfl))))) (world_World_active_sim h63 w0 _ M _ (sc1 hM) ma0x1 (All.monoProcessF na0x1 (ft hF20 hF36) nsl)))<|qr (Ev.pickT rfl hb61 rfl) ?_
   exact Qt.meet r62 ⟨rfl,rfl,rfl,trivial⟩ (si H)
  rintro y60 hy
  subst hy
  refine Qt.as (e':=[(0,pv ba0 0),(8,pv b41 0),(91,.bool y60)]) ⟨rfl,rfl,rfl,trivial⟩ ?_
  replace H:=HKo59
  refine Qt.done<|At.then ?_
  rcases ic2 H with ⟨hb66,H⟩|⟨hb66,H⟩
  ·refine Cd.condF rfl hb66<|Cd.skip ?_
   exact At.meet (({a0 with way:=r31}:Wld),s33,r31,a0.all,ra0x1,sa0x2,a0.ordered) fl trivial rfl ⟨si H,ma0x1,(All.monoProcessF na0x1 (ft hF20 hF36) nsl)⟩
  refine Cd.condT rfl hb66<|Cd.region<|mv1 rfl<|lr (Ev.loadA (i:=0) rfl rfl I132 Z132 (ch:=enc r37.1) el gh0) ?_
  obtain ⟨r67,h68,H⟩:=bs H
  refine lf 5 rfl<|lf 2 rfl<|lf 5 rfl<|lf 5 rfl<|lf 5 rfl ?_
  refine cl rfl (vs:=[pv ba0 0,.agg (enc r37.1).toArray]) ⟨rfl,rfl,trivial⟩ Tryz.call66 (world_World_deliver_sim h68 w0 _ M _ (sc1 hM) hT ma0x1 (All.monoProcessF na0x1 (ft hF20 hF36) nsl)) (fun F74 L' v hF75 hv=>?_)
  obtain ⟨rs69,s72,s73,rfl,rfl,fm70,fa71⟩:=hv
  refine Lst.nil<|af 3 rfl<|af 5 rfl ?_
  exact At.meet (({r67.2.2.2 with all:=r67.1,ordered:=r67.2.1,way:=r67.2.2.1}:Wld),s73,r67.2.2.1,r67.1,rs69,s72,r67.2.1) hF75 trivial rfl ⟨si H,fm70,(All.monoProcessF fa71 fl nsl)⟩
 rintro F76 ⟨y43,s44,l45,l46,rs47,s50,l51⟩ hF77 ⟨hy,fm48,fa49⟩
 subst hy
 replace H:=HKo52
 try dsimp only [Sum.elim_inl] at H
 refine sr0<|as1 rfl<|nt0 ?_
 obtain rfl:=si H
 refine Cd.ret ?_
 exact At.ret1 rfl (Res.tmp rfl) (ft (ft hF20 hF36) hF77) (sc1 rl) ⟨rs47,s50,s44,rfl,rfl,fm48,(All.monoProcessF fa49 fl nsl)⟩
theorem world_World_Fall_sim {a0:Wld} {a1:Int} {ba0:Nat} {sa0x1:Sl} {ra0x1:List ProcessR} {sa0x2:Sl} {sa0x3:Sl} {r:(List Procs)×Wld×Int} (H:world_World_Fall a0 a1=some r) (w0:World) (F:Frz) (M L:List Item) (hM:M.Sublist L) (ma0x1:ra0x1.map ProcessR.v=a0.all) (na0x1:All ProcessR.frel w0 F [] ra0x1):Ok Tryz.prog w0 36 [pv ba0 0,iv a1] F ((.rows (α:=Saying) 62 (List.map ProcessR.row ra0x1))::(.own sa0x1 100 8 (encs ra0x1))::(.own sa0x2 9 1 (encs a0.ordered))::(.own sa0x3 9 1 (encs a0.way))::(.blk ba0 (enc (WldR.mk a0 sa0x1 sa0x2 sa0x3)) 95)::L) (fun Fx L' v=>∃ (rs6:List ProcessR),v=iv r.2.2∧L'=(.rows (α:=Saying) 62 (List.map ProcessR.row rs6))::(.own sa0x1 100 8 (encs rs6))::(.own sa0x2 9 1 (encs a0.ordered))::(.own sa0x3 9 1 (encs a0.way))::(.blk ba0 (enc (WldR.mk ({r.2.1 with all:=r.1,ordered:=a0.ordered,way:=a0.way}:Wld) sa0x1 sa0x2 sa0x3)) 95)::L∧rs6.map ProcessR.v=r.1∧All ProcessR.frel w0 Fx [] rs6):=by
 unfold world_World_Fall at H
 refine Ok.enter (m:=2) (n:=19) Tryz.func36 rfl rfl rfl (by decide)<|Cd.env (e':=[(0,pv ba0 0),(1,iv a1)]) rfl<|sr0<|as1 rfl<|nt0<|Cd.seq<|sr0<|mv1 rfl<|mv1 rfl ?_
 obtain ⟨r6,h7,H⟩:=bs H
 refine cl1 rfl (vs:=[pv ba0 0,iv a1]) ⟨rfl,rfl,trivial⟩ Tryz.call43 (world_World_known_sim h7 w0 _ M _ hM ma0x1 (All.monoProcessF na0x1 fl nsl))<|as1 rfl<|nsr<|mv1 rfl<|lr (Ev.neq rfl rfl)<|nt0 ?_
 rcases ic H with ⟨hb10,H⟩|⟨hb10,H⟩
 ·refine Cd.condT rfl hb10<|sr0<|mv1 rfl<|as1 rfl<|nt0 ?_
  obtain rfl:=si H
  refine Cd.ret<|At.then_ret ?_
  exact At.ret1 rfl (Res.tmp rfl) fl rl ⟨ra0x1,rfl,rfl,ma0x1,(All.monoProcessF na0x1 fl nsl)⟩
 refine Cd.condF rfl hb10<|Cd.skip<|At.then<|sr0<|mv1 rfl<|lr (Ev.nilCheck rfl)<|lr (Ev.fo 2 rfl U95 rfl Z93 rfl rfl)<|lr (Ev.load (i:=4) rfl rfl I93 (v:=Sl.v sa0x1) ((WldR.get_all gh0).off rfl))<|mv1 rfl ?_
 obtain ⟨x11,h12,H⟩:=bs H
 have g13:=lat_some h12
 obtain ⟨⟨r14v,r14h1,⟨r14_2v,r14_2h1⟩,⟨r14_3v,r14_3h1⟩,⟨r14_4v,r14_4h1⟩⟩,r14g,r14e,r14m⟩:=map_get ma0x1 g13.2.2
 let T1:=ProcessR.mk x11 r14h1 (FromR.mk x11.from_ r14_2h1) (ToR.mk x11.to r14_3h1) (ToR.mk x11.orders r14_4h1)
 let T0:=ProcessR.mk ({x11 with fallen:=true}:Procs) r14h1 (FromR.mk x11.from_ r14_2h1) (ToR.mk x11.to r14_3h1) (ToR.mk x11.orders r14_4h1)
 obtain rfl:x11=r14v:=r14e.symm
 have r14q:ProcessR.frel w0 _ _ (ProcessR.mk x11 r14h1 (FromR.mk r14_2v r14_2h1) (ToR.mk r14_3v r14_3h1) (ToR.mk r14_4v r14_4h1)):=na0x1 _ r14m
 obtain ⟨r14_i2,r14_i3,r14_i4⟩:=r14q
 obtain ⟨r14_2e,r14_2q⟩:=r14_i2
 obtain rfl:r14_2v=x11.from_:=r14_2e
 have r14_2_f1:Rd w0 _ _ _ _:=r14_2q
 obtain ⟨r14_3e,r14_3q⟩:=r14_i3
 obtain rfl:r14_3v=x11.to:=r14_3e
 have r14_3_f1:Rd w0 _ _ _ _:=r14_3q
 obtain ⟨r14_4e,r14_4q⟩:=r14_i4
 obtain rfl:r14_4v=x11.orders:=r14_4e
 have r14_4_f1:Rd w0 _ _ _ _:=r14_4q
 have r14wg:=map_at ProcessR.row r14g
 refine lr (Ev.indexS (α:=ProcessR) (xs:=ra0x1) rfl rfl U93 Z100 rfl (by decide) (rdo 1 rfl rfl rfl) g13.1 (by have:=map_len ma0x1; omega))<|lr (Ev.fieldS (α:=ProcessR) (f':=a1.toNat * 8+0) rfl (rdo 1 rfl rfl rfl) ((Get.elemN (s:=8) rfl r14g gh0).off (by omega)) rfl U100 rfl Z4 rfl rfl rfl) ?_
 obtain ⟨p15,h16,H⟩:=Let_some H
 let T2:Item:=.blk ba0 (enc (WldR.mk ({a0 with all:=p15}:Wld) sa0x1 sa0x2 sa0x3)) 95
 have hm17:(ra0x1.set a1.toNat T0).map ProcessR.v=p15:=(map_set ma0x1 _ _).trans h16
 have ha18:All ProcessR.frel w0 F [] (ra0x1.set a1.toNat T0):=All.set (All.monoProcessF na0x1 fl nsl) (⟨⟨rfl,(r14_2_f1.mono fl nsl)⟩,⟨rfl,(r14_3_f1.mono fl nsl)⟩,⟨rfl,(r14_4_f1.mono fl nsl)⟩⟩)
 refine Lst.storeS (i:=1) rfl rfl rfl rfl rfl Z4 (vs:=[.bool true]) rfl rfl (by decide) rfl (xs':=encs (ra0x1.set a1.toNat T0)) ((Put.elemN (s:=8) (x:=T1) (y:=T0) rfl r14g (ProcessR.put_fallen (p:=T1) (Put.here (vs:=[.bool true]) rfl))).off (by omega)) (L':=(.rows (α:=Saying) 62 (List.map ProcessR.row ra0x1))::(.own sa0x1 100 8 (encs (ra0x1.set a1.toNat T0)))::(.own sa0x2 9 1 (encs a0.ordered))::(.own sa0x3 9 1 (encs a0.way))::T2::L) rfl<|Lst.its (L':=(.rows (α:=Saying) 62 (List.map ProcessR.row (ra0x1.set a1.toNat T0)))::(.own sa0x1 100 8 (encs (ra0x1.set a1.toNat T0)))::(.own sa0x2 9 1 (encs a0.ordered))::(.own sa0x3 9 1 (encs a0.way))::T2::L) (by dsimp +zetaDelta only; rw [map_set_same (y:=T0) r14g rfl] <;> rfl)<|nsr<|as1 rfl<|nt0 ?_
 obtain rfl:=si H
 refine Cd.ret ?_
 exact At.ret1 rfl (Res.tmp rfl) fl rl ⟨(ra0x1.set a1.toNat T0),rfl,rfl,hm17,(All.monoProcessF ha18 fl nsl)⟩
theorem math_bits_OnesCount8_sim {a0:BitVec 8} {r:Int} (H:math_bits_OnesCount8 a0=some r) (w0:World) (F:Frz) (M L:List Item) (hM:M.Sublist L):Ok Tryz.prog w0 182 [.int .u8 a0.toNat] F (L) (Is (iv r) (L)):=by
 unfold math_bits_OnesCount8 at H
 refine Ok.enter (m:=1) (n:=6) Tryz.func182 rfl rfl rfl (by decide)<|Cd.env (e':=[(0,.int .u8 a0.toNat)]) rfl<|sr0<|as1 rfl<|nsr<|mv1 rfl ?_
 obtain ⟨x1,h2,H⟩:=bs H
 refine lr (Ev.indexStr rfl rfl U9 h2)<|lr (Ev.convIS (j:=(x1.toBitVec.toNat:Int)) rfl U5 U3 (w64_id (by omega) (by omega)))<|as1 rfl<|nt0 ?_
 obtain rfl:=si H
 refine Cd.ret ?_
 exact At.ret1 rfl (Res.tmp rfl) fl rl ⟨rfl,rfl⟩
theorem view_half_sim {a0:BitVec 8} {a1:BitVec 8} {r:Bool} (H:view_half a0 a1=some r) (w0:World) (F:Frz) (M L:List Item) (hM:M.Sublist L):Ok Tryz.prog w0 127 [.int .u8 a0.toNat,.int .u8 a1.toNat] F (L) (Is (.bool r) (L)):=by
 unfold view_half at H
 refine Ok.enter (m:=2) (n:=13) Tryz.func127 rfl rfl rfl (by decide)<|Cd.env (e':=[(0,.int .u8 a0.toNat),(1,.int .u8 a1.toNat)]) rfl<|sr0<|as1 rfl<|nsr<|mv1 rfl<|mv1 rfl<|lr (Ev.andU8 (i:=a0) (j:=a1) rfl rfl) ?_
 obtain ⟨r1,h2,H⟩:=bs H
 refine cl1 rfl (vs:=[.int .u8 (a0 &&& a1).toNat]) ⟨rfl,trivial⟩ Tryz.call182 (math_bits_OnesCount8_sim h2 w0 _ M _ hM)<|lr (Ev.mul rfl rfl)<|mv1 rfl ?_
 obtain ⟨r5,h6,H⟩:=bs H
 refine cl1 rfl (vs:=[.int .u8 a1.toNat]) ⟨rfl,trivial⟩ Tryz.call182 (math_bits_OnesCount8_sim h6 w0 _ M _ hM)<|lr (Ev.gtr rfl rfl)<|as1 rfl<|nt0 ?_
 obtain rfl:=si H
 refine Cd.ret ?_
 exact At.ret1 rfl (Res.tmp rfl) fl rl ⟨rfl,rfl⟩
theorem view_Next_sim {a0:View} {a1:BitVec 8} {a2:BitVec 8} {r:View×Int} (H:view_Next a0 a1 a2=some r) (w0:World) (F:Frz) (M L:List Item) (hM:M.Sublist L):Ok Tryz.prog w0 70 [.agg (enc a0).toArray,.int .u8 a1.toNat,.int .u8 a2.toNat] F (L) (Is (.tuple #[.agg (enc r.1).toArray,iv r.2]) (L)):=by
 let T0:=({View.zero with Num:=w64 (a0.Num+(1:Int)),Members:=(a0.Members &&& ~~~a1) ||| a2}:View)
 unfold view_Next at H
 refine Ok.enter (m:=3) (n:=52) Tryz.func70 rfl rfl rfl (by decide)<|Cd.env (e':=[(0,.agg (enc a0).toArray),(1,.int .u8 a1.toNat),(2,.int .u8 a2.toNat)]) rfl<|sr0 ?_
 refine Lst.box rfl rfl (by decide) rfl (cs:=enc a0) rfl (fun b1=>?_)
 refine Lst.alloc (cs:=enc View.zero) rfl rfl (by decide) Tryz.zeroValue34 rfl (fun b3=>?_)
 refine as1 rfl<|nt0<|Cd.seq<|sr0<|lr (Ev.loadA (i:=1) rfl rfl I34 Z34 (ch:=enc a0) el gh0) ?_
 obtain ⟨r5,h6,H⟩:=bs H
 refine cl1 rfl (vs:=[.agg (enc a0).toArray]) ⟨rfl,trivial⟩ Tryz.call125 (view_Check_sim h6 w0 _ M _ (sc2 hM))<|as1 rfl<|nsr<|mv1 rfl<|lr (Ev.neq rfl rfl)<|nt0 ?_
 rcases ic H with ⟨hb9,H⟩|⟨hb9,H⟩
 ·refine Cd.condT rfl hb9<|sr0<|lr (Ev.build (v:=.agg (enc View.zero).toArray) (pv:=[]) trivial (fun w=>by kernel_rfl))<|mv1 rfl<|lst 0 rfl rfl rfl Z34 (vs:=enc View.zero) rfl el (Enc.one _) (cs':=enc View.zero) phl rfl<|as1 rfl<|nt0 ?_
  obtain rfl:=si H
  refine Cd.ret<|At.then_ret ?_
  exact At.ret2 rfl (Res.cellA (i:=0) rfl rfl I34 Z34 el) (Res.tmp rfl) fl (sc2 rl) ⟨rfl,rfl⟩
 refine Cd.condF rfl hb9<|Cd.skip<|At.then<|Cd.seq<|Cd.block<|sr0<|mv1 rfl<|mv1 rfl<|lr (Ev.orU8 (i:=a1) (j:=a2) rfl rfl) ?_
 obtain ⟨r10,h11,H⟩:=bs H
 refine cl1 rfl (vs:=[.int .u8 (a1 ||| a2).toNat]) ⟨rfl,trivial⟩ Tryz.call126 (view_outside_sim h11 w0 _ M _ (sc2 hM))<|mv1 rfl ?_
 obtain ⟨o14,H,HKo14⟩:=bs H
 refine Lst.join (σ:=Bool) 5 (fun y15=>[(1,.int .u8 a1.toNat),(2,.int .u8 a2.toNat),(3,pv b1 0),(6,pv b3 0),(25,.bool y15)]) (fun y15=>(.blk b3 (enc View.zero) 34)::(.blk b1 (enc a0) 34)::L) (fun _ y15=>y15=o14) ?_ ?_
 ·rcases ic H with ⟨hb16,H⟩|⟨hb16,H⟩
  ·refine lsk rfl hb16<|lsk rfl hb16<|lsk rfl hb16<|lsk rfl hb16<|lr (Ev.pickT rfl hb16 rfl)<|Lst.nil ?_
   exact At.meet true fl ⟨rfl,rfl,rfl,rfl,rfl,trivial⟩ rfl (si H)
  refine lg hb16 (Ev.move rfl)<|lg hb16 (Ev.move rfl)<|lg hb16 (Ev.andU8 (i:=a1) (j:=a2) rfl rfl)<|lg hb16 (Ev.neq rfl rfl)<|lr (Ev.pickF rfl hb16 rfl)<|Lst.nil ?_
  exact At.meet (((a1 &&& a2).toNat:Int) != ((0:BitVec 8).toNat:Int)) fl ⟨rfl,rfl,rfl,rfl,rfl,trivial⟩ rfl (si H)
 rintro F17 y15 hF18 hy
 subst hy
 replace H:=HKo14
 refine as1 rfl<|nt0 ?_
 rcases ic H with ⟨hb19,H⟩|⟨hb19,H⟩
 ·refine Cd.condT rfl hb19<|sr0<|lr (Ev.build (v:=.agg (enc View.zero).toArray) (pv:=[]) trivial (fun w=>by kernel_rfl))<|lst 0 rfl rfl rfl Z34 (vs:=enc View.zero) rfl el (Enc.one _) (cs':=enc View.zero) phl rfl<|as1 rfl<|nt0 ?_
  obtain rfl:=si H
  refine Cd.ret<|At.in_ret<|At.then_ret ?_
  exact At.ret2 rfl (Res.cellA (i:=0) rfl rfl I34 Z34 el) (Res.tmp rfl) hF18 (sc2 rl) ⟨rfl,rfl⟩
 refine Cd.condF rfl hb19<|sr0<|lr (Ev.fo 0 rfl U34 rfl Z3 rfl rfl)<|lr (Ev.load (i:=1) rfl rfl I3 (v:=iv a0.Num) ((View.get_Num gh0).off rfl))<|lr (Ev.eql rfl rfl)<|as1 rfl<|nt0 ?_
 rcases ic H with ⟨hb20,H⟩|⟨hb20,H⟩
 ·refine Cd.condT rfl hb20<|sr0<|lr (Ev.build (v:=.agg (enc View.zero).toArray) (pv:=[]) trivial (fun w=>by kernel_rfl))<|lst 0 rfl rfl rfl Z34 (vs:=enc View.zero) rfl el (Enc.one _) (cs':=enc View.zero) phl rfl<|as1 rfl<|nt0 ?_
  obtain rfl:=si H
  refine Cd.ret<|At.in_ret<|At.then_ret ?_
  exact At.ret2 rfl (Res.cellA (i:=0) rfl rfl I34 Z34 el) (Res.tmp rfl) hF18 (sc2 rl) ⟨rfl,rfl⟩
 refine Cd.condF rfl hb20<|sr0<|lr (Ev.fo 1 rfl U34 rfl Z5 rfl rfl)<|lr (Ev.load (i:=1) rfl rfl I5 (v:=.int .u8 a0.Members.toNat) ((View.get_Members gh0).off rfl))<|mv1 rfl<|lr (Ev.andNotU8 (i:=a0.Members) (j:=a1) rfl rfl)<|lr (Ev.fo 1 rfl U34 rfl Z5 rfl rfl)<|lr (Ev.load (i:=1) rfl rfl I5 (v:=.int .u8 a0.Members.toNat) ((View.get_Members gh0).off rfl)) ?_
 obtain ⟨r21,h22,H⟩:=bs H
 refine cl1 rfl (vs:=[.int .u8 (a0.Members &&& ~~~a1).toNat,.int .u8 a0.Members.toNat]) ⟨rfl,rfl,trivial⟩ Tryz.call127 (view_half_sim h22 w0 _ M _ (sc2 hM))<|lr (Ev.not rfl)<|as1 rfl<|nt0 ?_
 rcases ic H with ⟨hb25,H⟩|⟨hb25,H⟩
 ·refine Cd.condT rfl hb25<|sr0<|lr (Ev.build (v:=.agg (enc View.zero).toArray) (pv:=[]) trivial (fun w=>by kernel_rfl))<|lst 0 rfl rfl rfl Z34 (vs:=enc View.zero) rfl el (Enc.one _) (cs':=enc View.zero) phl rfl<|as1 rfl<|nt0 ?_
  obtain rfl:=si H
  refine Cd.ret<|At.in_ret<|At.then_ret ?_
  exact At.ret2 rfl (Res.cellA (i:=0) rfl rfl I34 Z34 el) (Res.tmp rfl) hF18 (sc2 rl) ⟨rfl,rfl⟩
 refine Cd.condF rfl hb25<|Cd.skip<|At.in_normal<|At.then<|sr0<|lr (Ev.fo 0 rfl U34 rfl Z3 rfl rfl)<|lr (Ev.load (i:=1) rfl rfl I3 (v:=iv a0.Num) ((View.get_Num gh0).off rfl))<|lr (Ev.add rfl rfl)<|lr (Ev.fo 1 rfl U34 rfl Z5 rfl rfl)<|lr (Ev.load (i:=1) rfl rfl I5 (v:=.int .u8 a0.Members.toNat) ((View.get_Members gh0).off rfl))<|mv1 rfl ?_
 refine lr (Ev.andNotU8 (i:=a0.Members) (j:=a1) rfl rfl)<|mv1 rfl<|lr (Ev.orU8 (i:=a0.Members &&& ~~~a1) (j:=a2) rfl rfl)<|lr (Ev.build (v:=.agg (enc T0).toArray) (pv:=[(0,iv (w64 (a0.Num+(1:Int)))),(1,.int .u8 ((a0.Members &&& ~~~a1) ||| a2).toNat)]) ⟨rfl,rfl,⟨rfl,rfl,trivial⟩⟩ (fun w=>by kernel_rfl))<|lst 0 rfl rfl rfl Z34 (vs:=enc T0) rfl el (Enc.one _) (cs':=enc T0) phl rfl<|as1 rfl<|nt0 ?_
 obtain rfl:=si H
 refine Cd.ret ?_
 exact At.ret2 rfl (Res.cellA (i:=0) rfl rfl I34 Z34 el) (Res.tmp rfl) hF18 (sc2 rl) ⟨rfl,rfl⟩
theorem slices_Clone_api_Saying_api_Saying_sim {a0:List Saying} {sa0:Sl} {r:(List Saying)} (H:slices_Clone_api_Saying_api_Saying a0=some r) (w0:World) (F:Frz) (M L:List Item) (hM:M.Sublist L) (pa0:Rd w0 F M sa0 a0):Ok Tryz.prog w0 44 [Sl.v sa0] F (L) (fun _ L' v=>∃ (s1:Sl),v=Sl.v s1∧L'=(.own s1 62 2 (encs r))::L):=by
 unfold slices_Clone_api_Saying_api_Saying at H
 refine Ok.enter (m:=1) (n:=8) Tryz.func44 rfl rfl rfl (by decide)<|Cd.env (e':=[(0,Sl.v sa0)]) rfl<|sr0<|Lst.addNil 62 2<|as1 rfl<|nt0<|Cd.seq<|sr0<|mv1 rfl<|lr (Ev.eqlNil rfl U37)<|nt0 ?_
 rcases Bool.eq_false_or_eq_true ((Sl.a sa0).isNone) with hb2 | hb2
 ·refine Cd.bound (Rd.isNil (α:=Saying) (by decide) (pa0.mono fl (sc1 hM)) hb2) (fun hx9=>?_)
  rw [clone_nil hx9] at H
  refine Cd.condT rfl hb2<|sr0<|Lst.addNil 62 2<|as1 rfl<|nt0 ?_
  obtain rfl:=si H
  refine Cd.ret<|At.then_ret ?_
  exact At.ret1 rfl (Res.tmp rfl) fl (sk1 (sc1 rl)) ⟨Sl.nil,rfl,rfl⟩
 refine Cd.condF rfl hb2<|Cd.skip<|At.then<|sr0 ?_
 refine Lst.buildSlice0 rfl rfl (by decide) U37 Z62 (fun s3=>?_)
 refine mv1 rfl ?_
 obtain ⟨u5,h6,H⟩:=bs H
 refine Lst.append (i:=0) (α:=Saying) (xs:=([]:List Saying)) (ys:=a0) rfl rfl (by decide) rfl rfl U37 Tryz.typeInfo62 rfl rfl rfl rfl rfl rfl (pa0.mono fl (sc2 hM)) rfl (room_some h6) rfl (fun s7=>?_)
 refine as1 rfl<|nt0 ?_
 obtain rfl:=si H
 refine Cd.ret ?_
 exact At.ret1 rfl (Res.tmp rfl) fl (sk1 (sc1 rl)) ⟨s7,rfl,rfl⟩
end Go.Proofs.YtchmclllcdknjaaGreatDoor
