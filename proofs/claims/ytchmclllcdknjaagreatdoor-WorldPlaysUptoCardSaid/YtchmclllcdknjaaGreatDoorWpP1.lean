/-
  The functions compute their specs; printed by a program.
-/
import Derived.Test.YtchmclllcdknjaaGreatDoorWpSp
import Derived.Test.YtchmclllcdknjaaGreatDoorGoL
import Derived.Test.YtchmclllcdknjaaGreatDoorGoK
import Derived.Test.YtchmclllcdknjaaGreatDoorGoI
import Derived.Test.YtchmclllcdknjaaGreatDoorGoU
import Derived.Test.YtchmclllcdknjaaGreatDoorGoP
import Derived.Test.YtchmclllcdknjaaGreatDoorGoM
import Derived.Test.YtchmclllcdknjaaGreatDoorGoS
import Derived.Test.YtchmclllcdknjaaGreatDoorGoR
import Derived.Test.YtchmclllcdknjaaGreatDoorGoO
import Derived.Test.YtchmclllcdknjaaGreatDoorGoX
import Derived.Test.YtchmclllcdknjaaGreatDoorGoZ
import Derived.Shelf.Strconv.Itoa3
import Derived.Shelf.Lay
import Derived.Ground.NamesProg
import Derived.Test.YtchmclllcdknjaaGreatDoorProg
namespace Go.Proofs.YtchmclllcdknjaaGreatDoor
open Go.RowKit Enc
set_option linter.unusedVariables false
set_option linter.unusedSimpArgs false
set_option maxRecDepth 20000
structure FromR where
  v : From
  h1 : Sl
instance : Enc FromR := ⟨fun p => enc p.v.Base ++ (enc p.h1), 2, fun p => by simp only [List.length_append, Enc.len]; rfl, fun p => by simp only [List.all_append, Enc.one, Bool.and_self]⟩
abbrev U3 := @Tryz.runUnderlying3
abbrev U5 := @Tryz.runUnderlying5
abbrev U9 := @Tryz.runUnderlying9
abbrev U34 := @Tryz.runUnderlying34
abbrev U39 := @Tryz.runUnderlying39
abbrev U41 := @Tryz.runUnderlying41
abbrev U43 := @Tryz.runUnderlying43
abbrev U45 := @Tryz.runUnderlying45
abbrev U50 := @Tryz.runUnderlying50
abbrev U57 := @Tryz.runUnderlying57
abbrev U62 := @Tryz.runUnderlying62
abbrev U83 := @Tryz.runUnderlying83
abbrev U93 := @Tryz.runUnderlying93
abbrev U95 := @Tryz.runUnderlying95
abbrev U100 := @Tryz.runUnderlying100
abbrev U110 := @Tryz.runUnderlying110
abbrev U130 := @Tryz.runUnderlying130
abbrev U132 := @Tryz.runUnderlying132
abbrev U146 := @Tryz.runUnderlying146
abbrev U159 := @Tryz.runUnderlying159
abbrev U183 := @Tryz.runUnderlying183
abbrev Z3 := @Tryz.sizeOf3
abbrev Z4 := @Tryz.sizeOf4
abbrev Z5 := @Tryz.sizeOf5
abbrev Z9 := @Tryz.sizeOf9
abbrev Z34 := @Tryz.sizeOf34
abbrev Z39 := @Tryz.sizeOf39
abbrev Z41 := @Tryz.sizeOf41
abbrev Z43 := @Tryz.sizeOf43
abbrev Z45 := @Tryz.sizeOf45
abbrev Z57 := @Tryz.sizeOf57
abbrev Z62 := @Tryz.sizeOf62
abbrev Z93 := @Tryz.sizeOf93
abbrev Z100 := @Tryz.sizeOf100
abbrev Z130 := @Tryz.sizeOf130
abbrev Z132 := @Tryz.sizeOf132
abbrev Z135 := @Tryz.sizeOf135
abbrev Z146 := @Tryz.sizeOf146
abbrev I3 := @Tryz.isAgg3
abbrev I4 := @Tryz.isAgg4
abbrev I5 := @Tryz.isAgg5
abbrev I9 := @Tryz.isAgg9
abbrev I34 := @Tryz.isAgg34
abbrev I39 := @Tryz.isAgg39
abbrev I43 := @Tryz.isAgg43
abbrev I45 := @Tryz.isAgg45
abbrev I57 := @Tryz.isAgg57
abbrev I62 := @Tryz.isAgg62
abbrev I93 := @Tryz.isAgg93
abbrev I132 := @Tryz.isAgg132
abbrev I135 := @Tryz.isAgg135
abbrev I146 := @Tryz.isAgg146
theorem FromR.get_Base {p:FromR} {k:Nat} {ch:List Value} (h:Get (enc p.v.Base) k ch):Get (enc p) (0+k) ch:=Get.off (Get.left h) (by omega)
theorem FromR.put_Base {p:FromR} {k:Nat} {vs:List Value} {y:Int} (h:Put (enc p.v.Base) k vs (enc y)):Put (enc p) (0+k) vs (enc ({p with v:={p.v with Base:=y}}:FromR)):=Put.off (cs':=enc ({p with v:={p.v with Base:=y}}:FromR)) (Put.left h) (by omega)
theorem FromR.get_Late {p:FromR} {k:Nat} {ch:List Value} (h:Get (enc p.h1) k ch):Get (enc p) (1+k) ch:=Get.off (Get.right (m:=1) el h) (by omega)
theorem FromR.put_Late {p:FromR} {k:Nat} {vs:List Value} {y:Sl} {l:List Str} (h:Put (enc p.h1) k vs (enc y)):Put (enc p) (1+k) vs (enc ({p with v:={p.v with Late:=l},h1:=y}:FromR)):=Put.off (cs':=enc ({p with v:={p.v with Late:=l},h1:=y}:FromR)) (Put.right (m:=1) el h) (by omega)
def FromR.rel (w0:World) (F:Frz) (L:List Item) (x:FromR):Prop:=Rd w0 F L x.h1 x.v.Late
theorem FromR.mono {w0:World} {F F':Frz} {L L':List Item} {x:FromR} (h:FromR.rel w0 F L x) (hF:FLe F F') (hL:L.Sublist L'):FromR.rel w0 F' L' x :=
  let h1:=h
  h1.mono hF hL
def FromR.row (x:FromR):LR Str:=⟨x.v.Late,x.h1⟩
theorem FromR.rowAll {w0:World} {F:Frz} {L:List Item} {rs:List FromR} (h:All LR.rel w0 F L (List.map FromR.row rs)):All FromR.rel w0 F L rs:=fun x hx=>h (FromR.row x) (List.mem_map_of_mem hx)
theorem All.monoFrom {w0:World} {F F':Frz} {L L':List Item} {rs:List FromR} (h:All FromR.rel w0 F L rs) (hF:FLe F F') (hL:L.Sublist L'):All FromR.rel w0 F' L' rs:=fun x hx=>FromR.mono (h x hx) hF hL
structure ToR where
  v:To
  h1:Sl
instance:Enc ToR:=⟨fun p=>enc p.v.Next++(enc p.h1),2,fun p=>by simp only [List.length_append,Enc.len]; rfl,fun p=>by simp only [List.all_append,Enc.one,Bool.and_self]⟩
theorem ToR.get_Next {p:ToR} {k:Nat} {ch:List Value} (h:Get (enc p.v.Next) k ch):Get (enc p) (0+k) ch:=Get.off (Get.left h) (by omega)
theorem ToR.put_Next {p:ToR} {k:Nat} {vs:List Value} {y:Int} (h:Put (enc p.v.Next) k vs (enc y)):Put (enc p) (0+k) vs (enc ({p with v:={p.v with Next:=y}}:ToR)):=Put.off (cs':=enc ({p with v:={p.v with Next:=y}}:ToR)) (Put.left h) (by omega)
theorem ToR.get_Early {p:ToR} {k:Nat} {ch:List Value} (h:Get (enc p.h1) k ch):Get (enc p) (1+k) ch:=Get.off (Get.right (m:=1) el h) (by omega)
theorem ToR.put_Early {p:ToR} {k:Nat} {vs:List Value} {y:Sl} {l:List Parcel} (h:Put (enc p.h1) k vs (enc y)):Put (enc p) (1+k) vs (enc ({p with v:={p.v with Early:=l},h1:=y}:ToR)):=Put.off (cs':=enc ({p with v:={p.v with Early:=l},h1:=y}:ToR)) (Put.right (m:=1) el h) (by omega)
def ToR.rel (w0:World) (F:Frz) (L:List Item) (x:ToR):Prop:=Rd w0 F L x.h1 x.v.Early
theorem ToR.mono {w0:World} {F F':Frz} {L L':List Item} {x:ToR} (h:ToR.rel w0 F L x) (hF:FLe F F') (hL:L.Sublist L'):ToR.rel w0 F' L' x :=
  let h1:=h
  h1.mono hF hL
def ToR.row (x:ToR):LR Parcel:=⟨x.v.Early,x.h1⟩
theorem ToR.rowAll {w0:World} {F:Frz} {L:List Item} {rs:List ToR} (h:All LR.rel w0 F L (List.map ToR.row rs)):All ToR.rel w0 F L rs:=fun x hx=>h (ToR.row x) (List.mem_map_of_mem hx)
theorem All.monoTo {w0:World} {F F':Frz} {L L':List Item} {rs:List ToR} (h:All ToR.rel w0 F L rs) (hF:FLe F F') (hL:L.Sublist L'):All ToR.rel w0 F' L' rs:=fun x hx=>ToR.mono (h x hx) hF hL
structure ProcessR where
  v:Procs
  h1:Sl
  h2:FromR
  h3:ToR
  h4:ToR
instance:Enc ProcessR:=⟨fun p=>enc p.v.fallen++(enc p.h1++(enc p.h2++(enc p.h3++(enc p.h4)))),8,fun p=>by simp only [List.length_append,Enc.len]; rfl,fun p=>by simp only [List.all_append,Enc.one,Bool.and_self]⟩
theorem ProcessR.get_fallen {p:ProcessR} {k:Nat} {ch:List Value} (h:Get (enc p.v.fallen) k ch):Get (enc p) (0+k) ch:=Get.off (Get.left h) (by omega)
theorem ProcessR.put_fallen {p:ProcessR} {k:Nat} {vs:List Value} {y:Bool} (h:Put (enc p.v.fallen) k vs (enc y)):Put (enc p) (0+k) vs (enc ({p with v:={p.v with fallen:=y}}:ProcessR)):=Put.off (cs':=enc ({p with v:={p.v with fallen:=y}}:ProcessR)) (Put.left h) (by omega)
theorem ProcessR.get_log {p:ProcessR} {k:Nat} {ch:List Value} (h:Get (enc p.h1) k ch):Get (enc p) (1+k) ch:=Get.off (Get.right (m:=1) el (Get.left h)) (by omega)
theorem ProcessR.put_log {p:ProcessR} {k:Nat} {vs:List Value} {y:Sl} {l:List Saying} (h:Put (enc p.h1) k vs (enc y)):Put (enc p) (1+k) vs (enc ({p with v:={p.v with log:=l},h1:=y}:ProcessR)):=Put.off (cs':=enc ({p with v:={p.v with log:=l},h1:=y}:ProcessR)) (Put.right (m:=1) el (Put.left h)) (by omega)
theorem ProcessR.get_from_ {p:ProcessR} {k:Nat} {ch:List Value} (h:Get (enc p.h2) k ch):Get (enc p) (2+k) ch:=Get.off (Get.right (m:=1) el (Get.right (m:=1) el (Get.left h))) (by omega)
theorem ProcessR.put_from_ {p:ProcessR} {k:Nat} {vs:List Value} {y:FromR} {l:From} (h:Put (enc p.h2) k vs (enc y)):Put (enc p) (2+k) vs (enc ({p with v:={p.v with from_:=l},h2:=y}:ProcessR)):=Put.off (cs':=enc ({p with v:={p.v with from_:=l},h2:=y}:ProcessR)) (Put.right (m:=1) el (Put.right (m:=1) el (Put.left h))) (by omega)
theorem ProcessR.get_to {p:ProcessR} {k:Nat} {ch:List Value} (h:Get (enc p.h3) k ch):Get (enc p) (4+k) ch:=Get.off (Get.right (m:=1) el (Get.right (m:=1) el (Get.right (m:=2) el (Get.left h)))) (by omega)
theorem ProcessR.put_to {p:ProcessR} {k:Nat} {vs:List Value} {y:ToR} {l:To} (h:Put (enc p.h3) k vs (enc y)):Put (enc p) (4+k) vs (enc ({p with v:={p.v with to:=l},h3:=y}:ProcessR)):=Put.off (cs':=enc ({p with v:={p.v with to:=l},h3:=y}:ProcessR)) (Put.right (m:=1) el (Put.right (m:=1) el (Put.right (m:=2) el (Put.left h)))) (by omega)
theorem ProcessR.get_orders {p:ProcessR} {k:Nat} {ch:List Value} (h:Get (enc p.h4) k ch):Get (enc p) (6+k) ch:=Get.off (Get.right (m:=1) el (Get.right (m:=1) el (Get.right (m:=2) el (Get.right (m:=2) el h)))) (by omega)
theorem ProcessR.put_orders {p:ProcessR} {k:Nat} {vs:List Value} {y:ToR} {l:To} (h:Put (enc p.h4) k vs (enc y)):Put (enc p) (6+k) vs (enc ({p with v:={p.v with orders:=l},h4:=y}:ProcessR)):=Put.off (cs':=enc ({p with v:={p.v with orders:=l},h4:=y}:ProcessR)) (Put.right (m:=1) el (Put.right (m:=1) el (Put.right (m:=2) el (Put.right (m:=2) el h)))) (by omega)
def ProcessR.rel (w0:World) (F:Frz) (L:List Item) (x:ProcessR):Prop:=Rd w0 F L x.h1 x.v.log∧(x.h2.v=x.v.from_∧FromR.rel w0 F L x.h2)∧(x.h3.v=x.v.to∧ToR.rel w0 F L x.h3)∧(x.h4.v=x.v.orders∧ToR.rel w0 F L x.h4)
theorem ProcessR.mono {w0:World} {F F':Frz} {L L':List Item} {x:ProcessR} (h:ProcessR.rel w0 F L x) (hF:FLe F F') (hL:L.Sublist L'):ProcessR.rel w0 F' L' x :=
  let ⟨h1,h2,h3,h4⟩:=h
  ⟨h1.mono hF hL,⟨h2.1,FromR.mono h2.2 hF hL⟩,⟨h3.1,ToR.mono h3.2 hF hL⟩,⟨h4.1,ToR.mono h4.2 hF hL⟩⟩
def ProcessR.row (x:ProcessR):LR Saying:=⟨x.v.log,x.h1⟩
def ProcessR.frel (w0:World) (F:Frz) (L:List Item) (x:ProcessR):Prop:=(x.h2.v=x.v.from_∧FromR.rel w0 F L x.h2)∧(x.h3.v=x.v.to∧ToR.rel w0 F L x.h3)∧(x.h4.v=x.v.orders∧ToR.rel w0 F L x.h4)
theorem All.monoProcessF {w0:World} {F F':Frz} {L L':List Item} {rs:List ProcessR} (h:All ProcessR.frel w0 F L rs) (hF:FLe F F') (hL:L.Sublist L'):All ProcessR.frel w0 F' L' rs:=fun x hx =>
  let ⟨h2,h3,h4⟩:=h x hx
  ⟨⟨h2.1,FromR.mono h2.2 hF hL⟩,⟨h3.1,ToR.mono h3.2 hF hL⟩,⟨h4.1,ToR.mono h4.2 hF hL⟩⟩
theorem ProcessR.rowAll {w0:World} {F:Frz} {L:List Item} {rs:List ProcessR} (h:All LR.rel w0 F L (List.map ProcessR.row rs)) (g:All ProcessR.frel w0 F L rs):All ProcessR.rel w0 F L rs:=fun x hx=>⟨h (ProcessR.row x) (List.mem_map_of_mem hx),g x hx⟩
theorem All.monoProcess {w0:World} {F F':Frz} {L L':List Item} {rs:List ProcessR} (h:All ProcessR.rel w0 F L rs) (hF:FLe F F') (hL:L.Sublist L'):All ProcessR.rel w0 F' L' rs:=fun x hx=>ProcessR.mono (h x hx) hF hL
structure WldR where
  v:Wld
  h1:Sl
  h2:Sl
  h3:Sl
instance:Enc WldR:=⟨fun p=>enc p.v.view++(enc p.h1++(enc p.h2++(enc p.h3))),5,fun p=>by simp only [List.length_append,Enc.len]; rfl,fun p=>by simp only [List.all_append,Enc.one,Bool.and_self]⟩
theorem WldR.get_view {p:WldR} {k:Nat} {ch:List Value} (h:Get (enc p.v.view) k ch):Get (enc p) (0+k) ch:=Get.off (Get.left h) (by omega)
theorem WldR.put_view {p:WldR} {k:Nat} {vs:List Value} {y:View} (h:Put (enc p.v.view) k vs (enc y)):Put (enc p) (0+k) vs (enc ({p with v:={p.v with view:=y}}:WldR)):=Put.off (cs':=enc ({p with v:={p.v with view:=y}}:WldR)) (Put.left h) (by omega)
theorem WldR.get_all {p:WldR} {k:Nat} {ch:List Value} (h:Get (enc p.h1) k ch):Get (enc p) (2+k) ch:=Get.off (Get.right (m:=2) el (Get.left h)) (by omega)
theorem WldR.put_all {p:WldR} {k:Nat} {vs:List Value} {y:Sl} {l:List Procs} (h:Put (enc p.h1) k vs (enc y)):Put (enc p) (2+k) vs (enc ({p with v:={p.v with all:=l},h1:=y}:WldR)):=Put.off (cs':=enc ({p with v:={p.v with all:=l},h1:=y}:WldR)) (Put.right (m:=2) el (Put.left h)) (by omega)
theorem WldR.get_ordered {p:WldR} {k:Nat} {ch:List Value} (h:Get (enc p.h2) k ch):Get (enc p) (3+k) ch:=Get.off (Get.right (m:=2) el (Get.right (m:=1) el (Get.left h))) (by omega)
theorem WldR.put_ordered {p:WldR} {k:Nat} {vs:List Value} {y:Sl} {l:List Str} (h:Put (enc p.h2) k vs (enc y)):Put (enc p) (3+k) vs (enc ({p with v:={p.v with ordered:=l},h2:=y}:WldR)):=Put.off (cs':=enc ({p with v:={p.v with ordered:=l},h2:=y}:WldR)) (Put.right (m:=2) el (Put.right (m:=1) el (Put.left h))) (by omega)
theorem WldR.get_way {p:WldR} {k:Nat} {ch:List Value} (h:Get (enc p.h3) k ch):Get (enc p) (4+k) ch:=Get.off (Get.right (m:=2) el (Get.right (m:=1) el (Get.right (m:=1) el h))) (by omega)
theorem WldR.put_way {p:WldR} {k:Nat} {vs:List Value} {y:Sl} {l:List Str} (h:Put (enc p.h3) k vs (enc y)):Put (enc p) (4+k) vs (enc ({p with v:={p.v with way:=l},h3:=y}:WldR)):=Put.off (cs':=enc ({p with v:={p.v with way:=l},h3:=y}:WldR)) (Put.right (m:=2) el (Put.right (m:=1) el (Put.right (m:=1) el h))) (by omega)
def WldR.rel (w0:World) (F:Frz) (L:List Item) (x:WldR):Prop:=(∃ rs:List ProcessR,rs.map ProcessR.v=x.v.all∧Rd w0 F L x.h1 rs∧All ProcessR.rel w0 F L rs)∧Rd w0 F L x.h2 x.v.ordered∧Rd w0 F L x.h3 x.v.way
theorem WldR.mono {w0:World} {F F':Frz} {L L':List Item} {x:WldR} (h:WldR.rel w0 F L x) (hF:FLe F F') (hL:L.Sublist L'):WldR.rel w0 F' L' x :=
  let ⟨h1,h2,h3⟩:=h
  ⟨(let ⟨rs,a,b,c⟩:=h1; ⟨rs,a,b.mono hF hL,All.monoProcess c hF hL⟩),h2.mono hF hL,h3.mono hF hL⟩
theorem All.monoWld {w0:World} {F F':Frz} {L L':List Item} {rs:List WldR} (h:All WldR.rel w0 F L rs) (hF:FLe F F') (hL:L.Sublist L'):All WldR.rel w0 F' L' rs:=fun x hx=>WldR.mono (h x hx) hF hL
structure RWldR where
  v:RWld
  h2:Option Nat
  h3:Vector (LR Saying) 6
  h4:Vector ToR 6
  h5:Vector FromR 6
  h6:Vector ToR 6
  h7:Sl
  h8:Sl
  h9:Sl
instance:Enc RWldR:=⟨fun p=>enc p.v.n++(enc p.v.V++(enc p.h2++(enc p.h3++(enc p.h4++(enc p.h5++(enc p.h6++(enc p.h7++(enc p.h8++(enc p.h9))))))))),49,fun p=>by simp only [List.length_append,Enc.len]; rfl,fun p=>by simp only [List.all_append,Enc.one,Bool.and_self]⟩
theorem RWldR.get_n {p:RWldR} {k:Nat} {ch:List Value} (h:Get (enc p.v.n) k ch):Get (enc p) (0+k) ch:=Get.off (Get.left h) (by omega)
theorem RWldR.put_n {p:RWldR} {k:Nat} {vs:List Value} {y:Int} (h:Put (enc p.v.n) k vs (enc y)):Put (enc p) (0+k) vs (enc ({p with v:={p.v with n:=y}}:RWldR)):=Put.off (cs':=enc ({p with v:={p.v with n:=y}}:RWldR)) (Put.left h) (by omega)
theorem RWldR.get_V {p:RWldR} {k:Nat} {ch:List Value} (h:Get (enc p.v.V) k ch):Get (enc p) (1+k) ch:=Get.off (Get.right (m:=1) el (Get.left h)) (by omega)
theorem RWldR.put_V {p:RWldR} {k:Nat} {vs:List Value} {y:View} (h:Put (enc p.v.V) k vs (enc y)):Put (enc p) (1+k) vs (enc ({p with v:={p.v with V:=y}}:RWldR)):=Put.off (cs':=enc ({p with v:={p.v with V:=y}}:RWldR)) (Put.right (m:=1) el (Put.left h)) (by omega)
theorem RWldR.get_gone {p:RWldR} {k:Nat} {ch:List Value} (h:Get (enc p.h2) k ch):Get (enc p) (3+k) ch:=Get.off (Get.right (m:=1) el (Get.right (m:=2) el (Get.left h))) (by omega)
theorem RWldR.put_gone {p:RWldR} {k:Nat} {vs:List Value} {y:Option Nat} {l:List (Int×Int)} (h:Put (enc p.h2) k vs (enc y)):Put (enc p) (3+k) vs (enc ({p with v:={p.v with gone:=l},h2:=y}:RWldR)):=Put.off (cs':=enc ({p with v:={p.v with gone:=l},h2:=y}:RWldR)) (Put.right (m:=1) el (Put.right (m:=2) el (Put.left h))) (by omega)
theorem RWldR.get_Logs {p:RWldR} {k:Nat} {ch:List Value} (h:Get (enc p.h3) k ch):Get (enc p) (4+k) ch:=Get.off (Get.right (m:=1) el (Get.right (m:=2) el (Get.right (m:=1) el (Get.left h)))) (by omega)
theorem RWldR.put_Logs {p:RWldR} {k:Nat} {vs:List Value} {y:Vector (LR Saying) 6} {l:Vector (List Saying) 6} (h:Put (enc p.h3) k vs (enc y)):Put (enc p) (4+k) vs (enc ({p with v:={p.v with Logs:=l},h3:=y}:RWldR)):=Put.off (cs':=enc ({p with v:={p.v with Logs:=l},h3:=y}:RWldR)) (Put.right (m:=1) el (Put.right (m:=2) el (Put.right (m:=1) el (Put.left h)))) (by omega)
theorem RWldR.get_want {p:RWldR} {k:Nat} {ch:List Value} (h:Get (enc p.h4) k ch):Get (enc p) (10+k) ch:=Get.off (Get.right (m:=1) el (Get.right (m:=2) el (Get.right (m:=1) el (Get.right (m:=6) el (Get.left h))))) (by omega)
theorem RWldR.put_want {p:RWldR} {k:Nat} {vs:List Value} {y:Vector ToR 6} {l:Vector To 6} (h:Put (enc p.h4) k vs (enc y)):Put (enc p) (10+k) vs (enc ({p with v:={p.v with want:=l},h4:=y}:RWldR)):=Put.off (cs':=enc ({p with v:={p.v with want:=l},h4:=y}:RWldR)) (Put.right (m:=1) el (Put.right (m:=2) el (Put.right (m:=1) el (Put.right (m:=6) el (Put.left h))))) (by omega)
theorem RWldR.get_Late {p:RWldR} {k:Nat} {ch:List Value} (h:Get (enc p.h5) k ch):Get (enc p) (22+k) ch:=Get.off (Get.right (m:=1) el (Get.right (m:=2) el (Get.right (m:=1) el (Get.right (m:=6) el (Get.right (m:=12) el (Get.left h)))))) (by omega)
theorem RWldR.put_Late {p:RWldR} {k:Nat} {vs:List Value} {y:Vector FromR 6} {l:Vector From 6} (h:Put (enc p.h5) k vs (enc y)):Put (enc p) (22+k) vs (enc ({p with v:={p.v with Late:=l},h5:=y}:RWldR)):=Put.off (cs':=enc ({p with v:={p.v with Late:=l},h5:=y}:RWldR)) (Put.right (m:=1) el (Put.right (m:=2) el (Put.right (m:=1) el (Put.right (m:=6) el (Put.right (m:=12) el (Put.left h)))))) (by omega)
theorem RWldR.get_in_ {p:RWldR} {k:Nat} {ch:List Value} (h:Get (enc p.h6) k ch):Get (enc p) (34+k) ch:=Get.off (Get.right (m:=1) el (Get.right (m:=2) el (Get.right (m:=1) el (Get.right (m:=6) el (Get.right (m:=12) el (Get.right (m:=12) el (Get.left h))))))) (by omega)
theorem RWldR.put_in_ {p:RWldR} {k:Nat} {vs:List Value} {y:Vector ToR 6} {l:Vector To 6} (h:Put (enc p.h6) k vs (enc y)):Put (enc p) (34+k) vs (enc ({p with v:={p.v with in_:=l},h6:=y}:RWldR)):=Put.off (cs':=enc ({p with v:={p.v with in_:=l},h6:=y}:RWldR)) (Put.right (m:=1) el (Put.right (m:=2) el (Put.right (m:=1) el (Put.right (m:=6) el (Put.right (m:=12) el (Put.right (m:=12) el (Put.left h))))))) (by omega)
theorem RWldR.get_order {p:RWldR} {k:Nat} {ch:List Value} (h:Get (enc p.h7) k ch):Get (enc p) (46+k) ch:=Get.off (Get.right (m:=1) el (Get.right (m:=2) el (Get.right (m:=1) el (Get.right (m:=6) el (Get.right (m:=12) el (Get.right (m:=12) el (Get.right (m:=12) el (Get.left h)))))))) (by omega)
theorem RWldR.put_order {p:RWldR} {k:Nat} {vs:List Value} {y:Sl} {l:List Str} (h:Put (enc p.h7) k vs (enc y)):Put (enc p) (46+k) vs (enc ({p with v:={p.v with order:=l},h7:=y}:RWldR)):=Put.off (cs':=enc ({p with v:={p.v with order:=l},h7:=y}:RWldR)) (Put.right (m:=1) el (Put.right (m:=2) el (Put.right (m:=1) el (Put.right (m:=6) el (Put.right (m:=12) el (Put.right (m:=12) el (Put.right (m:=12) el (Put.left h)))))))) (by omega)
theorem RWldR.get_marks {p:RWldR} {k:Nat} {ch:List Value} (h:Get (enc p.h8) k ch):Get (enc p) (47+k) ch:=Get.off (Get.right (m:=1) el (Get.right (m:=2) el (Get.right (m:=1) el (Get.right (m:=6) el (Get.right (m:=12) el (Get.right (m:=12) el (Get.right (m:=12) el (Get.right (m:=1) el (Get.left h))))))))) (by omega)
theorem RWldR.put_marks {p:RWldR} {k:Nat} {vs:List Value} {y:Sl} {l:List Mark} (h:Put (enc p.h8) k vs (enc y)):Put (enc p) (47+k) vs (enc ({p with v:={p.v with marks:=l},h8:=y}:RWldR)):=Put.off (cs':=enc ({p with v:={p.v with marks:=l},h8:=y}:RWldR)) (Put.right (m:=1) el (Put.right (m:=2) el (Put.right (m:=1) el (Put.right (m:=6) el (Put.right (m:=12) el (Put.right (m:=12) el (Put.right (m:=12) el (Put.right (m:=1) el (Put.left h))))))))) (by omega)
theorem RWldR.get_WayNotes {p:RWldR} {k:Nat} {ch:List Value} (h:Get (enc p.h9) k ch):Get (enc p) (48+k) ch:=Get.off (Get.right (m:=1) el (Get.right (m:=2) el (Get.right (m:=1) el (Get.right (m:=6) el (Get.right (m:=12) el (Get.right (m:=12) el (Get.right (m:=12) el (Get.right (m:=1) el (Get.right (m:=1) el h))))))))) (by omega)
theorem RWldR.put_WayNotes {p:RWldR} {k:Nat} {vs:List Value} {y:Sl} {l:List Note} (h:Put (enc p.h9) k vs (enc y)):Put (enc p) (48+k) vs (enc ({p with v:={p.v with WayNotes:=l},h9:=y}:RWldR)):=Put.off (cs':=enc ({p with v:={p.v with WayNotes:=l},h9:=y}:RWldR)) (Put.right (m:=1) el (Put.right (m:=2) el (Put.right (m:=1) el (Put.right (m:=6) el (Put.right (m:=12) el (Put.right (m:=12) el (Put.right (m:=12) el (Put.right (m:=1) el (Put.right (m:=1) el h))))))))) (by omega)
def RWldR.rel (w0:World) (F:Frz) (L:List Item) (x:RWldR):Prop:=True∧(x.h3.toList.map LR.v=x.v.Logs.toList∧All LR.rel w0 F L x.h3.toList)∧(x.h4.toList.map ToR.v=x.v.want.toList∧All ToR.rel w0 F L x.h4.toList)∧(x.h5.toList.map FromR.v=x.v.Late.toList∧All FromR.rel w0 F L x.h5.toList)∧(x.h6.toList.map ToR.v=x.v.in_.toList∧All ToR.rel w0 F L x.h6.toList)∧Rd w0 F L x.h7 x.v.order∧Rd w0 F L x.h8 x.v.marks∧Rd w0 F L x.h9 x.v.WayNotes
theorem RWldR.mono {w0:World} {F F':Frz} {L L':List Item} {x:RWldR} (h:RWldR.rel w0 F L x) (hF:FLe F F') (hL:L.Sublist L'):RWldR.rel w0 F' L' x :=
  let ⟨h2,h3,h4,h5,h6,h7,h8,h9⟩:=h
  ⟨trivial,⟨h3.1,All.monoLR h3.2 hF hL⟩,⟨h4.1,All.monoTo h4.2 hF hL⟩,⟨h5.1,All.monoFrom h5.2 hF hL⟩,⟨h6.1,All.monoTo h6.2 hF hL⟩,h7.mono hF hL,h8.mono hF hL,h9.mono hF hL⟩
theorem All.monoRWld {w0:World} {F F':Frz} {L L':List Item} {rs:List RWldR} (h:All RWldR.rel w0 F L rs) (hF:FLe F F') (hL:L.Sublist L'):All RWldR.rel w0 F' L' rs:=fun x hx=>RWldR.mono (h x hx) hF hL
theorem eq34 (x y:View):∀ w,(Op.equal 34 (.agg (enc x).toArray) (.agg (enc y).toArray)).run Tryz.prog w=.ok (decide (x=y)) w :=
  EqT.top (d:=10000) I34 Z34 rfl rfl (EqT.struct I34 Z34 rfl U34 (by kernel_rfl) (fun x y w=>by
  refine Eq.trans (eqField (p:=x.Num) (q:=y.Num) rfl (EqT.int I3 U3) rfl ((View.get_Num (Get.here _)).off rfl) ((View.get_Num (Get.here _)).off rfl) (eqField (p:=x.Members) (q:=y.Members) rfl (EqT.u8 I5 U5) rfl ((View.get_Members (Get.here _)).off rfl) ((View.get_Members (Get.here _)).off rfl) rfl)) ?_
  congr 1
  rw [Bool.eq_iff_iff]; cases x; cases y; simp)) x y
theorem eq57 (x y:Vector Int 10):∀ w,(Op.equal 57 (.agg (enc x).toArray) (.agg (enc y).toArray)).run Tryz.prog w=.ok (decide (x=y)) w :=
  EqT.top (d:=10000) I57 Z57 rfl rfl (EqT.array (inf:=Tryz.t3) I57 Z57 rfl U57 rfl (by kernel_rfl) (EqT.int I3 U3)) x y
theorem eq62 (x y:Saying):∀ w,(Op.equal 62 (.agg (enc x).toArray) (.agg (enc y).toArray)).run Tryz.prog w=.ok (decide (x=y)) w :=
  EqT.top (d:=10000) I62 Z62 rfl rfl (EqT.struct I62 Z62 rfl U62 (by kernel_rfl) (fun x y w=>by
  refine Eq.trans (eqField (p:=x.From) (q:=y.From) rfl (EqT.int I3 U3) rfl ((Saying.get_From (Get.here _)).off rfl) ((Saying.get_From (Get.here _)).off rfl) (eqField (p:=x.Text) (q:=y.Text) rfl (EqT.str I9 U9) rfl ((Saying.get_Text (Get.here _)).off rfl) ((Saying.get_Text (Get.here _)).off rfl) rfl)) ?_
  congr 1
  rw [Bool.eq_iff_iff]; cases x; cases y; simp)) x y
theorem world_in_sim {a0:Int} {a1:Int} {a2:Int} {r:Bool} (H:world_in a0 a1 a2=some r) (w0:World) (F:Frz) (M L:List Item) (hM:M.Sublist L):Ok Tryz.prog w0 34 [iv a0,iv a1,iv a2] F (L) (Is (.bool r) (L)):=by
 unfold world_in at H
 refine Ok.enter (m:=3) (n:=15) Tryz.func34 rfl rfl rfl (by decide)<|Cd.env (e':=[(0,iv a0),(1,iv a1),(2,iv a2)]) rfl<|sr0<|as1 rfl<|nsr<|mv1 rfl<|mv1 rfl<|lr (Ev.geq rfl rfl)<|mv1 rfl ?_
 obtain ⟨o1,H,HKo1⟩:=bs H
 refine Lst.join (σ:=Bool) 4 (fun y2=>[(14,.bool y2)]) (fun y2=>L) (fun _ y2=>y2=o1) ?_ ?_
 ·rcases ic2 H with ⟨hb3,H⟩|⟨hb3,H⟩
  ·refine lsk rfl hb3<|lsk rfl hb3<|lsk rfl hb3<|lr (Ev.pickF rfl hb3 rfl)<|Lst.nil ?_
   exact At.meet false fl ⟨rfl,trivial⟩ rfl (si H)
  refine lg hb3 (Ev.move rfl)<|lg hb3 (Ev.move rfl)<|lg hb3 (Ev.leq rfl rfl)<|lr (Ev.pickT rfl hb3 rfl)<|Lst.nil ?_
  exact At.meet (decide (a0≤a2)) fl ⟨rfl,trivial⟩ rfl (si H)
 rintro F4 y2 hF5 hy
 subst hy
 replace H:=HKo1
 refine as1 rfl<|nt0 ?_
 obtain rfl:=si H
 refine Cd.ret ?_
 exact At.ret1 rfl (Res.tmp rfl) hF5 rl ⟨rfl,rfl⟩
theorem world_New_sim {a0:Int} {r:Wld×Int} (H:world_New a0=some r) (w0:World) (F:Frz) (M L:List Item) (hM:M.Sublist L):Ok Tryz.prog w0 9 [iv a0] F (L) (fun Fx L' v=>∃ (b1:Nat) (s2:Sl) (rs3:List ProcessR) (s8:Sl) (s10:Sl),v=.tuple #[pv b1 0,iv r.2]∧L'=(.rows (α:=Saying) 62 (List.map ProcessR.row rs3))::(.own s2 100 8 (encs rs3))::(.own s8 9 1 (encs r.1.ordered))::(.own s10 9 1 (encs r.1.way))::(.blk b1 (enc (WldR.mk r.1 s2 s8 s10)) 95)::L∧rs3.map ProcessR.v=r.1.all∧All ProcessR.frel w0 Fx [] rs3):=by
 let T4:=WldR.mk Wld.zero Sl.nil Sl.nil Sl.nil
 let T1:=ProcessR.mk Procs.zero Sl.nil (FromR.mk From.zero Sl.nil) (ToR.mk To.zero Sl.nil) (ToR.mk To.zero Sl.nil)
 unfold world_New at H
 refine Ok.enter (m:=1) (n:=15) Tryz.func9 rfl rfl rfl (by decide)<|Cd.env (e':=[(0,iv a0)]) rfl<|sr0<|as1 rfl<|as1 rfl<|nt0<|Cd.seq<|sr0<|mv1 rfl ?_
 obtain ⟨r1,h2,H⟩:=bs H
 refine cl1 rfl (vs:=[iv a0,iv (1:Int),iv (6:Int)]) ⟨rfl,rfl,rfl,trivial⟩ Tryz.call34 (world_in_sim h2 w0 _ M _ hM)<|lr (Ev.not rfl)<|nt0 ?_
 rcases ic H with ⟨hb5,H⟩|⟨hb5,H⟩
 ·cases H
 refine Cd.condF rfl hb5<|Cd.skip<|At.then<|Cd.seq ?_
 obtain ⟨n6,h7,H⟩:=bs H
 let T0:=({View.zero with Members:=((1:BitVec 8) <<< n6) - (1:BitVec 8)}:View)
 let T3:=WldR.mk ({Wld.zero with view:=T0}:Wld) Sl.nil Sl.nil Sl.nil
 obtain ⟨n9,h10,H⟩:=bs H
 obtain ⟨o23,h24,H⟩:=Let_some H
 refine Cd.headMeet (σ:=Sl×(List Procs)×(List ProcessR)) 6 (fun (s18,l19,rs20)=>[(10,.agg (enc T0).toArray),(12,Sl.v s18)]) (fun (s18,l19,rs20)=>(.rows (α:=Saying) 62 (List.map ProcessR.row rs20))::(.own s18 100 8 (encs rs20))::L) (fun Fx (s18,l19,rs20)=>l19=o23∧rs20.map ProcessR.v=l19∧All ProcessR.frel w0 Fx [] rs20) (by kernel_rfl) (by kernel_rfl) (behind_sink (by kernel_rfl) (by kernel_rfl) (by kernel_rfl)) (by kernel_rfl) (fun hsel hlt=>?_) ?_
 ·refine HdJ.keep (fun w=>St w0 F (L) w) (fun w h=>trivial)<|hts rfl hsel hlt 0 rl rfl (Ev.move rfl) ?_
  refine hts rfl hsel hlt 1 rl rfl (Ev.shlU8 (i:=(1:BitVec 8)) (m:=n6) rfl (congrArg some (congrArg (Value.int .i64) (cnt_some h7))))<|hts rfl hsel hlt 2 rl rfl (Ev.subU8 (i:=(1:BitVec 8) <<< n6) (j:=(1:BitVec 8)) rfl rfl)<|hts rfl hsel hlt 3 rl rfl (Ev.build (v:=.agg (enc T0).toArray) (pv:=[(1,.int .u8 (((1:BitVec 8) <<< n6) - (1:BitVec 8)).toNat)]) ⟨rfl,rfl,trivial⟩ (fun w=>by kernel_rfl))<|hts rfl hsel hlt 4 rl rfl (Ev.move rfl) ?_
  refine HdJ.o1 5 (fun inv=>?_)
  have g26:=mkLen_some h10
  have hm28:(List.replicate n9 (T1:ProcessR)).map ProcessR.v=(List.replicate n9 Procs.zero):=map_rep _ _
  have ha29:All ProcessR.frel w0 F [] (List.replicate n9 (T1:ProcessR)):=All.rep ⟨⟨rfl,Rd.nil⟩,⟨rfl,Rd.nil⟩,⟨rfl,Rd.nil⟩⟩
  refine Lst.make (α:=ProcessR) (z0:=(T1:ProcessR)) (k:=n9) rfl rfl (by decide) (congrArg some (congrArg (Value.int .i64) g26.1)) (congrArg some (congrArg (Value.int .i64) g26.1)) U93 Tryz.typeInfo100 rfl rfl rfl rfl rfl g26.2 rfl (fun s27=>?_)
  refine Lst.rowsNil Saying 62 n9<|Lst.its (L':=(.rows (α:=Saying) 62 (List.map ProcessR.row (List.replicate n9 (T1:ProcessR))))::(.own s27 100 8 (encs (List.replicate n9 (T1:ProcessR))))::L) (by dsimp +zetaDelta only; rw [List.map_replicate] <;> rfl)<|hds inv (sc2 rl)<|HdJ.done (by kernel_rfl) ?_
  exact At.meetN (s27,(List.replicate n9 Procs.zero),(List.replicate n9 (T1:ProcessR))) fl ⟨rfl,rfl,trivial⟩ rfl ⟨h24,hm28,(All.monoProcessF ha29 fl nsl)⟩
 rintro F30 ⟨s18,l19,rs20⟩ hF31 ⟨hy,fm21,fa22⟩
 let T2:=WldR.mk ({Wld.zero with view:=T0,all:=l19}:Wld) s18 Sl.nil Sl.nil
 subst hy
 refine lr (Ev.build (v:=.agg (enc T2).toArray) (pv:=[(0,.agg (enc T0).toArray),(1,Sl.v s18)]) ⟨rfl,rfl,⟨rfl,rfl,trivial⟩⟩ (run_buildStruct (places:=#[(0,2),(2,1),(3,1),(4,1)]) Tryz.zeroValue95 (zs:=enc T4) rfl U95 (fun w=>by kernel_rfl) (fill_cons (cs:=enc T4) (cs':=enc T3) (vs:=enc T0) rfl rfl el ((WldR.put_view (p:=T4) (y:=T0) phl).off rfl) (fill_cons (cs:=enc T3) (cs':=enc T2) (vs:=[Sl.v s18]) rfl rfl rfl ((WldR.put_all (p:=T3) (y:=s18) (Put.here (vs:=[Sl.v s18]) rfl)).off rfl) fill_nil)))) ?_
 refine Lst.box rfl rfl (by decide) rfl (cs:=enc T2) rfl (fun b32=>?_)
 refine as1 rfl<|as1 rfl<|nt0 ?_
 obtain rfl:=si H
 refine Cd.ret<|At.addNil 9 1<|At.addNil 9 1<|af 1 rfl<|af 4 rfl<|af 4 rfl ?_
 exact At.ret2 rfl (Res.tmp rfl) (Res.tmp rfl) hF31 rl ⟨b32,s18,rs20,Sl.nil,Sl.nil,rfl,rfl,fm21,(All.monoProcessF fa22 fl nsl)⟩
theorem world_New_nil_sim {a0:Int} {r:Int} (H:world_New_nil a0=some r) (w0:World) (F:Frz) (M L:List Item) (hM:M.Sublist L):Ok Tryz.prog w0 9 [iv a0] F (L) (Is (.tuple #[.pointer none,iv r]) (L)):=by
 let T4:=WldR.mk Wld.zero Sl.nil Sl.nil Sl.nil
 let T1:=ProcessR.mk Procs.zero Sl.nil (FromR.mk From.zero Sl.nil) (ToR.mk To.zero Sl.nil) (ToR.mk To.zero Sl.nil)
 unfold world_New_nil at H
 refine Ok.enter (m:=1) (n:=15) Tryz.func9 rfl rfl rfl (by decide)<|Cd.env (e':=[(0,iv a0)]) rfl<|sr0<|as1 rfl<|as1 rfl<|nt0<|Cd.seq<|sr0<|mv1 rfl ?_
 obtain ⟨r1,h2,H⟩:=bs H
 refine cl1 rfl (vs:=[iv a0,iv (1:Int),iv (6:Int)]) ⟨rfl,rfl,rfl,trivial⟩ Tryz.call34 (world_in_sim h2 w0 _ M _ hM)<|lr (Ev.not rfl)<|nt0 ?_
 rcases ic H with ⟨hb5,H⟩|⟨hb5,H⟩
 ·refine Cd.condT rfl hb5<|sr0<|as1 rfl<|as1 rfl<|nt0 ?_
  obtain rfl:=si H
  refine Cd.ret<|At.then_ret ?_
  exact At.ret2 rfl (Res.tmp rfl) (Res.tmp rfl) fl rl ⟨rfl,rfl⟩
 refine Cd.condF rfl hb5<|Cd.skip<|At.then<|Cd.seq ?_
 obtain ⟨n6,h7,H⟩:=bs H
 let T0:=({View.zero with Members:=((1:BitVec 8) <<< n6) - (1:BitVec 8)}:View)
 let T3:=WldR.mk ({Wld.zero with view:=T0}:Wld) Sl.nil Sl.nil Sl.nil
 obtain ⟨n9,h10,H⟩:=bs H
 obtain ⟨o23,h24,H⟩:=Let_some H
 refine Cd.headMeet (σ:=Sl×(List Procs)×(List ProcessR)) 6 (fun (s18,l19,rs20)=>[(10,.agg (enc T0).toArray),(12,Sl.v s18)]) (fun (s18,l19,rs20)=>(.rows (α:=Saying) 62 (List.map ProcessR.row rs20))::(.own s18 100 8 (encs rs20))::L) (fun Fx (s18,l19,rs20)=>l19=o23∧rs20.map ProcessR.v=l19∧All ProcessR.frel w0 Fx [] rs20) (by kernel_rfl) (by kernel_rfl) (behind_sink (by kernel_rfl) (by kernel_rfl) (by kernel_rfl)) (by kernel_rfl) (fun hsel hlt=>?_) ?_
 ·refine HdJ.keep (fun w=>St w0 F (L) w) (fun w h=>trivial)<|hts rfl hsel hlt 0 rl rfl (Ev.move rfl) ?_
  refine hts rfl hsel hlt 1 rl rfl (Ev.shlU8 (i:=(1:BitVec 8)) (m:=n6) rfl (congrArg some (congrArg (Value.int .i64) (cnt_some h7))))<|hts rfl hsel hlt 2 rl rfl (Ev.subU8 (i:=(1:BitVec 8) <<< n6) (j:=(1:BitVec 8)) rfl rfl)<|hts rfl hsel hlt 3 rl rfl (Ev.build (v:=.agg (enc T0).toArray) (pv:=[(1,.int .u8 (((1:BitVec 8) <<< n6) - (1:BitVec 8)).toNat)]) ⟨rfl,rfl,trivial⟩ (fun w=>by kernel_rfl))<|hts rfl hsel hlt 4 rl rfl (Ev.move rfl) ?_
  refine HdJ.o1 5 (fun inv=>?_)
  have g26:=mkLen_some h10
  have hm28:(List.replicate n9 (T1:ProcessR)).map ProcessR.v=(List.replicate n9 Procs.zero):=map_rep _ _
  have ha29:All ProcessR.frel w0 F [] (List.replicate n9 (T1:ProcessR)):=All.rep ⟨⟨rfl,Rd.nil⟩,⟨rfl,Rd.nil⟩,⟨rfl,Rd.nil⟩⟩
  refine Lst.make (α:=ProcessR) (z0:=(T1:ProcessR)) (k:=n9) rfl rfl (by decide) (congrArg some (congrArg (Value.int .i64) g26.1)) (congrArg some (congrArg (Value.int .i64) g26.1)) U93 Tryz.typeInfo100 rfl rfl rfl rfl rfl g26.2 rfl (fun s27=>?_)
  refine Lst.rowsNil Saying 62 n9<|Lst.its (L':=(.rows (α:=Saying) 62 (List.map ProcessR.row (List.replicate n9 (T1:ProcessR))))::(.own s27 100 8 (encs (List.replicate n9 (T1:ProcessR))))::L) (by dsimp +zetaDelta only; rw [List.map_replicate] <;> rfl)<|hds inv (sc2 rl)<|HdJ.done (by kernel_rfl) ?_
  exact At.meetN (s27,(List.replicate n9 Procs.zero),(List.replicate n9 (T1:ProcessR))) fl ⟨rfl,rfl,trivial⟩ rfl ⟨h24,hm28,(All.monoProcessF ha29 fl nsl)⟩
 rintro F30 ⟨s18,l19,rs20⟩ hF31 ⟨hy,fm21,fa22⟩
 let T2:=WldR.mk ({Wld.zero with view:=T0,all:=l19}:Wld) s18 Sl.nil Sl.nil
 subst hy
 refine lr (Ev.build (v:=.agg (enc T2).toArray) (pv:=[(0,.agg (enc T0).toArray),(1,Sl.v s18)]) ⟨rfl,rfl,⟨rfl,rfl,trivial⟩⟩ (run_buildStruct (places:=#[(0,2),(2,1),(3,1),(4,1)]) Tryz.zeroValue95 (zs:=enc T4) rfl U95 (fun w=>by kernel_rfl) (fill_cons (cs:=enc T4) (cs':=enc T3) (vs:=enc T0) rfl rfl el ((WldR.put_view (p:=T4) (y:=T0) phl).off rfl) (fill_cons (cs:=enc T3) (cs':=enc T2) (vs:=[Sl.v s18]) rfl rfl rfl ((WldR.put_all (p:=T3) (y:=s18) (Put.here (vs:=[Sl.v s18]) rfl)).off rfl) fill_nil)))) ?_
 refine Lst.box rfl rfl (by decide) rfl (cs:=enc T2) rfl (fun b32=>?_)
 refine as1 rfl<|as1 rfl<|nt0 ?_
 cases H
theorem partref_NewWorld_sim {a0:Int} {r:RWld} (H:partref_NewWorld a0=some r) (w0:World) (F:Frz) (M L:List Item) (hM:M.Sublist L):Ok Tryz.prog w0 10 [iv a0] F (L) (fun Fx L' v=>∃ (b1:Nat) (b2:Nat) (rs4:Vector (LR Saying) 6) (rs7:Vector ToR 6) (rs10:Vector FromR 6) (rs13:Vector ToR 6) (s16:Sl) (s18:Sl) (s20:Sl),v=pv b1 0∧L'=(mii b2 r.gone)::(.own s16 9 1 (encs r.order))::(.own s18 198 2 (encs r.marks))::(.own s20 132 12 (encs r.WayNotes))::(.blk b1 (enc (RWldR.mk r (some b2) rs4 rs7 rs10 rs13 s16 s18 s20)) 50)::L∧rs4.toList.map LR.v=r.Logs.toList∧All LR.rel w0 Fx [] rs4.toList∧rs7.toList.map ToR.v=r.want.toList∧All ToR.rel w0 Fx [] rs7.toList∧rs10.toList.map FromR.v=r.Late.toList∧All FromR.rel w0 Fx [] rs10.toList∧rs13.toList.map ToR.v=r.in_.toList∧All ToR.rel w0 Fx [] rs13.toList):=by
 let T5:=FromR.mk From.zero Sl.nil
 let T3:=RWldR.mk RWld.zero none (Vector.replicate 6 ⟨[],Sl.nil⟩:Vector (LR Saying) 6) (Vector.replicate 6 (ToR.mk To.zero Sl.nil):Vector ToR 6) (Vector.replicate 6 T5:Vector FromR 6) (Vector.replicate 6 (ToR.mk To.zero Sl.nil):Vector ToR 6) Sl.nil Sl.nil Sl.nil
 let T2:=RWldR.mk ({RWld.zero with n:=a0}:RWld) none (Vector.replicate 6 ⟨[],Sl.nil⟩:Vector (LR Saying) 6) (Vector.replicate 6 (ToR.mk To.zero Sl.nil):Vector ToR 6) (Vector.replicate 6 T5:Vector FromR 6) (Vector.replicate 6 (ToR.mk To.zero Sl.nil):Vector ToR 6) Sl.nil Sl.nil Sl.nil
 unfold partref_NewWorld at H
 refine Ok.enter (m:=1) (n:=11) Tryz.func10 rfl rfl rfl (by decide)<|Cd.env (e':=[(0,iv a0)]) rfl<|sr0<|as1 rfl<|nsr<|mv1 rfl<|mv1 rfl ?_
 obtain ⟨n1,h2,H⟩:=bs H
 let T4:=({View.zero with Members:=((1:BitVec 8) <<< n1) - (1:BitVec 8)}:View)
 let T1:=RWldR.mk ({RWld.zero with n:=a0,V:=T4}:RWld) none (Vector.replicate 6 ⟨[],Sl.nil⟩:Vector (LR Saying) 6) (Vector.replicate 6 (ToR.mk To.zero Sl.nil):Vector ToR 6) (Vector.replicate 6 T5:Vector FromR 6) (Vector.replicate 6 (ToR.mk To.zero Sl.nil):Vector ToR 6) Sl.nil Sl.nil Sl.nil
 refine lr (Ev.shlU8 (i:=(1:BitVec 8)) (m:=n1) rfl (congrArg some (congrArg (Value.int .i64) (cnt_some h2))))<|lr (Ev.subU8 (i:=(1:BitVec 8) <<< n1) (j:=(1:BitVec 8)) rfl rfl)<|lr (Ev.build (v:=.agg (enc T4).toArray) (pv:=[(1,.int .u8 (((1:BitVec 8) <<< n1) - (1:BitVec 8)).toNat)]) ⟨rfl,rfl,trivial⟩ (fun w=>by kernel_rfl)) ?_
 refine Lst.makeMap (fun x:Int=>(iv x:Value)) (fun x:Int=>(iv x:Value)) rfl rfl (by decide) (fun b4=>?_)
 let T0:=RWldR.mk ({RWld.zero with n:=a0,V:=T4,gone:=([]:List (Int×Int))}:RWld) (some b4) (Vector.replicate 6 ⟨[],Sl.nil⟩:Vector (LR Saying) 6) (Vector.replicate 6 (ToR.mk To.zero Sl.nil):Vector ToR 6) (Vector.replicate 6 T5:Vector FromR 6) (Vector.replicate 6 (ToR.mk To.zero Sl.nil):Vector ToR 6) Sl.nil Sl.nil Sl.nil
 have hm6:(Vector.replicate 6 ⟨[],Sl.nil⟩:Vector (LR Saying) 6).toList.map LR.v=(Vector.replicate 6 []:Vector (List Saying) 6).toList:=vmap_rep _ _
 have ha7:All LR.rel w0 F [] (Vector.replicate 6 ⟨[],Sl.nil⟩:Vector (LR Saying) 6).toList:=vAll_rep Rd.nil
 have hm8:(Vector.replicate 6 (ToR.mk To.zero Sl.nil):Vector ToR 6).toList.map ToR.v=(Vector.replicate 6 To.zero:Vector To 6).toList:=vmap_rep _ _
 have ha9:All ToR.rel w0 F [] (Vector.replicate 6 (ToR.mk To.zero Sl.nil):Vector ToR 6).toList:=vAll_rep Rd.nil
 have hm10:(Vector.replicate 6 T5:Vector FromR 6).toList.map FromR.v=(Vector.replicate 6 From.zero:Vector From 6).toList:=vmap_rep _ _
 have ha11:All FromR.rel w0 F [] (Vector.replicate 6 T5:Vector FromR 6).toList:=vAll_rep Rd.nil
 have hm12:(Vector.replicate 6 (ToR.mk To.zero Sl.nil):Vector ToR 6).toList.map ToR.v=(Vector.replicate 6 To.zero:Vector To 6).toList:=vmap_rep _ _
 have ha13:All ToR.rel w0 F [] (Vector.replicate 6 (ToR.mk To.zero Sl.nil):Vector ToR 6).toList:=vAll_rep Rd.nil
 refine lr (Ev.build (v:=.agg (enc T0).toArray) (pv:=[(0,iv a0),(1,.agg (enc T4).toArray),(2,.map (some b4))]) ⟨rfl,rfl,⟨rfl,rfl,⟨rfl,rfl,trivial⟩⟩⟩ (run_buildStruct (places:=#[(0,1),(1,2),(3,1),(4,6),(10,12),(22,12),(34,12),(46,1),(47,1),(48,1)]) Tryz.zeroValue50 (zs:=enc T3) rfl U50 (fun w=>by kernel_rfl) (fill_cons (cs:=enc T3) (cs':=enc T2) (vs:=[iv a0]) rfl rfl rfl ((RWldR.put_n (p:=T3) (y:=a0) (Put.here (vs:=[iv a0]) rfl)).off rfl) (fill_cons (cs:=enc T2) (cs':=enc T1) (vs:=enc T4) rfl rfl el ((RWldR.put_V (p:=T2) (y:=T4) phl).off rfl) (fill_cons (cs:=enc T1) (cs':=enc T0) (vs:=[.map (some b4)]) rfl rfl rfl ((RWldR.put_gone (p:=T1) (y:=(some b4)) (Put.here (vs:=[.map (some b4)]) rfl)).off rfl) fill_nil))))) ?_
 refine Lst.box rfl rfl (by decide) rfl (cs:=enc T0) rfl (fun b14=>?_)
 refine as1 rfl<|nt0 ?_
 obtain rfl:=si H
 refine Cd.ret<|At.addNil 9 1<|At.addNil 198 2<|At.addNil 132 12<|af 1 rfl<|af 2 rfl<|af 4 rfl ?_
 exact At.ret1 rfl (Res.tmp rfl) fl rl ⟨b14,b4,(Vector.replicate 6 ⟨[],Sl.nil⟩:Vector (LR Saying) 6),(Vector.replicate 6 (ToR.mk To.zero Sl.nil):Vector ToR 6),(Vector.replicate 6 T5:Vector FromR 6),(Vector.replicate 6 (ToR.mk To.zero Sl.nil):Vector ToR 6),Sl.nil,Sl.nil,Sl.nil,rfl,rfl,hm6,(All.monoLR ha7 fl nsl),hm8,(All.monoTo ha9 fl nsl),hm10,(All.monoFrom ha11 fl nsl),hm12,(All.monoTo ha13 fl nsl)⟩
theorem world_World_known_sim {a0:Wld} {a1:Int} {ba0:Nat} {sa0x1:Sl} {ra0x1:List ProcessR} {sa0x2:Sl} {sa0x3:Sl} {r:Int} (H:world_World_known a0 a1=some r) (w0:World) (F:Frz) (M L:List Item) (hM:M.Sublist L) (ma0x1:ra0x1.map ProcessR.v=a0.all) (na0x1:All ProcessR.frel w0 F [] ra0x1):Ok Tryz.prog w0 43 [pv ba0 0,iv a1] F ((.rows (α:=Saying) 62 (List.map ProcessR.row ra0x1))::(.own sa0x1 100 8 (encs ra0x1))::(.own sa0x2 9 1 (encs a0.ordered))::(.own sa0x3 9 1 (encs a0.way))::(.blk ba0 (enc (WldR.mk a0 sa0x1 sa0x2 sa0x3)) 95)::L) (Is (iv r) ((.rows (α:=Saying) 62 (List.map ProcessR.row ra0x1))::(.own sa0x1 100 8 (encs ra0x1))::(.own sa0x2 9 1 (encs a0.ordered))::(.own sa0x3 9 1 (encs a0.way))::(.blk ba0 (enc (WldR.mk a0 sa0x1 sa0x2 sa0x3)) 95)::L)):=by
 unfold world_World_known at H
 refine Ok.enter (m:=2) (n:=14) Tryz.func43 rfl rfl rfl (by decide)<|Cd.env (e':=[(0,pv ba0 0),(1,iv a1)]) rfl<|sr0<|as1 rfl<|nt0<|Cd.seq<|sr0<|mv1 rfl<|mv1 rfl<|lr (Ev.nilCheck rfl)<|lr (Ev.fo 2 rfl U95 rfl Z93 rfl rfl) ?_
 refine lr (Ev.load (i:=4) rfl rfl I93 (v:=Sl.v sa0x1) ((WldR.get_all gh0).off rfl))<|lr (Ev.lenM (map_len ma0x1) (Ev.lenS (α:=ProcessR) (xs:=ra0x1) (by decide) rfl rfl U93 (rdo 1 rfl rfl rfl)))<|lr (Ev.sub rfl rfl) ?_
 obtain ⟨r7,h8,H⟩:=bs H
 refine cl1 rfl (vs:=[iv a1,iv (0:Int),iv (w64 ((a0.all.length:Int) - (1:Int)))]) ⟨rfl,rfl,rfl,trivial⟩ Tryz.call34 (world_in_sim h8 w0 _ M _ (sc4 (sc1 hM)))<|lr (Ev.not rfl)<|nt0 ?_
 rcases ic H with ⟨hb11,H⟩|⟨hb11,H⟩
 ·refine Cd.condT rfl hb11<|sr0<|as1 rfl<|nt0 ?_
  obtain rfl:=si H
  refine Cd.ret<|At.then_ret ?_
  exact At.ret1 rfl (Res.tmp rfl) fl rl ⟨rfl,rfl⟩
 refine Cd.condF rfl hb11<|Cd.skip<|At.then<|sr0<|as1 rfl<|nt0 ?_
 obtain rfl:=si H
 refine Cd.ret ?_
 exact At.ret1 rfl (Res.tmp rfl) fl rl ⟨rfl,rfl⟩
theorem world_World_active_sim {a0:Wld} {a1:Int} {ba0:Nat} {sa0x1:Sl} {ra0x1:List ProcessR} {sa0x2:Sl} {sa0x3:Sl} {r:Bool} (H:world_World_active a0 a1=some r) (w0:World) (F:Frz) (M L:List Item) (hM:M.Sublist L) (ma0x1:ra0x1.map ProcessR.v=a0.all) (na0x1:All ProcessR.frel w0 F [] ra0x1):Ok Tryz.prog w0 65 [pv ba0 0,iv a1] F ((.rows (α:=Saying) 62 (List.map ProcessR.row ra0x1))::(.own sa0x1 100 8 (encs ra0x1))::(.own sa0x2 9 1 (encs a0.ordered))::(.own sa0x3 9 1 (encs a0.way))::(.blk ba0 (enc (WldR.mk a0 sa0x1 sa0x2 sa0x3)) 95)::L) (Is (.bool r) ((.rows (α:=Saying) 62 (List.map ProcessR.row ra0x1))::(.own sa0x1 100 8 (encs ra0x1))::(.own sa0x2 9 1 (encs a0.ordered))::(.own sa0x3 9 1 (encs a0.way))::(.blk ba0 (enc (WldR.mk a0 sa0x1 sa0x2 sa0x3)) 95)::L)):=by
 unfold world_World_active at H
 refine Ok.enter (m:=2) (n:=35) Tryz.func65 rfl rfl rfl (by decide)<|Cd.env (e':=[(0,pv ba0 0),(1,iv a1)]) rfl<|sr0<|as1 rfl<|nsr<|mv1 rfl<|mv1 rfl<|lr (Ev.nilCheck rfl)<|lr (Ev.fo 2 rfl U95 rfl Z93 rfl rfl)<|lr (Ev.load (i:=4) rfl rfl I93 (v:=Sl.v sa0x1) ((WldR.get_all gh0).off rfl))<|lr (Ev.lenM (map_len ma0x1) (Ev.lenS (α:=ProcessR) (xs:=ra0x1) (by decide) rfl rfl U93 (rdo 1 rfl rfl rfl))) ?_
 refine lr (Ev.sub rfl rfl) ?_
 obtain ⟨r7,h8,H⟩:=bs H
 refine cl1 rfl (vs:=[iv a1,iv (0:Int),iv (w64 ((a0.all.length:Int) - (1:Int)))]) ⟨rfl,rfl,rfl,trivial⟩ Tryz.call34 (world_in_sim h8 w0 _ M _ (sc4 (sc1 hM)))<|mv1 rfl ?_
 obtain ⟨o11,H,HKo11⟩:=bs H
 refine Lst.join (σ:=Bool) 10 (fun y12=>[(0,pv ba0 0),(1,iv a1),(23,.bool y12)]) (fun y12=>(.rows (α:=Saying) 62 (List.map ProcessR.row ra0x1))::(.own sa0x1 100 8 (encs ra0x1))::(.own sa0x2 9 1 (encs a0.ordered))::(.own sa0x3 9 1 (encs a0.way))::(.blk ba0 (enc (WldR.mk a0 sa0x1 sa0x2 sa0x3)) 95)::L) (fun _ y12=>y12=o11) ?_ ?_
 ·rcases ic2 H with ⟨hb13,H⟩|⟨hb13,H⟩
  ·refine lsk rfl hb13<|lsk rfl hb13<|lsk rfl hb13<|lsk rfl hb13<|lsk rfl hb13<|lsk rfl hb13<|lsk rfl hb13<|lsk rfl hb13<|lsk rfl hb13<|lr (Ev.pickF rfl hb13 rfl)<|Lst.nil ?_
   exact At.meet false fl ⟨rfl,rfl,rfl,trivial⟩ rfl (si H)
  refine lg hb13 (Ev.move rfl)<|lg hb13 (Ev.nilCheck rfl)<|lg hb13 (Ev.fo 0 rfl U95 rfl Z34 rfl rfl)<|lg hb13 (Ev.fo 1 rfl U34 rfl Z5 rfl rfl)<|lg hb13 (Ev.load (i:=4) rfl rfl I5 (v:=.int .u8 a0.view.Members.toNat) ((WldR.get_view (View.get_Members gh0)).off rfl))<|lg hb13 (Ev.move rfl) ?_
  obtain ⟨n14,h15,H⟩:=bs H
  refine lg hb13 (Ev.shrU8 (i:=a0.view.Members) (m:=n14) rfl (congrArg some (congrArg (Value.int .i64) (cnt_some h15))))<|lg hb13 (Ev.andU8 (i:=a0.view.Members >>> n14) (j:=(1:BitVec 8)) rfl rfl)<|lg hb13 (Ev.eql rfl rfl)<|lr (Ev.pickT rfl hb13 rfl)<|Lst.nil ?_
  exact At.meet ((((a0.view.Members >>> n14) &&& (1:BitVec 8)).toNat:Int)==((1:BitVec 8).toNat:Int)) fl ⟨rfl,rfl,rfl,trivial⟩ rfl (si H)
 rintro F17 y12 hF18 hy
 subst hy
 replace H:=HKo11
 refine mv1 rfl ?_
 obtain ⟨o19,H,HKo19⟩:=bs H
 refine Lst.join (σ:=Bool) 10 (fun y20=>[(34,.bool y20)]) (fun y20=>(.rows (α:=Saying) 62 (List.map ProcessR.row ra0x1))::(.own sa0x1 100 8 (encs ra0x1))::(.own sa0x2 9 1 (encs a0.ordered))::(.own sa0x3 9 1 (encs a0.way))::(.blk ba0 (enc (WldR.mk a0 sa0x1 sa0x2 sa0x3)) 95)::L) (fun _ y20=>y20=o19) ?_ ?_
 ·rcases ic2 H with ⟨hb21,H⟩|⟨hb21,H⟩
  ·refine lsk rfl hb21<|lsk rfl hb21<|lsk rfl hb21<|lsk rfl hb21<|lsk rfl hb21<|lsk rfl hb21<|lsk rfl hb21<|lsk rfl hb21<|lsk rfl hb21<|lr (Ev.pickF rfl hb21 rfl)<|Lst.nil ?_
   exact At.meet false fl ⟨rfl,trivial⟩ rfl (si H)
  refine lg hb21 (Ev.move rfl)<|lg hb21 (Ev.nilCheck rfl)<|lg hb21 (Ev.fo 2 rfl U95 rfl Z93 rfl rfl)<|lg hb21 (Ev.load (i:=4) rfl rfl I93 (v:=Sl.v sa0x1) ((WldR.get_all gh0).off rfl))<|lg hb21 (Ev.move rfl) ?_
  obtain ⟨x22,h23,H⟩:=bs H
  have g24:=lat_some h23
  obtain ⟨⟨r25v,r25h1,⟨r25_2v,r25_2h1⟩,⟨r25_3v,r25_3h1⟩,⟨r25_4v,r25_4h1⟩⟩,r25g,r25e,r25m⟩:=map_get ma0x1 g24.2.2
  obtain rfl:x22=r25v:=r25e.symm
  have r25q:ProcessR.frel w0 _ _ (ProcessR.mk x22 r25h1 (FromR.mk r25_2v r25_2h1) (ToR.mk r25_3v r25_3h1) (ToR.mk r25_4v r25_4h1)):=na0x1 _ r25m
  obtain ⟨r25_i2,r25_i3,r25_i4⟩:=r25q
  obtain ⟨r25_2e,r25_2q⟩:=r25_i2
  obtain rfl:r25_2v=x22.from_:=r25_2e
  have r25_2_f1:Rd w0 _ _ _ _:=r25_2q
  obtain ⟨r25_3e,r25_3q⟩:=r25_i3
  obtain rfl:r25_3v=x22.to:=r25_3e
  have r25_3_f1:Rd w0 _ _ _ _:=r25_3q
  obtain ⟨r25_4e,r25_4q⟩:=r25_i4
  obtain rfl:r25_4v=x22.orders:=r25_4e
  have r25_4_f1:Rd w0 _ _ _ _:=r25_4q
  have r25wg:=map_at ProcessR.row r25g
  refine lg hb21 (Ev.indexS (α:=ProcessR) (xs:=ra0x1) rfl rfl U93 Z100 rfl (by decide) (rdo 1 rfl rfl rfl) g24.1 (by have:=map_len ma0x1; omega))<|lg hb21 (Ev.fieldS (α:=ProcessR) (f':=a1.toNat * 8+0) rfl (rdo 1 rfl rfl rfl) ((Get.elemN (s:=8) rfl r25g gh0).off (by omega)) rfl U100 rfl Z4 rfl rfl rfl)<|lg hb21 (Ev.loadS (α:=ProcessR) rfl (rdo 1 rfl rfl rfl) I4 (v:=.bool x22.fallen) ((Get.elemN (s:=8) rfl r25g (ProcessR.get_fallen gh0)).off (by omega)))<|lg hb21 (Ev.not rfl)<|lr (Ev.pickT rfl hb21 rfl)<|Lst.nil ?_
  exact At.meet (!x22.fallen) fl ⟨rfl,trivial⟩ rfl (si H)
 rintro F26 y20 hF27 hy
 subst hy
 replace H:=HKo19
 refine as1 rfl<|nt0 ?_
 obtain rfl:=si H
 refine Cd.ret ?_
 exact At.ret1 rfl (Res.tmp rfl) (ft hF18 hF27) rl ⟨rfl,rfl⟩
theorem world_World_working_sim {a0:Wld} {a1:Int} {ba0:Nat} {sa0x1:Sl} {ra0x1:List ProcessR} {sa0x2:Sl} {sa0x3:Sl} {r:Int} (H:world_World_working a0 a1=some r) (w0:World) (F:Frz) (M L:List Item) (hM:M.Sublist L) (ma0x1:ra0x1.map ProcessR.v=a0.all) (na0x1:All ProcessR.frel w0 F [] ra0x1):Ok Tryz.prog w0 59 [pv ba0 0,iv a1] F ((.rows (α:=Saying) 62 (List.map ProcessR.row ra0x1))::(.own sa0x1 100 8 (encs ra0x1))::(.own sa0x2 9 1 (encs a0.ordered))::(.own sa0x3 9 1 (encs a0.way))::(.blk ba0 (enc (WldR.mk a0 sa0x1 sa0x2 sa0x3)) 95)::L) (Is (iv r) ((.rows (α:=Saying) 62 (List.map ProcessR.row ra0x1))::(.own sa0x1 100 8 (encs ra0x1))::(.own sa0x2 9 1 (encs a0.ordered))::(.own sa0x3 9 1 (encs a0.way))::(.blk ba0 (enc (WldR.mk a0 sa0x1 sa0x2 sa0x3)) 95)::L)):=by
 unfold world_World_working at H
 refine Ok.enter (m:=2) (n:=16) Tryz.func59 rfl rfl rfl (by decide)<|Cd.env (e':=[(0,pv ba0 0),(1,iv a1)]) rfl<|sr0<|as1 rfl<|nt0<|Cd.seq<|sr0<|mv1 rfl<|mv1 rfl ?_
 obtain ⟨r6,h7,H⟩:=bs H
 refine cl1 rfl (vs:=[pv ba0 0,iv a1]) ⟨rfl,rfl,trivial⟩ Tryz.call43 (world_World_known_sim h7 w0 _ M _ hM ma0x1 (All.monoProcessF na0x1 fl nsl))<|as1 rfl<|nsr<|mv1 rfl<|lr (Ev.neq rfl rfl)<|nt0 ?_
 rcases ic H with ⟨hb10,H⟩|⟨hb10,H⟩
 ·refine Cd.condT rfl hb10<|sr0<|mv1 rfl<|as1 rfl<|nt0 ?_
  obtain rfl:=si H
  refine Cd.ret<|At.then_ret ?_
  exact At.ret1 rfl (Res.tmp rfl) fl rl ⟨rfl,rfl⟩
 refine Cd.condF rfl hb10<|Cd.skip<|At.then<|Cd.seq<|sr0<|mv1 rfl<|mv1 rfl ?_
 obtain ⟨r11,h12,H⟩:=bs H
 refine cl1 rfl (vs:=[pv ba0 0,iv a1]) ⟨rfl,rfl,trivial⟩ Tryz.call65 (world_World_active_sim h12 w0 _ M _ hM ma0x1 (All.monoProcessF na0x1 fl nsl))<|lr (Ev.not rfl)<|nt0 ?_
 rcases ic H with ⟨hb15,H⟩|⟨hb15,H⟩
 ·refine Cd.condT rfl hb15<|sr0<|as1 rfl<|nt0 ?_
  obtain rfl:=si H
  refine Cd.ret<|At.then_ret ?_
  exact At.ret1 rfl (Res.tmp rfl) fl rl ⟨rfl,rfl⟩
 refine Cd.condF rfl hb15<|Cd.skip<|At.then<|sr0<|as1 rfl<|nt0 ?_
 obtain rfl:=si H
 refine Cd.ret ?_
 exact At.ret1 rfl (Res.tmp rfl) fl rl ⟨rfl,rfl⟩
theorem lane_in_sim {a0:Int} {a1:Int} {a2:Int} {r:Bool} (H:lane_in a0 a1 a2=some r) (w0:World) (F:Frz) (M L:List Item) (hM:M.Sublist L):Ok Tryz.prog w0 168 [iv a0,iv a1,iv a2] F (L) (Is (.bool r) (L)):=by
 unfold lane_in at H
 refine Ok.enter (m:=3) (n:=15) Tryz.func168 rfl rfl rfl (by decide)<|Cd.env (e':=[(0,iv a0),(1,iv a1),(2,iv a2)]) rfl<|sr0<|as1 rfl<|nsr<|mv1 rfl<|mv1 rfl<|lr (Ev.geq rfl rfl)<|mv1 rfl ?_
 obtain ⟨o1,H,HKo1⟩:=bs H
 refine Lst.join (σ:=Bool) 4 (fun y2=>[(14,.bool y2)]) (fun y2=>L) (fun _ y2=>y2=o1) ?_ ?_
 ·rcases ic2 H with ⟨hb3,H⟩|⟨hb3,H⟩
  ·refine lsk rfl hb3<|lsk rfl hb3<|lsk rfl hb3<|lr (Ev.pickF rfl hb3 rfl)<|Lst.nil ?_
   exact At.meet false fl ⟨rfl,trivial⟩ rfl (si H)
  refine lg hb3 (Ev.move rfl)<|lg hb3 (Ev.move rfl)<|lg hb3 (Ev.leq rfl rfl)<|lr (Ev.pickT rfl hb3 rfl)<|Lst.nil ?_
  exact At.meet (decide (a0≤a2)) fl ⟨rfl,trivial⟩ rfl (si H)
 rintro F4 y2 hF5 hy
 subst hy
 replace H:=HKo1
 refine as1 rfl<|nt0 ?_
 obtain rfl:=si H
 refine Cd.ret ?_
 exact At.ret1 rfl (Res.tmp rfl) hF5 rl ⟨rfl,rfl⟩
theorem lane_long_sim {a0:Str} {r:Bool} (H:lane_long a0=some r) (w0:World) (F:Frz) (M L:List Item) (hM:M.Sublist L):Ok Tryz.prog w0 112 [Str.v a0] F (L) (Is (.bool r) (L)):=by
 unfold lane_long at H
 refine Ok.enter (m:=1) (n:=6) Tryz.func112 rfl rfl rfl (by decide)<|Cd.env (e':=[(0,Str.v a0)]) rfl<|sr0<|as1 rfl<|nsr<|mv1 rfl<|lr (Ev.lenStr rfl rfl U9)<|lr (Ev.gtr rfl rfl)<|as1 rfl<|nt0 ?_
 obtain rfl:=si H
 refine Cd.ret ?_
 exact At.ret1 rfl (Res.tmp rfl) fl rl ⟨rfl,rfl⟩
theorem slices_IndexFunc_string_string_lane_long_sim {a0:List Str} {sa0:Sl} {r:Int} (H:slices_IndexFunc_string_string_lane_long a0=some r) (w0:World) (F:Frz) (M L:List Item) (hM:M.Sublist L) (pa0:Rd w0 F M sa0 a0):Ok Tryz.prog w0 143 [Sl.v sa0,.func (.func 112) #[] #[]] F (L) (Is (iv r) (L)):=by
 unfold slices_IndexFunc_string_string_lane_long at H
 refine Ok.enter (m:=2) (n:=19) Tryz.func143 rfl rfl rfl (by decide)<|Cd.env (e':=[(0,Sl.v sa0),(1,.func (.func 112) #[] #[])]) rfl<|sr0<|as1 rfl<|nt0<|Cd.seq<|sr0<|mv1 rfl<|lr (Ev.lenS (α:=Str) (xs:=a0) (by decide) rfl rfl U43 (pa0.mono fl hM))<|mv1 rfl<|nt0 ?_
 refine Cd.block ?_
 refine Cd.bound (Rd.le (α:=Str) (xs:=a0) (by decide) (pa0.mono fl hM)) (fun hN12=>?_)
 obtain ⟨ol1,H,HKl1⟩:=andThen_some H
 refine Cd.loop (σ:=Nat×Nat×Unit) (fun (i1,k1,_u)=>[(0,Sl.v sa0),(1,.func (.func 112) #[] #[]),(7,iv (a0.length:Int)),(8,iv (i1:Int))]) (fun (i1,k1,_u)=>L) (fun _=>(fun (i1,k1,_u)=>rangeM (slices_IndexFunc_string_string_lane_long_B0 a0) k1 i1 ()=some ol1∧i1+k1=a0.length)) (fun (i1,k1,_u)=>k1) (0,a0.length,()) ⟨rfl,rfl,rfl,rfl,trivial⟩ rfl ⟨H,by omega⟩ ?_
 rintro F2 ⟨i1,k1,_u⟩ hF3 ⟨H,hik1⟩
 rcases k1 with _ | k1
 ·have hc1:decide ((i1:Int) < (a0.length:Int))=false:=decide_eq_false (by omega)
  replace H:=rangeM_end H
  refine sr0<|lr (Ev.lss rfl rfl)<|nt0<|Cd.seq<|Cd.condF rfl hc1<|Cd.exit<|At.then_exit<|At.then_exit<|At.in_exit ?_
  subst H
  replace H:=HKl1
  refine At.then<|sr0<|as1 rfl<|nt0 ?_
  obtain rfl:=si H
  refine Cd.ret ?_
  exact At.ret1 rfl (Res.tmp rfl) hF3 rl ⟨rfl,rfl⟩
 have hc1:decide ((i1:Int) < (a0.length:Int))=true:=decide_eq_true (by omega)
 obtain ⟨c1,H,hgo1,hbrk1,hret1⟩:=rangeM_go H
 unfold slices_IndexFunc_string_string_lane_long_B0 at H
 try dsimp only at H
 refine sr0<|lr (Ev.lss rfl rfl)<|nt0<|Cd.seq<|Cd.condT rfl hc1<|Cd.skip<|At.then<|Cd.seq<|Cd.block<|sr0<|mv1 rfl ?_
 refine as1 rfl<|nsr<|mv1 rfl<|mv1 rfl<|mv1 rfl ?_
 obtain ⟨x4,h5,H⟩:=bs H
 have g6:=lat_some h5
 refine lr (Ev.indexS (α:=Str) (xs:=a0) rfl rfl U43 Z9 rfl (by decide) (pa0.mono hF3 hM) g6.1 g6.2.1)<|lr (Ev.loadS (α:=Str) rfl (pa0.mono hF3 hM) I9 (v:=Str.v x4) ((Get.elemN (s:=1) (x:=x4) rfl g6.2.2 gh0).off (by omega))) ?_
 obtain ⟨r7,h8,H⟩:=bs H
 refine Lst.callV1 rfl rfl (by decide) (vs:=[Str.v x4]) (cs:=[]) rfl ⟨rfl,trivial⟩ Tryz.call112 (lane_long_sim h8 w0 _ M _ hM)<|nt0 ?_
 rcases ic H with ⟨hb11,H⟩|⟨hb11,H⟩
 ·refine Cd.condT rfl hb11<|sr0<|mv1 rfl<|as1 rfl<|nt0 ?_
  have H:=hret1 _ (sj H)
  subst H
  replace H:=HKl1
  obtain rfl:=si H
  refine Cd.ret<|At.in_ret<|At.then_ret<|At.then_ret<|At.in_ret<|At.then_ret ?_
  exact At.ret1 rfl (Res.tmp rfl) hF3 rl ⟨rfl,rfl⟩
 refine Cd.condF rfl hb11<|Cd.skip<|At.in_normal<|At.then<|Cd.region<|lr (Ev.incr (by omega) rfl rfl)<|mv1 rfl<|Lst.nil ?_
 exact At.meet (i1+1,k1,()) hF3 ⟨rfl,rfl,rfl,rfl,trivial⟩ rfl ⟨⟨hgo1 _ (sj H),by omega⟩,nls⟩
theorem slices_ContainsFunc_string_string_lane_long_sim {a0:List Str} {sa0:Sl} {r:Bool} (H:slices_ContainsFunc_string_string_lane_long a0=some r) (w0:World) (F:Frz) (M L:List Item) (hM:M.Sublist L) (pa0:Rd w0 F M sa0 a0):Ok Tryz.prog w0 169 [Sl.v sa0,.func (.func 112) #[] #[]] F (L) (Is (.bool r) (L)):=by
 unfold slices_ContainsFunc_string_string_lane_long at H
 refine Ok.enter (m:=2) (n:=9) Tryz.func169 rfl rfl rfl (by decide)<|Cd.env (e':=[(0,Sl.v sa0),(1,.func (.func 112) #[] #[])]) rfl<|sr0<|as1 rfl<|nsr<|mv1 rfl<|mv1 rfl ?_
 obtain ⟨r1,h2,H⟩:=bs H
 refine cl1 rfl (vs:=[Sl.v sa0,.func (.func 112) #[] #[]]) ⟨rfl,rfl,trivial⟩ Tryz.call143 (slices_IndexFunc_string_string_lane_long_sim h2 w0 _ M _ hM (pa0.mono fl rl))<|lr (Ev.geq rfl rfl)<|as1 rfl<|nt0 ?_
 obtain rfl:=si H
 refine Cd.ret ?_
 exact At.ret1 rfl (Res.tmp rfl) fl rl ⟨rfl,rfl⟩
theorem lane_CheckFrom_sim {a0:From} {sa0x1:Sl} {r:Int} (H:lane_CheckFrom a0=some r) (w0:World) (F:Frz) (M L:List Item) (hM:M.Sublist L) (pa0x1:Rd w0 F M sa0x1 a0.Late):Ok Tryz.prog w0 111 [.agg (enc (FromR.mk a0 sa0x1)).toArray] F (L) (Is (iv r) (L)):=by
 unfold lane_CheckFrom at H
 refine Ok.enter (m:=1) (n:=18) Tryz.func111 rfl rfl rfl (by decide)<|Cd.env (e':=[(0,.agg (enc (FromR.mk a0 sa0x1)).toArray)]) rfl<|sr0 ?_
 refine Lst.box rfl rfl (by decide) rfl (cs:=enc (FromR.mk a0 sa0x1)) rfl (fun b1=>?_)
 refine as1 rfl<|nt0<|Cd.seq<|Cd.block<|sr0<|lr (Ev.fo 0 rfl U45 rfl Z3 rfl rfl)<|lr (Ev.load (i:=0) rfl rfl I3 (v:=iv a0.Base) ((FromR.get_Base gh0).off rfl)) ?_
 obtain ⟨r3,h4,H⟩:=bs H
 refine cl1 rfl (vs:=[iv a0.Base,iv (0:Int),iv (16777215:Int)]) ⟨rfl,rfl,rfl,trivial⟩ Tryz.call168 (lane_in_sim h4 w0 _ M _ (sc1 hM))<|lr (Ev.not rfl)<|mv1 rfl ?_
 obtain ⟨o7,H,HKo7⟩:=bs H
 refine Lst.join (σ:=Bool) 5 (fun y8=>[(1,pv b1 0),(13,.bool y8)]) (fun y8=>(.blk b1 (enc (FromR.mk a0 sa0x1)) 45)::L) (fun _ y8=>y8=o7) ?_ ?_
 ·rcases ic H with ⟨hb9,H⟩|⟨hb9,H⟩
  ·refine lsk rfl hb9<|lsk rfl hb9<|lsk rfl hb9<|lsk rfl hb9<|lr (Ev.pickT rfl hb9 rfl)<|Lst.nil ?_
   exact At.meet true fl ⟨rfl,rfl,trivial⟩ rfl (si H)
  refine lg hb9 (Ev.fo 1 rfl U45 rfl Z43 rfl rfl)<|lg hb9 (Ev.load (i:=0) rfl rfl I43 (v:=Sl.v sa0x1) ((FromR.get_Late gh0).off rfl))<|lg hb9 (Ev.lenS (α:=Str) (xs:=a0.Late) (by decide) rfl rfl U43 (pa0x1.mono fl (sc1 hM)))<|lg hb9 (Ev.gtr rfl rfl)<|lr (Ev.pickF rfl hb9 rfl)<|Lst.nil ?_
  exact At.meet (decide ((a0.Late.length:Int) > (16:Int))) fl ⟨rfl,rfl,trivial⟩ rfl (si H)
 rintro F10 y8 hF11 hy
 subst hy
 replace H:=HKo7
 refine as1 rfl<|nt0 ?_
 rcases ic H with ⟨hb12,H⟩|⟨hb12,H⟩
 ·refine Cd.condT rfl hb12<|sr0<|as1 rfl<|nt0 ?_
  obtain rfl:=si H
  refine Cd.ret<|At.in_ret<|At.then_ret ?_
  exact At.ret1 rfl (Res.tmp rfl) hF11 (sc1 rl) ⟨rfl,rfl⟩
 refine Cd.condF rfl hb12<|sr0<|lr (Ev.fo 1 rfl U45 rfl Z43 rfl rfl)<|lr (Ev.load (i:=0) rfl rfl I43 (v:=Sl.v sa0x1) ((FromR.get_Late gh0).off rfl)) ?_
 obtain ⟨r13,h14,H⟩:=bs H
 refine cl1 rfl (vs:=[Sl.v sa0x1,.func (.func 112) #[] #[]]) ⟨rfl,rfl,trivial⟩ Tryz.call169 (slices_ContainsFunc_string_string_lane_long_sim h14 w0 _ M _ (sc1 hM) (pa0x1.mono hF11 rl))<|as1 rfl<|nt0 ?_
 rcases ic H with ⟨hb17,H⟩|⟨hb17,H⟩
 ·refine Cd.condT rfl hb17<|sr0<|as1 rfl<|nt0 ?_
  obtain rfl:=si H
  refine Cd.ret<|At.in_ret<|At.then_ret ?_
  exact At.ret1 rfl (Res.tmp rfl) hF11 (sc1 rl) ⟨rfl,rfl⟩
 refine Cd.condF rfl hb17<|Cd.skip<|At.in_normal<|At.then<|sr0<|as1 rfl<|nt0 ?_
 obtain rfl:=si H
 refine Cd.ret ?_
 exact At.ret1 rfl (Res.tmp rfl) hF11 (sc1 rl) ⟨rfl,rfl⟩
theorem slices_Clone_string_string_sim {a0:List Str} {sa0:Sl} {r:(List Str)} (H:slices_Clone_string_string a0=some r) (w0:World) (F:Frz) (M L:List Item) (hM:M.Sublist L) (pa0:Rd w0 F M sa0 a0):Ok Tryz.prog w0 45 [Sl.v sa0] F (L) (fun _ L' v=>∃ (s1:Sl),v=Sl.v s1∧L'=(.own s1 9 1 (encs r))::L):=by
 unfold slices_Clone_string_string at H
 refine Ok.enter (m:=1) (n:=8) Tryz.func45 rfl rfl rfl (by decide)<|Cd.env (e':=[(0,Sl.v sa0)]) rfl<|sr0<|Lst.addNil 9 1<|as1 rfl<|nt0<|Cd.seq<|sr0<|mv1 rfl<|lr (Ev.eqlNil rfl U43)<|nt0 ?_
 rcases Bool.eq_false_or_eq_true ((Sl.a sa0).isNone) with hb2 | hb2
 ·refine Cd.bound (Rd.isNil (α:=Str) (by decide) (pa0.mono fl (sc1 hM)) hb2) (fun hx9=>?_)
  rw [clone_nil hx9] at H
  refine Cd.condT rfl hb2<|sr0<|Lst.addNil 9 1<|as1 rfl<|nt0 ?_
  obtain rfl:=si H
  refine Cd.ret<|At.then_ret ?_
  exact At.ret1 rfl (Res.tmp rfl) fl (sk1 (sc1 rl)) ⟨Sl.nil,rfl,rfl⟩
 refine Cd.condF rfl hb2<|Cd.skip<|At.then<|sr0 ?_
 refine Lst.buildSlice0 rfl rfl (by decide) U43 Z9 (fun s3=>?_)
 refine mv1 rfl ?_
 obtain ⟨u5,h6,H⟩:=bs H
 refine Lst.append (i:=0) (α:=Str) (xs:=([]:List Str)) (ys:=a0) rfl rfl (by decide) rfl rfl U43 Tryz.typeInfo9 rfl rfl rfl rfl rfl rfl (pa0.mono fl (sc2 hM)) rfl (room_some h6) rfl (fun s7=>?_)
 refine as1 rfl<|nt0 ?_
 obtain rfl:=si H
 refine Cd.ret ?_
 exact At.ret1 rfl (Res.tmp rfl) fl (sk1 (sc1 rl)) ⟨s7,rfl,rfl⟩
theorem lane_Put_sim {a0:From} {a1:Str} {sa0x1:Sl} {r:From×Int} (H:lane_Put a0 a1=some r) (w0:World) (F:Frz) (M L:List Item) (hM:M.Sublist L) (pa0x1:Rd w0 F M sa0x1 a0.Late):Ok Tryz.prog w0 60 [.agg (enc (FromR.mk a0 sa0x1)).toArray,Str.v a1] F (L) (fun _ L' v=>∃ (s1:Sl),v=.tuple #[.agg (enc (FromR.mk r.1 s1)).toArray,iv r.2]∧L'=(.own s1 9 1 (encs r.1.Late))::L):=by
 let T4:Item:=.own Sl.nil 9 1 (encs ([]:List Str))
 let T3:=FromR.mk ({From.zero with Base:=a0.Base}:From) Sl.nil
 let T2:=FromR.mk ({From.zero with Late:=([]:List Str)}:From) Sl.nil
 let T0:=FromR.mk From.zero Sl.nil
 unfold lane_Put at H
 refine Ok.enter (m:=2) (n:=41) Tryz.func60 rfl rfl rfl (by decide)<|Cd.env (e':=[(0,.agg (enc (FromR.mk a0 sa0x1)).toArray),(1,Str.v a1)]) rfl<|sr0 ?_
 refine Lst.box rfl rfl (by decide) rfl (cs:=enc (FromR.mk a0 sa0x1)) rfl (fun b1=>?_)
 let T5:Item:=.blk b1 (enc (FromR.mk a0 sa0x1)) 45
 refine Lst.addNil 9 1 ?_
 refine Lst.alloc (cs:=enc T2) rfl rfl (by decide) Tryz.zeroValue45 rfl (fun b4=>?_)
 refine as1 rfl<|nt0<|Cd.seq<|sr0<|lr (Ev.loadA (i:=2) rfl rfl I45 Z45 (ch:=enc (FromR.mk a0 sa0x1)) el gh0) ?_
 obtain ⟨r6,h7,H⟩:=bs H
 refine cl1 rfl (vs:=[.agg (enc (FromR.mk a0 sa0x1)).toArray]) ⟨rfl,trivial⟩ Tryz.call111 (lane_CheckFrom_sim h7 w0 _ M _ (sc2 (sc1 hM)) (pa0x1.mono fl rl))<|as1 rfl<|nsr<|mv1 rfl<|lr (Ev.neq rfl rfl)<|nt0 ?_
 rcases ic H with ⟨hb10,H⟩|⟨hb10,H⟩
 ·refine Cd.condT rfl hb10<|sr0<|lr (Ev.build (v:=.agg (enc T0).toArray) (pv:=[]) trivial (fun w=>by kernel_rfl))<|mv1 rfl<|lst 0 rfl rfl rfl Z45 (vs:=enc T0) rfl el (Enc.one _) (cs':=enc T0) phl rfl<|as1 rfl<|nt0 ?_
  obtain rfl:=si H
  refine Cd.ret<|At.then_ret<|At.addNil 9 1 ?_
  exact At.ret2 rfl (Res.cellA (i:=1) rfl rfl I45 Z45 el) (Res.tmp rfl) fl (sk1 (sc1 (sc2 rl))) ⟨Sl.nil,rfl,rfl⟩
 refine Cd.condF rfl hb10<|Cd.skip<|At.then<|Cd.seq<|Cd.block<|sr0<|mv1 rfl ?_
 obtain ⟨r12,h13,H⟩:=bs H
 refine cl1 rfl (vs:=[Str.v a1]) ⟨rfl,trivial⟩ Tryz.call112 (lane_long_sim h13 w0 _ M _ (sc2 (sc1 hM)))<|as1 rfl<|nt0 ?_
 rcases ic H with ⟨hb16,H⟩|⟨hb16,H⟩
 ·refine Cd.condT rfl hb16<|sr0<|lr (Ev.build (v:=.agg (enc T0).toArray) (pv:=[]) trivial (fun w=>by kernel_rfl))<|lst 0 rfl rfl rfl Z45 (vs:=enc T0) rfl el (Enc.one _) (cs':=enc T0) phl rfl<|as1 rfl<|nt0 ?_
  obtain rfl:=si H
  refine Cd.ret<|At.in_ret<|At.then_ret<|At.addNil 9 1 ?_
  exact At.ret2 rfl (Res.cellA (i:=1) rfl rfl I45 Z45 el) (Res.tmp rfl) fl (sk1 (sc1 (sc2 rl))) ⟨Sl.nil,rfl,rfl⟩
 refine Cd.condF rfl hb16<|sr0<|lr (Ev.fo 1 rfl U45 rfl Z43 rfl rfl)<|lr (Ev.load (i:=2) rfl rfl I43 (v:=Sl.v sa0x1) ((FromR.get_Late gh0).off rfl))<|lr (Ev.lenS (α:=Str) (xs:=a0.Late) (by decide) rfl rfl U43 (pa0x1.mono fl (sc2 (sc1 hM))))<|lr (Ev.eql rfl rfl)<|mv1 rfl ?_
 obtain ⟨o18,H,HKo18⟩:=bs H
 refine Lst.join (σ:=Bool) 8 (fun y19=>[(1,Str.v a1),(2,pv b1 0),(4,pv b4 0),(30,.bool y19)]) (fun y19=>(.blk b4 (enc T2) 45)::T4::T5::L) (fun _ y19=>y19=o18) ?_ ?_
 ·rcases ic H with ⟨hb20,H⟩|⟨hb20,H⟩
  ·refine lsk rfl hb20<|lsk rfl hb20<|lsk rfl hb20<|lsk rfl hb20<|lsk rfl hb20<|lsk rfl hb20<|lsk rfl hb20<|lr (Ev.pickT rfl hb20 rfl)<|Lst.nil ?_
   exact At.meet true fl ⟨rfl,rfl,rfl,rfl,trivial⟩ rfl (si H)
  refine lg hb20 (Ev.fo 0 rfl U45 rfl Z3 rfl rfl)<|lg hb20 (Ev.load (i:=2) rfl rfl I3 (v:=iv a0.Base) ((FromR.get_Base gh0).off rfl))<|lg hb20 (Ev.fo 1 rfl U45 rfl Z43 rfl rfl)<|lg hb20 (Ev.load (i:=2) rfl rfl I43 (v:=Sl.v sa0x1) ((FromR.get_Late gh0).off rfl))<|lg hb20 (Ev.lenS (α:=Str) (xs:=a0.Late) (by decide) rfl rfl U43 (pa0x1.mono fl (sc2 (sc1 hM))))<|lg hb20 (Ev.add rfl rfl)<|lg hb20 (Ev.geq rfl rfl)<|lr (Ev.pickF rfl hb20 rfl)<|Lst.nil ?_
  exact At.meet (decide ((w64 (a0.Base+(a0.Late.length:Int)))≥(16777215:Int))) fl ⟨rfl,rfl,rfl,rfl,trivial⟩ rfl (si H)
 rintro F21 y19 hF22 hy
 subst hy
 replace H:=HKo18
 refine as1 rfl<|nt0 ?_
 rcases ic H with ⟨hb23,H⟩|⟨hb23,H⟩
 ·refine Cd.condT rfl hb23<|sr0<|lr (Ev.build (v:=.agg (enc T0).toArray) (pv:=[]) trivial (fun w=>by kernel_rfl))<|lst 0 rfl rfl rfl Z45 (vs:=enc T0) rfl el (Enc.one _) (cs':=enc T0) phl rfl<|as1 rfl<|nt0 ?_
  obtain rfl:=si H
  refine Cd.ret<|At.in_ret<|At.then_ret<|At.addNil 9 1 ?_
  exact At.ret2 rfl (Res.cellA (i:=1) rfl rfl I45 Z45 el) (Res.tmp rfl) hF22 (sk1 (sc1 (sc2 rl))) ⟨Sl.nil,rfl,rfl⟩
 refine Cd.condF rfl hb23<|Cd.skip<|At.in_normal<|At.then<|Cd.seq ?_
 obtain ⟨r25,h26,H⟩:=bs H
 obtain ⟨u33,h34,H⟩:=bs H
 obtain ⟨o39,h40,H⟩:=Let_some H
 refine Cd.headMeet (σ:=Sl×(List Str)) 8 (fun (s37,l38)=>[(4,pv b4 0),(33,iv a0.Base),(39,Sl.v s37)]) (fun (s37,l38)=>(.own s37 9 1 (encs l38))::(.blk b4 (enc T2) 45)::T4::T5::L) (fun _ (s37,l38)=>l38=o39) (by kernel_rfl) (by kernel_rfl) (behind_sink (by kernel_rfl) (by kernel_rfl) (by kernel_rfl)) (by kernel_rfl) (fun hsel hlt=>?_) ?_
 ·refine HdJ.keep (fun w=>St w0 F21 ((.blk b4 (enc T2) 45)::T4::T5::L) w) (fun w h=>trivial)<|hts rfl hsel hlt 0 rl rfl (Ev.fo 0 rfl U45 rfl Z3 rfl rfl)<|hts rfl hsel hlt 1 rl rfl (Ev.load (i:=2) rfl rfl I3 (v:=iv a0.Base) ((FromR.get_Base gh0).off rfl))<|hts rfl hsel hlt 2 rl rfl (Ev.fo 1 rfl U45 rfl Z43 rfl rfl)<|hts rfl hsel hlt 3 rl rfl (Ev.load (i:=2) rfl rfl I43 (v:=Sl.v sa0x1) ((FromR.get_Late gh0).off rfl))<|hts rfl hsel hlt 5 rl rfl (Ev.move rfl)<|HdJ.step [4,6] (by kernel_rfl) rfl ?_
  refine HdStep.c (fun inv=>?_) ?_
  ·refine cl rfl (vs:=[Sl.v sa0x1]) ⟨rfl,trivial⟩ Tryz.call45 (slices_Clone_string_string_sim h26 w0 _ M _ (sc2 (sc1 hM)) (pa0x1.mono hF22 rl)) (fun F42 L' v hF43 hv=>?_)
   obtain ⟨s41,rfl,rfl⟩:=hv
   refine Lst.nil<|At.hd inv (fun w h=>(h.weaken hF43).sublist (sc1 rl)) ?_
   refine HdJ.o1 6 (fun inv=>?_)
   refine Lst.buildSlice (α:=Str) (xs:=([a1]:List Str)) (pv:=[(0,Str.v a1)]) rfl rfl (by decide) ⟨rfl,rfl,trivial⟩ (run_buildSlice (α:=Str) (z0:=([]:Str)) (xs:=([a1]:List Str)) U43 Z9 Tryz.zeroValue9 rfl rfl rfl (by decide) rfl (fill_one rfl rfl)) rfl rfl (by decide) (fun s44 _=>?_)
   refine Lst.nil<|At.hd inv (fun w h=>(h.weaken hF43).sublist (sc2 rl)) ?_
   refine HdJ.o1 7 (fun inv=>?_)
   refine Lst.append (i:=1) (α:=Str) (xs:=r25) (ys:=([a1]:List Str)) rfl rfl (by decide) rfl rfl U43 Tryz.typeInfo9 rfl rfl rfl rfl rfl rfl (rdo 0 rfl rfl rfl) rfl (room_some h34) rfl (fun s45=>?_)
   refine Lst.nil<|At.hd inv (fun w h=>(h.weaken hF43).sublist (sc2 rl))<|HdJ.done (by kernel_rfl)<|At.less (sc1 rl) ?_
   exact At.meetN (s45,r25++([a1]:List Str)) hF43 ⟨rfl,rfl,rfl,trivial⟩ rfl h40
  refine HdStep.c (fun inv=>?_) trivial
  refine Lst.buildSlice (α:=Str) (xs:=([a1]:List Str)) (pv:=[(0,Str.v a1)]) rfl rfl (by decide) ⟨rfl,rfl,trivial⟩ (run_buildSlice (α:=Str) (z0:=([]:Str)) (xs:=([a1]:List Str)) U43 Z9 Tryz.zeroValue9 rfl rfl rfl (by decide) rfl (fill_one rfl rfl)) rfl rfl (by decide) (fun s46 _=>?_)
  refine hds inv (sc1 rl) ?_
  refine HdJ.o1 4 (fun inv=>?_)
  refine cl rfl (vs:=[Sl.v sa0x1]) ⟨rfl,trivial⟩ Tryz.call45 (slices_Clone_string_string_sim h26 w0 _ M _ (sc4 hM) (pa0x1.mono hF22 rl)) (fun F48 L' v hF49 hv=>?_)
  obtain ⟨s47,rfl,rfl⟩:=hv
  refine Lst.nil<|At.hd inv (fun w h=>(h.weaken hF49).sublist (sc2 rl)) ?_
  refine HdJ.o1 7 (fun inv=>?_)
  refine Lst.append (i:=0) (α:=Str) (xs:=r25) (ys:=([a1]:List Str)) rfl rfl (by decide) rfl rfl U43 Tryz.typeInfo9 rfl rfl rfl rfl rfl rfl (rdo 1 rfl rfl rfl) rfl (room_some h34) rfl (fun s50=>?_)
  refine Lst.nil<|At.hd inv (fun w h=>(h.weaken hF49).sublist (sc2 rl))<|HdJ.done (by kernel_rfl)<|At.less (sk1 (sc1 rl)) ?_
  exact At.meetN (s50,r25++([a1]:List Str)) hF49 ⟨rfl,rfl,rfl,trivial⟩ rfl h40
 rintro F51 ⟨s37,l38⟩ hF52 hy
 let T1:=FromR.mk ({From.zero with Base:=a0.Base,Late:=l38}:From) s37
 subst hy
 refine lr (Ev.build (v:=.agg (enc T1).toArray) (pv:=[(0,iv a0.Base),(1,Sl.v s37)]) ⟨rfl,rfl,⟨rfl,rfl,trivial⟩⟩ (run_buildStruct (places:=#[(0,1),(1,1)]) Tryz.zeroValue45 (zs:=enc T0) rfl U45 (fun w=>by kernel_rfl) (fill_cons (cs:=enc T0) (cs':=enc T3) (vs:=[iv a0.Base]) rfl rfl rfl ((FromR.put_Base (p:=T0) (y:=a0.Base) (Put.here (vs:=[iv a0.Base]) rfl)).off rfl) (fill_cons (cs:=enc T3) (cs':=enc T1) (vs:=[Sl.v s37]) rfl rfl rfl ((FromR.put_Late (p:=T3) (y:=s37) (Put.here (vs:=[Sl.v s37]) rfl)).off rfl) fill_nil))))<|lst 1 rfl rfl rfl Z45 (vs:=enc T1) rfl el (Enc.one _) (cs':=enc T1) phl rfl<|as1 rfl<|nt0 ?_
 obtain rfl:=si H
 refine Cd.ret ?_
 exact At.ret2 rfl (Res.cellA (i:=1) rfl rfl I45 Z45 el) (Res.tmp rfl) (ft hF22 hF52) (sk1 (sc1 (sc2 rl))) ⟨s37,rfl,rfl⟩
theorem view_outside_sim {a0:BitVec 8} {r:Bool} (H:view_outside a0=some r) (w0:World) (F:Frz) (M L:List Item) (hM:M.Sublist L):Ok Tryz.prog w0 126 [.int .u8 a0.toNat] F (L) (Is (.bool r) (L)):=by
 unfold view_outside at H
 refine Ok.enter (m:=1) (n:=6) Tryz.func126 rfl rfl rfl (by decide)<|Cd.env (e':=[(0,.int .u8 a0.toNat)]) rfl<|sr0<|as1 rfl<|nsr<|mv1 rfl<|lr (Ev.shrU8 (i:=a0) (m:=6) rfl rfl)<|lr (Ev.neq rfl rfl)<|as1 rfl<|nt0 ?_
 obtain rfl:=si H
 refine Cd.ret ?_
 exact At.ret1 rfl (Res.tmp rfl) fl rl ⟨rfl,rfl⟩
theorem view_Check_sim {a0:View} {r:Int} (H:view_Check a0=some r) (w0:World) (F:Frz) (M L:List Item) (hM:M.Sublist L):Ok Tryz.prog w0 125 [.agg (enc a0).toArray] F (L) (Is (iv r) (L)):=by
 unfold view_Check at H
 refine Ok.enter (m:=1) (n:=21) Tryz.func125 rfl rfl rfl (by decide)<|Cd.env (e':=[(0,.agg (enc a0).toArray)]) rfl<|sr0 ?_
 refine Lst.box rfl rfl (by decide) rfl (cs:=enc a0) rfl (fun b1=>?_)
 refine as1 rfl<|nt0<|Cd.seq<|sr0<|lr (Ev.fo 0 rfl U34 rfl Z3 rfl rfl)<|lr (Ev.load (i:=0) rfl rfl I3 (v:=iv a0.Num) ((View.get_Num gh0).off rfl))<|lr (Ev.lss rfl rfl)<|mv1 rfl ?_
 obtain ⟨o3,H,HKo3⟩:=bs H
 refine Lst.join (σ:=Bool) 4 (fun y4=>[(1,pv b1 0),(10,.bool y4)]) (fun y4=>(.blk b1 (enc a0) 34)::L) (fun _ y4=>y4=o3) ?_ ?_
 ·rcases ic H with ⟨hb5,H⟩|⟨hb5,H⟩
  ·refine lsk rfl hb5<|lsk rfl hb5<|lsk rfl hb5<|lr (Ev.pickT rfl hb5 rfl)<|Lst.nil ?_
   exact At.meet true fl ⟨rfl,rfl,trivial⟩ rfl (si H)
  refine lg hb5 (Ev.fo 0 rfl U34 rfl Z3 rfl rfl)<|lg hb5 (Ev.load (i:=0) rfl rfl I3 (v:=iv a0.Num) ((View.get_Num gh0).off rfl))<|lg hb5 (Ev.gtr rfl rfl)<|lr (Ev.pickF rfl hb5 rfl)<|Lst.nil ?_
  exact At.meet (decide (a0.Num > (16777215:Int))) fl ⟨rfl,rfl,trivial⟩ rfl (si H)
 rintro F6 y4 hF7 hy
 subst hy
 replace H:=HKo3
 refine mv1 rfl ?_
 obtain ⟨o8,H,HKo8⟩:=bs H
 refine Lst.join (σ:=Bool) 4 (fun y9=>[(1,pv b1 0),(15,.bool y9)]) (fun y9=>(.blk b1 (enc a0) 34)::L) (fun _ y9=>y9=o8) ?_ ?_
 ·rcases ic H with ⟨hb10,H⟩|⟨hb10,H⟩
  ·refine lsk rfl hb10<|lsk rfl hb10<|lsk rfl hb10<|lr (Ev.pickT rfl hb10 rfl)<|Lst.nil ?_
   exact At.meet true fl ⟨rfl,rfl,trivial⟩ rfl (si H)
  refine lg hb10 (Ev.fo 1 rfl U34 rfl Z5 rfl rfl)<|lg hb10 (Ev.load (i:=0) rfl rfl I5 (v:=.int .u8 a0.Members.toNat) ((View.get_Members gh0).off rfl))<|lg hb10 (Ev.eql rfl rfl)<|lr (Ev.pickF rfl hb10 rfl)<|Lst.nil ?_
  exact At.meet ((a0.Members.toNat:Int)==((0:BitVec 8).toNat:Int)) fl ⟨rfl,rfl,trivial⟩ rfl (si H)
 rintro F11 y9 hF12 hy
 subst hy
 replace H:=HKo8
 refine mv1 rfl ?_
 obtain ⟨o13,H,HKo13⟩:=bs H
 refine Lst.join (σ:=Bool) 4 (fun y14=>[(20,.bool y14)]) (fun y14=>(.blk b1 (enc a0) 34)::L) (fun _ y14=>y14=o13) ?_ ?_
 ·rcases ic H with ⟨hb15,H⟩|⟨hb15,H⟩
  ·refine lsk rfl hb15<|lsk rfl hb15<|lsk rfl hb15<|lr (Ev.pickT rfl hb15 rfl)<|Lst.nil ?_
   exact At.meet true fl ⟨rfl,trivial⟩ rfl (si H)
  refine lg hb15 (Ev.fo 1 rfl U34 rfl Z5 rfl rfl)<|lg hb15 (Ev.load (i:=0) rfl rfl I5 (v:=.int .u8 a0.Members.toNat) ((View.get_Members gh0).off rfl)) ?_
  obtain ⟨r16,h17,H⟩:=bs H
  refine Lst.call1G rfl rfl rfl hb15 rfl (by decide) (vs:=[.int .u8 a0.Members.toNat]) ⟨rfl,trivial⟩ Tryz.call126 (view_outside_sim h17 w0 _ M _ (sc1 hM))<|lr (Ev.pickF rfl hb15 rfl)<|Lst.nil ?_
  exact At.meet r16 fl ⟨rfl,trivial⟩ rfl (si H)
 rintro F20 y14 hF21 hy
 subst hy
 replace H:=HKo13
 refine nt0 ?_
 rcases ic H with ⟨hb22,H⟩|⟨hb22,H⟩
 ·refine Cd.condT rfl hb22<|sr0<|as1 rfl<|nt0 ?_
  obtain rfl:=si H
  refine Cd.ret<|At.then_ret ?_
  exact At.ret1 rfl (Res.tmp rfl) (ft (ft hF7 hF12) hF21) (sc1 rl) ⟨rfl,rfl⟩
 refine Cd.condF rfl hb22<|Cd.skip<|At.then<|sr0<|as1 rfl<|nt0 ?_
 obtain rfl:=si H
 refine Cd.ret ?_
 exact At.ret1 rfl (Res.tmp rfl) (ft (ft hF7 hF12) hF21) (sc1 rl) ⟨rfl,rfl⟩
theorem math_bits_TrailingZeros8_sim {a0:BitVec 8} {r:Int} (H:math_bits_TrailingZeros8 a0=some r) (w0:World) (F:Frz) (M L:List Item) (hM:M.Sublist L):Ok Tryz.prog w0 171 [.int .u8 a0.toNat] F (L) (Is (iv r) (L)):=by
 unfold math_bits_TrailingZeros8 at H
 refine Ok.enter (m:=1) (n:=6) Tryz.func171 rfl rfl rfl (by decide)<|Cd.env (e':=[(0,.int .u8 a0.toNat)]) rfl<|sr0<|as1 rfl<|nsr<|mv1 rfl ?_
 obtain ⟨x1,h2,H⟩:=bs H
 refine lr (Ev.indexStr rfl rfl U9 h2)<|lr (Ev.convIS (j:=(x1.toBitVec.toNat:Int)) rfl U5 U3 (w64_id (by omega) (by omega)))<|as1 rfl<|nt0 ?_
 obtain rfl:=si H
 refine Cd.ret ?_
 exact At.ret1 rfl (Res.tmp rfl) fl rl ⟨rfl,rfl⟩
theorem view_First_sim {a0:View} {r:Int×Int} (H:view_First a0=some r) (w0:World) (F:Frz) (M L:List Item) (hM:M.Sublist L):Ok Tryz.prog w0 114 [.agg (enc a0).toArray] F (L) (Is (.tuple #[iv r.1,iv r.2]) (L)):=by
 unfold view_First at H
 refine Ok.enter (m:=1) (n:=13) Tryz.func114 rfl rfl rfl (by decide)<|Cd.env (e':=[(0,.agg (enc a0).toArray)]) rfl<|sr0 ?_
 refine Lst.box rfl rfl (by decide) rfl (cs:=enc a0) rfl (fun b1=>?_)
 refine as1 rfl<|as1 rfl<|nt0<|Cd.seq<|sr0<|lr (Ev.loadA (i:=0) rfl rfl I34 Z34 (ch:=enc a0) el gh0) ?_
 obtain ⟨r3,h4,H⟩:=bs H
 refine cl1 rfl (vs:=[.agg (enc a0).toArray]) ⟨rfl,trivial⟩ Tryz.call125 (view_Check_sim h4 w0 _ M _ (sc1 hM))<|as1 rfl<|nsr<|mv1 rfl<|lr (Ev.neq rfl rfl)<|nt0 ?_
 rcases ic H with ⟨hb7,H⟩|⟨hb7,H⟩
 ·refine Cd.condT rfl hb7<|sr0<|mv1 rfl<|as1 rfl<|as1 rfl<|nt0 ?_
  obtain rfl:=si H
  refine Cd.ret<|At.then_ret ?_
  exact At.ret2 rfl (Res.tmp rfl) (Res.tmp rfl) fl (sc1 rl) ⟨rfl,rfl⟩
 refine Cd.condF rfl hb7<|Cd.skip<|At.then<|sr0<|lr (Ev.fo 1 rfl U34 rfl Z5 rfl rfl)<|lr (Ev.load (i:=0) rfl rfl I5 (v:=.int .u8 a0.Members.toNat) ((View.get_Members gh0).off rfl)) ?_
 obtain ⟨r8,h9,H⟩:=bs H
 refine cl1 rfl (vs:=[.int .u8 a0.Members.toNat]) ⟨rfl,trivial⟩ Tryz.call171 (math_bits_TrailingZeros8_sim h9 w0 _ M _ (sc1 hM))<|as1 rfl<|as1 rfl<|nt0 ?_
 obtain rfl:=si H
 refine Cd.ret ?_
 exact At.ret2 rfl (Res.tmp rfl) (Res.tmp rfl) fl (sc1 rl) ⟨rfl,rfl⟩
theorem world_World_sequencer_sim {a0:Wld} {ba0:Nat} {sa0x1:Sl} {ra0x1:List ProcessR} {sa0x2:Sl} {sa0x3:Sl} {r:Int} (H:world_World_sequencer a0=some r) (w0:World) (F:Frz) (M L:List Item) (hM:M.Sublist L) (ma0x1:ra0x1.map ProcessR.v=a0.all) (na0x1:All ProcessR.frel w0 F [] ra0x1):Ok Tryz.prog w0 62 [pv ba0 0] F ((.rows (α:=Saying) 62 (List.map ProcessR.row ra0x1))::(.own sa0x1 100 8 (encs ra0x1))::(.own sa0x2 9 1 (encs a0.ordered))::(.own sa0x3 9 1 (encs a0.way))::(.blk ba0 (enc (WldR.mk a0 sa0x1 sa0x2 sa0x3)) 95)::L) (Is (iv r) ((.rows (α:=Saying) 62 (List.map ProcessR.row ra0x1))::(.own sa0x1 100 8 (encs ra0x1))::(.own sa0x2 9 1 (encs a0.ordered))::(.own sa0x3 9 1 (encs a0.way))::(.blk ba0 (enc (WldR.mk a0 sa0x1 sa0x2 sa0x3)) 95)::L)):=by
 unfold world_World_sequencer at H
 refine Ok.enter (m:=1) (n:=14) Tryz.func62 rfl rfl rfl (by decide)<|Cd.env (e':=[(0,pv ba0 0)]) rfl<|sr0<|as1 rfl<|nsr<|mv1 rfl<|lr (Ev.nilCheck rfl)<|lr (Ev.fo 0 rfl U95 rfl Z34 rfl rfl)<|lr (Ev.loadA (i:=4) rfl rfl I34 Z34 (ch:=enc a0.view) el ((WldR.get_view gh0).off rfl)) ?_
 obtain ⟨r6,h7,H⟩:=bs H
 refine cl1 rfl (vs:=[.agg (enc a0.view).toArray]) ⟨rfl,trivial⟩ Tryz.call114 (view_First_sim h7 w0 _ M _ (sc4 (sc1 hM)))<|mv1 rfl<|lr (Ev.extract rfl rfl)<|lr (Ev.extract rfl rfl)<|as1 rfl<|as1 rfl<|nsr<|mv1 rfl<|as1 rfl<|nt0 ?_
 obtain rfl:=si H
 refine Cd.ret ?_
 exact At.ret1 rfl (Res.tmp rfl) fl rl ⟨rfl,rfl⟩
theorem wire_in_sim {a0:Int} {a1:Int} {a2:Int} {r:Bool} (H:wire_in a0 a1 a2=some r) (w0:World) (F:Frz) (M L:List Item) (hM:M.Sublist L):Ok Tryz.prog w0 173 [iv a0,iv a1,iv a2] F (L) (Is (.bool r) (L)):=by
 unfold wire_in at H
 refine Ok.enter (m:=3) (n:=15) Tryz.func173 rfl rfl rfl (by decide)<|Cd.env (e':=[(0,iv a0),(1,iv a1),(2,iv a2)]) rfl<|sr0<|as1 rfl<|nsr<|mv1 rfl<|mv1 rfl<|lr (Ev.geq rfl rfl)<|mv1 rfl ?_
 obtain ⟨o1,H,HKo1⟩:=bs H
 refine Lst.join (σ:=Bool) 4 (fun y2=>[(14,.bool y2)]) (fun y2=>L) (fun _ y2=>y2=o1) ?_ ?_
 ·rcases ic2 H with ⟨hb3,H⟩|⟨hb3,H⟩
  ·refine lsk rfl hb3<|lsk rfl hb3<|lsk rfl hb3<|lr (Ev.pickF rfl hb3 rfl)<|Lst.nil ?_
   exact At.meet false fl ⟨rfl,trivial⟩ rfl (si H)
  refine lg hb3 (Ev.move rfl)<|lg hb3 (Ev.move rfl)<|lg hb3 (Ev.leq rfl rfl)<|lr (Ev.pickT rfl hb3 rfl)<|Lst.nil ?_
  exact At.meet (decide (a0≤a2)) fl ⟨rfl,trivial⟩ rfl (si H)
 rintro F4 y2 hF5 hy
 subst hy
 replace H:=HKo1
 refine as1 rfl<|nt0 ?_
 obtain rfl:=si H
 refine Cd.ret ?_
 exact At.ret1 rfl (Res.tmp rfl) hF5 rl ⟨rfl,rfl⟩
theorem wire_Check_1_sim {a0:Int} {r:Bool} (H:wire_Check_1 a0=some r) (w0:World) (F:Frz) (M L:List Item) (hM:M.Sublist L):Ok Tryz.prog w0 172 [iv a0] F (L) (Is (.bool r) (L)):=by
 unfold wire_Check_1 at H
 refine Ok.enter (m:=1) (n:=5) Tryz.func172 rfl rfl rfl (by decide)<|Cd.env (e':=[(0,iv a0)]) rfl<|sr0<|as1 rfl<|nsr<|mv1 rfl ?_
 obtain ⟨r1,h2,H⟩:=bs H
 refine cl1 rfl (vs:=[iv a0,iv (0:Int),iv (16777215:Int)]) ⟨rfl,rfl,rfl,trivial⟩ Tryz.call173 (wire_in_sim h2 w0 _ M _ hM)<|as1 rfl<|nt0 ?_
 obtain rfl:=si H
 refine Cd.ret ?_
 exact At.ret1 rfl (Res.tmp rfl) fl rl ⟨rfl,rfl⟩
theorem wire_Check_2_sim {a0:Int} {ba1:Nat} {r:Bool} (H:wire_Check_2 a0=some r) (w0:World) (F:Frz) (M L:List Item) (hM:M.Sublist L):Ok Tryz.prog w0 175 [iv a0,pv ba1 0] F ((.blk ba1 [.func (.func 172) #[] #[]] 135)::L) (Is (.bool r) ((.blk ba1 [.func (.func 172) #[] #[]] 135)::L)):=by
 unfold wire_Check_2 at H
 refine Ok.enter (m:=2) (n:=8) Tryz.func175 rfl rfl rfl (by decide)<|Cd.env (e':=[(0,iv a0),(1,pv ba1 0)]) rfl<|sr0<|as1 rfl<|nsr<|lr (Ev.load (i:=0) rfl rfl I135 (v:=.func (.func 172) #[] #[]) gh0)<|mv1 rfl ?_
 obtain ⟨r2,h3,H⟩:=bs H
 refine Lst.callV1 rfl rfl (by decide) (vs:=[iv a0]) (cs:=[]) rfl ⟨rfl,trivial⟩ Tryz.call172 (wire_Check_1_sim h3 w0 _ M _ (sc1 hM))<|lr (Ev.not rfl)<|as1 rfl<|nt0 ?_
 obtain rfl:=si H
 refine Cd.ret ?_
 exact At.ret1 rfl (Res.tmp rfl) fl rl ⟨rfl,rfl⟩
theorem slices_IndexFunc_int_int_Check_2_sim {a0:List Int} {sa0:Sl} {b_a1_c0:Nat} {r:Int} (H:slices_IndexFunc_int_int_Check_2 a0=some r) (w0:World) (F:Frz) (M L:List Item) (hM:M.Sublist L) (pa0:Rd w0 F M sa0 a0):Ok Tryz.prog w0 214 [Sl.v sa0,.func (.func 175) #[] #[pv b_a1_c0 0]] F ((.blk b_a1_c0 [.func (.func 172) #[] #[]] 135)::L) (Is (iv r) ((.blk b_a1_c0 [.func (.func 172) #[] #[]] 135)::L)):=by
 unfold slices_IndexFunc_int_int_Check_2 at H
 refine Ok.enter (m:=2) (n:=19) Tryz.func214 rfl rfl rfl (by decide)<|Cd.env (e':=[(0,Sl.v sa0),(1,.func (.func 175) #[] #[pv b_a1_c0 0])]) rfl<|sr0<|as1 rfl<|nt0<|Cd.seq<|sr0<|mv1 rfl<|lr (Ev.lenS (α:=Int) (xs:=a0) (by decide) rfl rfl U83 (pa0.mono fl (sc1 hM)))<|mv1 rfl<|nt0 ?_
 refine Cd.block ?_
 refine Cd.bound (Rd.le (α:=Int) (xs:=a0) (by decide) (pa0.mono fl (sc1 hM))) (fun hN13=>?_)
 obtain ⟨ol2,H,HKl2⟩:=andThen_some H
 refine Cd.loop (σ:=Nat×Nat×Unit) (fun (i2,k2,_u)=>[(0,Sl.v sa0),(1,.func (.func 175) #[] #[pv b_a1_c0 0]),(7,iv (a0.length:Int)),(8,iv (i2:Int))]) (fun (i2,k2,_u)=>(.blk b_a1_c0 [.func (.func 172) #[] #[]] 135)::L) (fun _=>(fun (i2,k2,_u)=>rangeM (slices_IndexFunc_int_int_Check_2_B0 a0) k2 i2 ()=some ol2∧i2+k2=a0.length)) (fun (i2,k2,_u)=>k2) (0,a0.length,()) ⟨rfl,rfl,rfl,rfl,trivial⟩ rfl ⟨H,by omega⟩ ?_
 rintro F3 ⟨i2,k2,_u⟩ hF4 ⟨H,hik2⟩
 rcases k2 with _ | k2
 ·have hc2:decide ((i2:Int) < (a0.length:Int))=false:=decide_eq_false (by omega)
  replace H:=rangeM_end H
  refine sr0<|lr (Ev.lss rfl rfl)<|nt0<|Cd.seq<|Cd.condF rfl hc2<|Cd.exit<|At.then_exit<|At.then_exit<|At.in_exit ?_
  subst H
  replace H:=HKl2
  refine At.then<|sr0<|as1 rfl<|nt0 ?_
  obtain rfl:=si H
  refine Cd.ret ?_
  exact At.ret1 rfl (Res.tmp rfl) hF4 rl ⟨rfl,rfl⟩
 have hc2:decide ((i2:Int) < (a0.length:Int))=true:=decide_eq_true (by omega)
 obtain ⟨c2,H,hgo2,hbrk2,hret2⟩:=rangeM_go H
 unfold slices_IndexFunc_int_int_Check_2_B0 at H
 try dsimp only at H
 refine sr0<|lr (Ev.lss rfl rfl)<|nt0<|Cd.seq<|Cd.condT rfl hc2<|Cd.skip<|At.then<|Cd.seq<|Cd.block<|sr0<|mv1 rfl ?_
 refine as1 rfl<|nsr<|mv1 rfl<|mv1 rfl<|mv1 rfl ?_
 obtain ⟨x5,h6,H⟩:=bs H
 have g7:=lat_some h6
 refine lr (Ev.indexS (α:=Int) (xs:=a0) rfl rfl U83 Z3 rfl (by decide) (pa0.mono hF4 (sc1 hM)) g7.1 g7.2.1)<|lr (Ev.loadS (α:=Int) rfl (pa0.mono hF4 (sc1 hM)) I3 (v:=iv x5) ((Get.elemN (s:=1) (x:=x5) rfl g7.2.2 gh0).off (by omega))) ?_
 obtain ⟨r8,h9,H⟩:=bs H
 refine Lst.callV1 rfl rfl (by decide) (vs:=[iv x5]) (cs:=[pv b_a1_c0 0]) rfl ⟨rfl,trivial⟩ Tryz.call175 (wire_Check_2_sim h9 w0 _ M _ hM)<|nt0 ?_
 rcases ic H with ⟨hb12,H⟩|⟨hb12,H⟩
 ·refine Cd.condT rfl hb12<|sr0<|mv1 rfl<|as1 rfl<|nt0 ?_
  have H:=hret2 _ (sj H)
  subst H
  replace H:=HKl2
  obtain rfl:=si H
  refine Cd.ret<|At.in_ret<|At.then_ret<|At.then_ret<|At.in_ret<|At.then_ret ?_
  exact At.ret1 rfl (Res.tmp rfl) hF4 rl ⟨rfl,rfl⟩
 refine Cd.condF rfl hb12<|Cd.skip<|At.in_normal<|At.then<|Cd.region<|lr (Ev.incr (by omega) rfl rfl)<|mv1 rfl<|Lst.nil ?_
 exact At.meet (i2+1,k2,()) hF4 ⟨rfl,rfl,rfl,rfl,trivial⟩ rfl ⟨⟨hgo2 _ (sj H),by omega⟩,nls⟩
theorem slices_ContainsFunc_int_int_Check_2_sim {a0:List Int} {sa0:Sl} {b_a1_c0:Nat} {r:Bool} (H:slices_ContainsFunc_int_int_Check_2 a0=some r) (w0:World) (F:Frz) (M L:List Item) (hM:M.Sublist L) (pa0:Rd w0 F M sa0 a0):Ok Tryz.prog w0 174 [Sl.v sa0,.func (.func 175) #[] #[pv b_a1_c0 0]] F ((.blk b_a1_c0 [.func (.func 172) #[] #[]] 135)::L) (Is (.bool r) ((.blk b_a1_c0 [.func (.func 172) #[] #[]] 135)::L)):=by
 unfold slices_ContainsFunc_int_int_Check_2 at H
 refine Ok.enter (m:=2) (n:=9) Tryz.func174 rfl rfl rfl (by decide)<|Cd.env (e':=[(0,Sl.v sa0),(1,.func (.func 175) #[] #[pv b_a1_c0 0])]) rfl<|sr0<|as1 rfl<|nsr<|mv1 rfl<|mv1 rfl ?_
 obtain ⟨r2,h3,H⟩:=bs H
 refine cl1 rfl (vs:=[Sl.v sa0,.func (.func 175) #[] #[pv b_a1_c0 0]]) ⟨rfl,rfl,trivial⟩ Tryz.call214 (slices_IndexFunc_int_int_Check_2_sim h3 w0 _ M _ hM (pa0.mono fl rl))<|lr (Ev.geq rfl rfl)<|as1 rfl<|nt0 ?_
 obtain rfl:=si H
 refine Cd.ret ?_
 exact At.ret1 rfl (Res.tmp rfl) fl rl ⟨rfl,rfl⟩
theorem wire_Check_sim {a0:Note} {r:Int} (H:wire_Check a0=some r) (w0:World) (F:Frz) (M L:List Item) (hM:M.Sublist L):Ok Tryz.prog w0 118 [.agg (enc a0).toArray] F (L) (Is (iv r) (L)):=by
 unfold wire_Check at H
 refine Ok.enter (m:=1) (n:=45) Tryz.func118 rfl rfl rfl (by decide)<|Cd.env (e':=[(0,.agg (enc a0).toArray)]) rfl<|sr0 ?_
 refine Lst.box rfl rfl (by decide) rfl (cs:=enc a0) rfl (fun b1=>?_)
 refine as1 rfl<|nsr ?_
 refine Lst.alloc (cs:=[.nilFunc]) rfl rfl (by decide) Tryz.zeroValue135 rfl (fun b3=>?_)
 let T1:Item:=.blk b3 [.func (.func 172) #[] #[]] 135
 refine lst 0 rfl rfl rfl Z135 (vs:=[.func (.func 172) #[] #[]]) rfl rfl rfl (cs':=[.func (.func 172) #[] #[]]) (Put.here (vs:=[.func (.func 172) #[] #[]]) rfl) rfl<|nt0<|Cd.seq<|Cd.block<|sr0<|lr (Ev.fo 0 rfl U132 rfl Z3 rfl rfl)<|lr (Ev.load (i:=1) rfl rfl I3 (v:=iv a0.Kind) ((Note.get_Kind gh0).off rfl)) ?_
 obtain ⟨r5,h6,H⟩:=bs H
 refine cl1 rfl (vs:=[iv a0.Kind,iv (0:Int),iv (255:Int)]) ⟨rfl,rfl,rfl,trivial⟩ Tryz.call173 (wire_in_sim h6 w0 _ M _ (sc2 hM))<|lr (Ev.not rfl)<|mv1 rfl ?_
 obtain ⟨o9,H,HKo9⟩:=bs H
 refine Lst.join (σ:=Bool) 5 (fun y10=>[(1,pv b1 0),(3,pv b3 0),(14,.bool y10)]) (fun y10=>T1::(.blk b1 (enc a0) 132)::L) (fun _ y10=>y10=o9) ?_ ?_
 ·rcases ic H with ⟨hb11,H⟩|⟨hb11,H⟩
  ·refine lsk rfl hb11<|lsk rfl hb11<|lsk rfl hb11<|lsk rfl hb11<|lr (Ev.pickT rfl hb11 rfl)<|Lst.nil ?_
   exact At.meet true fl ⟨rfl,rfl,rfl,trivial⟩ rfl (si H)
  refine lg hb11 (Ev.fo 1 rfl U132 rfl Z3 rfl rfl)<|lg hb11 (Ev.load (i:=1) rfl rfl I3 (v:=iv a0.From) ((Note.get_From gh0).off rfl)) ?_
  obtain ⟨r12,h13,H⟩:=bs H
  refine Lst.call1G rfl rfl rfl hb11 rfl (by decide) (vs:=[iv a0.From,iv (0:Int),iv (5:Int)]) ⟨rfl,rfl,rfl,trivial⟩ Tryz.call173 (wire_in_sim h13 w0 _ M _ (sc2 hM))<|lg hb11 (Ev.not rfl)<|lr (Ev.pickF rfl hb11 rfl)<|Lst.nil ?_
  exact At.meet (!r12) fl ⟨rfl,rfl,rfl,trivial⟩ rfl (si H)
 rintro F16 y10 hF17 hy
 subst hy
 replace H:=HKo9
 refine mv1 rfl ?_
 obtain ⟨o18,H,HKo18⟩:=bs H
 refine Lst.join (σ:=Bool) 5 (fun y19=>[(1,pv b1 0),(3,pv b3 0),(20,.bool y19)]) (fun y19=>T1::(.blk b1 (enc a0) 132)::L) (fun _ y19=>y19=o18) ?_ ?_
 ·rcases ic H with ⟨hb20,H⟩|⟨hb20,H⟩
  ·refine lsk rfl hb20<|lsk rfl hb20<|lsk rfl hb20<|lsk rfl hb20<|lr (Ev.pickT rfl hb20 rfl)<|Lst.nil ?_
   exact At.meet true fl ⟨rfl,rfl,rfl,trivial⟩ rfl (si H)
  refine lg hb20 (Ev.fo 2 rfl U132 rfl Z3 rfl rfl)<|lg hb20 (Ev.load (i:=1) rfl rfl I3 (v:=iv a0.To) ((Note.get_To gh0).off rfl)) ?_
  obtain ⟨r21,h22,H⟩:=bs H
  refine Lst.call1G rfl rfl rfl hb20 rfl (by decide) (vs:=[iv a0.To,iv (0:Int),iv (5:Int)]) ⟨rfl,rfl,rfl,trivial⟩ Tryz.call173 (wire_in_sim h22 w0 _ M _ (sc2 hM))<|lg hb20 (Ev.not rfl)<|lr (Ev.pickF rfl hb20 rfl)<|Lst.nil ?_
  exact At.meet (!r21) fl ⟨rfl,rfl,rfl,trivial⟩ rfl (si H)
 rintro F25 y19 hF26 hy
 subst hy
 replace H:=HKo18
 refine mv1 rfl ?_
 obtain ⟨o27,H,HKo27⟩:=bs H
 refine Lst.join (σ:=Bool) 6 (fun y28=>[(1,pv b1 0),(3,pv b3 0),(27,.bool y28)]) (fun y28=>T1::(.blk b1 (enc a0) 132)::L) (fun _ y28=>y28=o27) ?_ ?_
 ·rcases ic H with ⟨hb29,H⟩|⟨hb29,H⟩
  ·refine lsk rfl hb29<|lsk rfl hb29<|lsk rfl hb29<|lsk rfl hb29<|lsk rfl hb29<|lr (Ev.pickT rfl hb29 rfl)<|Lst.nil ?_
   exact At.meet true fl ⟨rfl,rfl,rfl,trivial⟩ rfl (si H)
  refine lg hb29 (Ev.load (i:=0) rfl rfl I135 (v:=.func (.func 172) #[] #[]) gh0)<|lg hb29 (Ev.fo 3 rfl U132 rfl Z3 rfl rfl)<|lg hb29 (Ev.load (i:=1) rfl rfl I3 (v:=iv a0.View) ((Note.get_View gh0).off rfl)) ?_
  obtain ⟨r30,h31,H⟩:=bs H
  refine Lst.callV1G rfl rfl rfl hb29 rfl (by decide) (vs:=[iv a0.View]) (cs:=[]) rfl ⟨rfl,trivial⟩ Tryz.call172 (wire_Check_1_sim h31 w0 _ M _ (sc2 hM))<|lg hb29 (Ev.not rfl)<|lr (Ev.pickF rfl hb29 rfl)<|Lst.nil ?_
  exact At.meet (!r30) fl ⟨rfl,rfl,rfl,trivial⟩ rfl (si H)
 rintro F34 y28 hF35 hy
 subst hy
 replace H:=HKo27
 refine mv1 rfl ?_
 obtain ⟨o36,H,HKo36⟩:=bs H
 refine Lst.join (σ:=Bool) 6 (fun y37=>[(1,pv b1 0),(3,pv b3 0),(34,.bool y37)]) (fun y37=>T1::(.blk b1 (enc a0) 132)::L) (fun _ y37=>y37=o36) ?_ ?_
 ·rcases ic H with ⟨hb38,H⟩|⟨hb38,H⟩
  ·refine lsk rfl hb38<|lsk rfl hb38<|lsk rfl hb38<|lsk rfl hb38<|lsk rfl hb38<|lr (Ev.pickT rfl hb38 rfl)<|Lst.nil ?_
   exact At.meet true fl ⟨rfl,rfl,rfl,trivial⟩ rfl (si H)
  refine lg hb38 (Ev.load (i:=0) rfl rfl I135 (v:=.func (.func 172) #[] #[]) gh0)<|lg hb38 (Ev.fo 4 rfl U132 rfl Z3 rfl rfl)<|lg hb38 (Ev.load (i:=1) rfl rfl I3 (v:=iv a0.Seq) ((Note.get_Seq gh0).off rfl)) ?_
  obtain ⟨r39,h40,H⟩:=bs H
  refine Lst.callV1G rfl rfl rfl hb38 rfl (by decide) (vs:=[iv a0.Seq]) (cs:=[]) rfl ⟨rfl,trivial⟩ Tryz.call172 (wire_Check_1_sim h40 w0 _ M _ (sc2 hM))<|lg hb38 (Ev.not rfl)<|lr (Ev.pickF rfl hb38 rfl)<|Lst.nil ?_
  exact At.meet (!r39) fl ⟨rfl,rfl,rfl,trivial⟩ rfl (si H)
 rintro F43 y37 hF44 hy
 let T0:=ft (ft (ft hF17 hF26) hF35) hF44
 subst hy
 replace H:=HKo36
 refine as1 rfl<|nt0 ?_
 rcases ic H with ⟨hb45,H⟩|⟨hb45,H⟩
 ·refine Cd.condT rfl hb45<|sr0<|as1 rfl<|nt0 ?_
  obtain rfl:=si H
  refine Cd.ret<|At.in_ret<|At.then_ret ?_
  exact At.ret1 rfl (Res.tmp rfl) T0 (sc2 rl) ⟨rfl,rfl⟩
 refine Cd.condF rfl hb45<|sr0<|lr (Ev.fo 5 rfl U132 rfl Z130 rfl rfl)<|lr (Ev.sliceAll rfl U130 Z3)<|lr (Ev.makeFunc (us:=[]) (vs:=[pv b3 0]) trivial ⟨rfl,trivial⟩) ?_
 obtain ⟨r46,h47,H⟩:=bs H
 refine cl1 rfl (vs:=[Sl.v (Sl.mk (some ⟨b1,5,none⟩) 6 6),.func (.func 175) #[] #[pv b3 0]]) ⟨rfl,rfl,trivial⟩ Tryz.call174 (slices_ContainsFunc_int_int_Check_2_sim h47 w0 _ _ _ rl (Rd.blk (i:=0) (xs:=a0.At.toList) rfl ((Note.get_At gh0).off rfl) (by simp) (by decide)))<|as1 rfl<|nt0 ?_
 rcases ic H with ⟨hb50,H⟩|⟨hb50,H⟩
 ·refine Cd.condT rfl hb50<|sr0<|as1 rfl<|nt0 ?_
  obtain rfl:=si H
  refine Cd.ret<|At.in_ret<|At.then_ret ?_
  exact At.ret1 rfl (Res.tmp rfl) T0 (sc2 rl) ⟨rfl,rfl⟩
 refine Cd.condF rfl hb50<|sr0<|lr (Ev.fo 11 rfl U132 rfl Z9 rfl rfl)<|lr (Ev.load (i:=1) rfl rfl I9 (v:=Str.v a0.Text) ((Note.get_Text gh0).off rfl))<|lr (Ev.lenStr rfl rfl U9)<|lr (Ev.gtr rfl rfl)<|as1 rfl<|nt0 ?_
 rcases ic H with ⟨hb51,H⟩|⟨hb51,H⟩
 ·refine Cd.condT rfl hb51<|sr0<|as1 rfl<|nt0 ?_
  obtain rfl:=si H
  refine Cd.ret<|At.in_ret<|At.then_ret ?_
  exact At.ret1 rfl (Res.tmp rfl) T0 (sc2 rl) ⟨rfl,rfl⟩
 refine Cd.condF rfl hb51<|Cd.skip<|At.in_normal<|At.then<|sr0<|as1 rfl<|nt0 ?_
 obtain rfl:=si H
 refine Cd.ret ?_
 exact At.ret1 rfl (Res.tmp rfl) T0 (sc2 rl) ⟨rfl,rfl⟩
theorem wire_three_sim {a0:Int} {r:(List (BitVec 8))} (H:wire_three a0=some r) (w0:World) (F:Frz) (M L:List Item) (hM:M.Sublist L):Ok Tryz.prog w0 170 [iv a0] F (L) (fun _ L' v=>∃ (s1:Sl),v=Sl.v s1∧L'=(.own s1 5 1 (encs r))::L):=by
 unfold wire_three at H
 refine Ok.enter (m:=1) (n:=12) Tryz.func170 rfl rfl rfl (by decide)<|Cd.env (e':=[(0,iv a0)]) rfl<|sr0<|Lst.addNil 5 1<|as1 rfl<|nsr<|mv1 rfl<|lr (Ev.convTo8 rfl U3 U5)<|mv1 rfl<|lr (Ev.shr64 (i:=a0) (m:=8) rfl rfl)<|lr (Ev.convTo8 rfl U3 U5) ?_
 refine mv1 rfl<|lr (Ev.shr64 (i:=a0) (m:=16) rfl rfl)<|lr (Ev.convTo8 rfl U3 U5) ?_
 refine Lst.buildSlice (α:=BitVec 8) (xs:=([BitVec.ofInt 8 a0,BitVec.ofInt 8 (a0.fdiv (2 ^ (min 8 64)):Int),BitVec.ofInt 8 (a0.fdiv (2 ^ (min 16 64)):Int)]:List (BitVec 8))) (pv:=[(0,.int .u8 (BitVec.ofInt 8 a0).toNat),(1,.int .u8 (BitVec.ofInt 8 (a0.fdiv (2 ^ (min 8 64)):Int)).toNat),(2,.int .u8 (BitVec.ofInt 8 (a0.fdiv (2 ^ (min 16 64)):Int)).toNat)]) rfl rfl (by decide) ⟨rfl,rfl,⟨rfl,rfl,⟨rfl,rfl,trivial⟩⟩⟩ (run_buildSlice (α:=BitVec 8) (z0:=(0:BitVec 8)) (xs:=([BitVec.ofInt 8 a0,BitVec.ofInt 8 (a0.fdiv (2 ^ (min 8 64)):Int),BitVec.ofInt 8 (a0.fdiv (2 ^ (min 16 64)):Int)]:List (BitVec 8))) U183 Z5 Tryz.zeroValue5 rfl rfl rfl (by decide) rfl (fill_cons (cs:=encs (List.replicate 3 (0:BitVec 8))) (cs':=encs ((List.replicate 3 (0:BitVec 8)).set 0 (BitVec.ofInt 8 a0))) (vs:=[.int .u8 (BitVec.ofInt 8 a0).toNat]) rfl rfl rfl ((Put.elemN (s:=1) (i:=0) (x:=(0:BitVec 8)) (y:=(BitVec.ofInt 8 a0)) rfl rfl (Put.here (vs:=[.int .u8 (BitVec.ofInt 8 a0).toNat]) rfl)).off rfl) (fill_cons (cs:=encs ((List.replicate 3 (0:BitVec 8)).set 0 (BitVec.ofInt 8 a0))) (cs':=encs (((List.replicate 3 (0:BitVec 8)).set 0 (BitVec.ofInt 8 a0)).set 1 (BitVec.ofInt 8 (a0.fdiv (2 ^ (min 8 64)):Int)))) (vs:=[.int .u8 (BitVec.ofInt 8 (a0.fdiv (2 ^ (min 8 64)):Int)).toNat]) rfl rfl rfl ((Put.elemN (s:=1) (i:=1) (x:=(0:BitVec 8)) (y:=(BitVec.ofInt 8 (a0.fdiv (2 ^ (min 8 64)):Int))) rfl rfl (Put.here (vs:=[.int .u8 (BitVec.ofInt 8 (a0.fdiv (2 ^ (min 8 64)):Int)).toNat]) rfl)).off rfl) (fill_cons (cs:=encs (((List.replicate 3 (0:BitVec 8)).set 0 (BitVec.ofInt 8 a0)).set 1 (BitVec.ofInt 8 (a0.fdiv (2 ^ (min 8 64)):Int)))) (cs':=encs ((((List.replicate 3 (0:BitVec 8)).set 0 (BitVec.ofInt 8 a0)).set 1 (BitVec.ofInt 8 (a0.fdiv (2 ^ (min 8 64)):Int))).set 2 (BitVec.ofInt 8 (a0.fdiv (2 ^ (min 16 64)):Int)))) (vs:=[.int .u8 (BitVec.ofInt 8 (a0.fdiv (2 ^ (min 16 64)):Int)).toNat]) rfl rfl rfl ((Put.elemN (s:=1) (i:=2) (x:=(0:BitVec 8)) (y:=(BitVec.ofInt 8 (a0.fdiv (2 ^ (min 16 64)):Int))) rfl rfl (Put.here (vs:=[.int .u8 (BitVec.ofInt 8 (a0.fdiv (2 ^ (min 16 64)):Int)).toNat]) rfl)).off rfl) fill_nil)))) rfl rfl (by decide) (fun s2 _=>?_)
 refine as1 rfl<|nt0 ?_
 obtain rfl:=si H
 refine Cd.ret ?_
 exact At.ret1 rfl (Res.tmp rfl) fl (sk1 (sc1 rl)) ⟨s2,rfl,rfl⟩
theorem wire_Sum_sim {a0:Str} {r:(BitVec 32)} (H:wire_Sum a0=some r) (w0:World) (F:Frz) (M L:List Item) (hM:M.Sublist L):Ok Tryz.prog w0 116 [Str.v a0] F (L) (Is (.int .u32 r.toNat) (L)):=by
 unfold wire_Sum at H
 refine Ok.enter (m:=1) (n:=31) Tryz.func116 rfl rfl rfl (by decide)<|Cd.env (e':=[(0,Str.v a0)]) rfl<|sr0<|as1 rfl<|nsr<|as1 rfl<|nt0<|Cd.seq<|sr0<|mv1 rfl<|lr (Ev.lenStr rfl rfl U9) ?_
 refine mv1 rfl<|nt0<|Cd.block ?_
 obtain ⟨nn5,hN13,H⟩:=bs H
 replace hN13:=upTo_some hN13
 obtain ⟨ol1,H,HKl1⟩:=bs H
 refine Cd.loop (σ:=Nat×Nat×(BitVec 32)) (fun (i1,k1,y2)=>[(0,Str.v a0),(3,.int .u32 y2.toNat),(7,iv (a0.length:Int)),(8,iv (i1:Int))]) (fun (i1,k1,y2)=>L) (fun _=>(fun (i1,k1,y2)=>rangeF (wire_Sum_B0 a0) k1 i1 y2=some ol1∧i1+k1=nn5)) (fun (i1,k1,y2)=>k1) (0,nn5,(4294967295:BitVec 32)) ⟨rfl,rfl,rfl,rfl,trivial⟩ rfl ⟨H,by omega⟩ ?_
 rintro F3 ⟨i1,k1,y2⟩ hF4 ⟨H,hik1⟩
 rcases k1 with _ | k1
 ·have hc1:decide ((i1:Int) < (a0.length:Int))=false:=decide_eq_false (by omega)
  replace H:=rangeF_end H
  refine sr0<|lr (Ev.lss rfl rfl)<|nt0<|Cd.seq<|Cd.condF rfl hc1<|Cd.exit<|At.then_exit<|At.then_exit<|At.in_exit ?_
  subst H
  replace H:=HKl1
  refine At.then<|sr0<|mv1 rfl<|lr (Ev.complU32 (i:=y2) rfl)<|as1 rfl<|nt0 ?_
  obtain rfl:=si H
  refine Cd.ret ?_
  exact At.ret1 rfl (Res.tmp rfl) hF4 rl ⟨rfl,rfl⟩
 have hc1:decide ((i1:Int) < (a0.length:Int))=true:=decide_eq_true (by omega)
 obtain ⟨c1,H,hgo1⟩:=rangeF_go H
 unfold wire_Sum_B0 at H
 try dsimp only at H
 refine sr0<|lr (Ev.lss rfl rfl)<|nt0<|Cd.seq<|Cd.condT rfl hc1<|Cd.skip<|At.then<|Cd.seq<|Cd.block<|sr0<|mv1 rfl ?_
 refine as1 rfl<|nsr<|mv1 rfl<|mv1 rfl<|mv1 rfl ?_
 obtain ⟨x6,h7,H⟩:=bs H
 refine lr (Ev.indexStr rfl rfl U9 h7)<|lr (Ev.convTo32 rfl U5 U110)<|lr (Ev.xorU32 (i:=y2) (j:=BitVec.ofInt 32 (x6.toBitVec.toNat:Int)) rfl rfl)<|as1 rfl<|nsr<|mv1 rfl<|nt0<|Cd.block ?_
 obtain ⟨ol8,H,HKl8⟩:=bs H
 refine Cd.loop (σ:=Nat×Nat×(BitVec 32)) (fun (i8,k8,y9)=>[(0,Str.v a0),(3,.int .u32 y9.toNat),(7,iv (a0.length:Int)),(8,iv (i1:Int)),(17,iv (i8:Int))]) (fun (i8,k8,y9)=>L) (fun _=>(fun (i8,k8,y9)=>rangeF (wire_Sum_B2) k8 i8 y9=some ol8∧i8+k8=8)) (fun (i8,k8,y9)=>k8) (0,8,y2 ^^^ (BitVec.ofInt 32 (x6.toBitVec.toNat:Int))) ⟨rfl,rfl,rfl,rfl,rfl,trivial⟩ rfl ⟨H,by omega⟩ ?_
 rintro F10 ⟨i8,k8,y9⟩ hF11 ⟨H,hik8⟩
 rcases k8 with _ | k8
 ·have hc8:decide ((i8:Int) < (8:Int))=false:=decide_eq_false (by omega)
  replace H:=rangeF_end H
  refine sr0<|lr (Ev.lss rfl rfl)<|nt0<|Cd.seq<|Cd.condF rfl hc8<|Cd.exit<|At.then_exit<|At.then_exit<|At.in_exit ?_
  subst H
  replace H:=HKl8
  refine At.in_normal<|At.then<|Cd.region<|lr (Ev.incr (by omega) rfl rfl)<|mv1 rfl<|Lst.nil ?_
  exact At.meet (i1+1,k1,y9) (ft hF4 hF11) ⟨rfl,rfl,rfl,rfl,trivial⟩ rfl ⟨⟨hgo1 _ (sj H),by omega⟩,nls⟩
 have hc8:decide ((i8:Int) < (8:Int))=true:=decide_eq_true (by omega)
 obtain ⟨c8,H,hgo8⟩:=rangeF_go H
 unfold wire_Sum_B2 at H
 try dsimp only at H
 refine sr0<|lr (Ev.lss rfl rfl)<|nt0<|Cd.seq<|Cd.condT rfl hc8<|Cd.skip<|At.then<|Cd.seq<|Cd.block<|sr0<|mv1 rfl ?_
 refine lr (Ev.andU32 (i:=y9) (j:=(1:BitVec 32)) rfl rfl)<|as1 rfl<|nsr<|mv1 rfl<|lr (Ev.shrU32 (i:=y9) (m:=1) rfl rfl)<|as1 rfl<|nsr<|mv1 rfl<|lr (Ev.eql rfl rfl)<|nt0 ?_
 rcases ic2 H with ⟨hb12,H⟩|⟨hb12,H⟩
 ·refine Cd.condF rfl hb12<|Cd.skip<|At.in_normal<|At.then<|Cd.region<|lr (Ev.incr (by omega) rfl rfl)<|mv1 rfl<|Lst.nil ?_
  exact At.meet (i8+1,k8,y9 >>> 1) hF11 ⟨rfl,rfl,rfl,rfl,rfl,trivial⟩ rfl ⟨⟨hgo8 _ (sj H),by omega⟩,nls⟩
 refine Cd.condT rfl hb12<|Cd.region<|mv1 rfl<|lr (Ev.xorU32 (i:=y9 >>> 1) (j:=(2197175160:BitVec 32)) rfl rfl)<|as1 rfl<|Lst.nil<|At.in_normal<|At.then<|Cd.region<|lr (Ev.incr (by omega) rfl rfl)<|mv1 rfl ?_
 refine Lst.nil ?_
 exact At.meet (i8+1,k8,(y9 >>> 1) ^^^ (2197175160:BitVec 32)) hF11 ⟨rfl,rfl,rfl,rfl,rfl,trivial⟩ rfl ⟨⟨hgo8 _ (sj H),by omega⟩,nls⟩
theorem wire_four_sim {a0:BitVec 32} {r:(List (BitVec 8))} (H:wire_four a0=some r) (w0:World) (F:Frz) (M L:List Item) (hM:M.Sublist L):Ok Tryz.prog w0 115 [.int .u32 a0.toNat] F (L) (fun _ L' v=>∃ (s1:Sl),v=Sl.v s1∧L'=(.own s1 5 1 (encs r))::L):=by
 unfold wire_four at H
 refine Ok.enter (m:=1) (n:=11) Tryz.func115 rfl rfl rfl (by decide)<|Cd.env (e':=[(0,.int .u32 a0.toNat)]) rfl<|sr0<|Lst.addNil 5 1<|as1 rfl<|nsr<|mv1 rfl<|lr (Ev.convIS (j:=(a0.toNat:Int)) rfl U110 U3 (w64_id (by omega) (by omega))) ?_
 obtain ⟨r2,h3,H⟩:=bs H
 refine cl rfl (vs:=[iv (a0.toNat:Int)]) ⟨rfl,trivial⟩ Tryz.call170 (wire_three_sim h3 w0 _ M _ (sc1 hM)) (fun F6 L' v hF7 hv=>?_)
 obtain ⟨s4,rfl,rfl⟩:=hv
 refine mv1 rfl<|lr (Ev.shrU32 (i:=a0) (m:=24) rfl rfl)<|lr (Ev.convTo8 rfl U110 U5) ?_
 refine Lst.buildSlice (α:=BitVec 8) (xs:=([BitVec.ofInt 8 ((a0 >>> 24).toNat:Int)]:List (BitVec 8))) (pv:=[(0,.int .u8 (BitVec.ofInt 8 ((a0 >>> 24).toNat:Int)).toNat)]) rfl rfl (by decide) ⟨rfl,rfl,trivial⟩ (run_buildSlice (α:=BitVec 8) (z0:=(0:BitVec 8)) (xs:=([BitVec.ofInt 8 ((a0 >>> 24).toNat:Int)]:List (BitVec 8))) U183 Z5 Tryz.zeroValue5 rfl rfl rfl (by decide) rfl (fill_one rfl rfl)) rfl rfl (by decide) (fun s8 _=>?_)
 obtain ⟨u10,h11,H⟩:=bs H
 refine Lst.append (i:=1) (α:=BitVec 8) (xs:=r2) (ys:=([BitVec.ofInt 8 ((a0 >>> 24).toNat:Int)]:List (BitVec 8))) rfl rfl (by decide) rfl rfl U183 Tryz.typeInfo5 rfl rfl rfl rfl rfl rfl (rdo 0 rfl rfl rfl) rfl (room_some h11) rfl (fun s12=>?_)
 refine as1 rfl<|nt0 ?_
 obtain rfl:=si H
 refine Cd.ret ?_
 exact At.ret1 rfl (Res.tmp rfl) hF7 (sc1 (sk1 (sc1 rl))) ⟨s12,rfl,rfl⟩
theorem wire_Pack_sim {a0:Note} {r:Str×Int} (H:wire_Pack a0=some r) (w0:World) (F:Frz) (M L:List Item) (hM:M.Sublist L):Ok Tryz.prog w0 113 [.agg (enc a0).toArray] F (L) (Is (.tuple #[Str.v r.1,iv r.2]) (L)):=by
 unfold wire_Pack at H
 refine Ok.enter (m:=1) (n:=52) Tryz.func113 rfl rfl rfl (by decide)<|Cd.env (e':=[(0,.agg (enc a0).toArray)]) rfl<|sr0 ?_
 refine Lst.box rfl rfl (by decide) rfl (cs:=enc a0) rfl (fun b1=>?_)
 refine as1 rfl<|as1 rfl<|nt0<|Cd.seq<|sr0<|lr (Ev.loadA (i:=0) rfl rfl I132 Z132 (ch:=enc a0) el gh0) ?_
 obtain ⟨r3,h4,H⟩:=bs H
 refine cl1 rfl (vs:=[.agg (enc a0).toArray]) ⟨rfl,trivial⟩ Tryz.call118 (wire_Check_sim h4 w0 _ M _ (sc1 hM))<|as1 rfl<|nsr<|mv1 rfl<|lr (Ev.neq rfl rfl)<|nt0 ?_
 rcases ic H with ⟨hb7,H⟩|⟨hb7,H⟩
 ·refine Cd.condT rfl hb7<|sr0<|mv1 rfl<|as1 rfl<|as1 rfl<|nt0 ?_
  obtain rfl:=si H
  refine Cd.ret<|At.then_ret ?_
  exact At.ret2 rfl (Res.tmp rfl) (Res.tmp rfl) fl (sc1 rl) ⟨rfl,rfl⟩
 refine Cd.condF rfl hb7<|Cd.skip<|At.then<|sr0<|lr (Ev.fo 0 rfl U132 rfl Z3 rfl rfl)<|lr (Ev.load (i:=0) rfl rfl I3 (v:=iv a0.Kind) ((Note.get_Kind gh0).off rfl))<|lr (Ev.convTo8 rfl U3 U5)<|lr (Ev.fo 1 rfl U132 rfl Z3 rfl rfl)<|lr (Ev.load (i:=0) rfl rfl I3 (v:=iv a0.From) ((Note.get_From gh0).off rfl))<|lr (Ev.convTo8 rfl U3 U5)<|lr (Ev.fo 2 rfl U132 rfl Z3 rfl rfl) ?_
 refine lr (Ev.load (i:=0) rfl rfl I3 (v:=iv a0.To) ((Note.get_To gh0).off rfl))<|lr (Ev.convTo8 rfl U3 U5) ?_
 refine Lst.buildSlice (α:=BitVec 8) (xs:=([BitVec.ofInt 8 a0.Kind,BitVec.ofInt 8 a0.From,BitVec.ofInt 8 a0.To]:List (BitVec 8))) (pv:=[(0,.int .u8 (BitVec.ofInt 8 a0.Kind).toNat),(1,.int .u8 (BitVec.ofInt 8 a0.From).toNat),(2,.int .u8 (BitVec.ofInt 8 a0.To).toNat)]) rfl rfl (by decide) ⟨rfl,rfl,⟨rfl,rfl,⟨rfl,rfl,trivial⟩⟩⟩ (run_buildSlice (α:=BitVec 8) (z0:=(0:BitVec 8)) (xs:=([BitVec.ofInt 8 a0.Kind,BitVec.ofInt 8 a0.From,BitVec.ofInt 8 a0.To]:List (BitVec 8))) U183 Z5 Tryz.zeroValue5 rfl rfl rfl (by decide) rfl (fill_cons (cs:=encs (List.replicate 3 (0:BitVec 8))) (cs':=encs ((List.replicate 3 (0:BitVec 8)).set 0 (BitVec.ofInt 8 a0.Kind))) (vs:=[.int .u8 (BitVec.ofInt 8 a0.Kind).toNat]) rfl rfl rfl ((Put.elemN (s:=1) (i:=0) (x:=(0:BitVec 8)) (y:=(BitVec.ofInt 8 a0.Kind)) rfl rfl (Put.here (vs:=[.int .u8 (BitVec.ofInt 8 a0.Kind).toNat]) rfl)).off rfl) (fill_cons (cs:=encs ((List.replicate 3 (0:BitVec 8)).set 0 (BitVec.ofInt 8 a0.Kind))) (cs':=encs (((List.replicate 3 (0:BitVec 8)).set 0 (BitVec.ofInt 8 a0.Kind)).set 1 (BitVec.ofInt 8 a0.From))) (vs:=[.int .u8 (BitVec.ofInt 8 a0.From).toNat]) rfl rfl rfl ((Put.elemN (s:=1) (i:=1) (x:=(0:BitVec 8)) (y:=(BitVec.ofInt 8 a0.From)) rfl rfl (Put.here (vs:=[.int .u8 (BitVec.ofInt 8 a0.From).toNat]) rfl)).off rfl) (fill_cons (cs:=encs (((List.replicate 3 (0:BitVec 8)).set 0 (BitVec.ofInt 8 a0.Kind)).set 1 (BitVec.ofInt 8 a0.From))) (cs':=encs ((((List.replicate 3 (0:BitVec 8)).set 0 (BitVec.ofInt 8 a0.Kind)).set 1 (BitVec.ofInt 8 a0.From)).set 2 (BitVec.ofInt 8 a0.To))) (vs:=[.int .u8 (BitVec.ofInt 8 a0.To).toNat]) rfl rfl rfl ((Put.elemN (s:=1) (i:=2) (x:=(0:BitVec 8)) (y:=(BitVec.ofInt 8 a0.To)) rfl rfl (Put.here (vs:=[.int .u8 (BitVec.ofInt 8 a0.To).toNat]) rfl)).off rfl) fill_nil)))) rfl rfl (by decide) (fun s8 _=>?_)
 let T0:Item:=.own s8 5 1 (encs ([BitVec.ofInt 8 a0.Kind,BitVec.ofInt 8 a0.From,BitVec.ofInt 8 a0.To]:List (BitVec 8)))
 refine as1 rfl<|nt0<|Cd.seq<|Cd.seq ?_
 obtain ⟨u12,h13,H⟩:=bs H
 obtain ⟨o18,h19,H⟩:=Let_some H
 refine Cd.headMeet (σ:=Sl×(List Int)) 10 (fun (s16,l17)=>[(1,pv b1 0),(5,Sl.v s8),(30,Sl.v s16),(31,iv ((([a0.View,a0.Seq]:List Int)++a0.At.toList).length:Int)),(32,iv (0:Int))]) (fun (s16,l17)=>(.own s16 3 1 (encs l17))::T0::(.blk b1 (enc a0) 132)::L) (fun _ (s16,l17)=>l17=o18) (by kernel_rfl) (by kernel_rfl) (behind_all rfl) (by kernel_rfl) (fun hsel hlt=>?_) ?_
 ·refine HdJ.keep (fun w=>St w0 F (T0::(.blk b1 (enc a0) 132)::L) w) (fun w h=>trivial)<|hts rfl hsel hlt 0 rl rfl (Ev.fo 3 rfl U132 rfl Z3 rfl rfl)<|hts rfl hsel hlt 1 rl rfl (Ev.load (i:=1) rfl rfl I3 (v:=iv a0.View) ((Note.get_View gh0).off rfl))<|hts rfl hsel hlt 2 rl rfl (Ev.fo 4 rfl U132 rfl Z3 rfl rfl)<|hts rfl hsel hlt 3 rl rfl (Ev.load (i:=1) rfl rfl I3 (v:=iv a0.Seq) ((Note.get_Seq gh0).off rfl))<|hts rfl hsel hlt 5 rl rfl (Ev.fo 5 rfl U132 rfl Z130 rfl rfl)<|hts rfl hsel hlt 6 rl rfl (Ev.sliceAll rfl U130 Z3)<|hts rfl hsel hlt 9 rl rfl (Ev.move rfl) ?_
  refine HdJ.o1 4 (fun inv=>?_)
  refine Lst.buildSlice (α:=Int) (xs:=([a0.View,a0.Seq]:List Int)) (pv:=[(0,iv a0.View),(1,iv a0.Seq)]) rfl rfl (by decide) ⟨rfl,rfl,⟨rfl,rfl,trivial⟩⟩ (run_buildSlice (α:=Int) (z0:=(0:Int)) (xs:=([a0.View,a0.Seq]:List Int)) U83 Z3 Tryz.zeroValue3 rfl rfl rfl (by decide) rfl (fill_cons (cs:=encs (List.replicate 2 (0:Int))) (cs':=encs ((List.replicate 2 (0:Int)).set 0 a0.View)) (vs:=[iv a0.View]) rfl rfl rfl ((Put.elemN (s:=1) (i:=0) (x:=(0:Int)) (y:=a0.View) rfl rfl (Put.here (vs:=[iv a0.View]) rfl)).off rfl) (fill_cons (cs:=encs ((List.replicate 2 (0:Int)).set 0 a0.View)) (cs':=encs (((List.replicate 2 (0:Int)).set 0 a0.View).set 1 a0.Seq)) (vs:=[iv a0.Seq]) rfl rfl rfl ((Put.elemN (s:=1) (i:=1) (x:=(0:Int)) (y:=a0.Seq) rfl rfl (Put.here (vs:=[iv a0.Seq]) rfl)).off rfl) fill_nil))) rfl rfl (by decide) (fun s20 _=>?_)
  refine hds inv (sc1 rl) ?_
  refine HdJ.o1 7 (fun inv=>?_)
  refine Lst.append (i:=0) (α:=Int) (xs:=([a0.View,a0.Seq]:List Int)) (ys:=a0.At.toList) rfl rfl (by decide) rfl rfl U83 Tryz.typeInfo3 rfl rfl rfl rfl rfl rfl (Rd.blk (i:=2) (xs:=a0.At.toList) rfl ((Note.get_At gh0).off rfl) (by simp) (by decide)) rfl (room_some h13) rfl (fun s21=>?_)
  refine hds inv (sc1 rl)<|HdJ.keep (fun w=>St w0 F ((.own s21 3 1 (encs (([a0.View,a0.Seq]:List Int)++a0.At.toList)))::T0::(.blk b1 (enc a0) 132)::L) w) (fun w h=>(h.weaken fl).sublist (sc1 rl))<|hts rfl hsel hlt 8 rl rfl (Ev.lenS (α:=Int) (xs:=(([a0.View,a0.Seq]:List Int)++a0.At.toList)) (by decide) rfl rfl U83 (rdo 0 rfl rfl rfl))<|HdJ.done (by kernel_rfl) ?_
  exact At.meetN (s21,([a0.View,a0.Seq]:List Int)++a0.At.toList) fl ⟨rfl,rfl,rfl,rfl,rfl,trivial⟩ rfl h19
 rintro F22 ⟨s16,l17⟩ hF23 hy
 subst hy
 refine nt0<|Cd.block ?_
 obtain ⟨nn29,hN58,H⟩:=bs H
 replace hN58:=upTo_some hN58
 obtain ⟨ol24,H,HKl24⟩:=bs H
 refine Cd.loop (σ:=Nat×Nat×Sl×(List (BitVec 8))) (fun (i24,k24,s25,l26)=>[(1,pv b1 0),(5,Sl.v s25),(30,Sl.v s16),(31,iv ((([a0.View,a0.Seq]:List Int)++a0.At.toList).length:Int)),(32,iv (i24:Int))]) (fun (i24,k24,s25,l26)=>(.own s16 3 1 (encs l17))::(.own s25 5 1 (encs l26))::(.blk b1 (enc a0) 132)::L) (fun _=>(fun (i24,k24,s25,l26)=>rangeF (wire_Pack_B0 l17) k24 i24 l26=some ol24∧i24+k24=nn29)) (fun (i24,k24,s25,l26)=>k24) (0,nn29,s8,([BitVec.ofInt 8 a0.Kind,BitVec.ofInt 8 a0.From,BitVec.ofInt 8 a0.To]:List (BitVec 8))) ⟨rfl,rfl,rfl,rfl,rfl,trivial⟩ rfl ⟨H,by omega⟩ ?_
 rintro F27 ⟨i24,k24,s25,l26⟩ hF28 ⟨H,hik24⟩
 rcases k24 with _ | k24
 ·have hc24:decide ((i24:Int) < ((([a0.View,a0.Seq]:List Int)++a0.At.toList).length:Int))=false:=decide_eq_false (by omega)
  replace H:=rangeF_end H
  refine sr0<|lr (Ev.lss rfl rfl)<|nt0<|Cd.seq<|Cd.condF rfl hc24<|Cd.exit<|At.then_exit<|At.then_exit<|At.in_exit ?_
  subst H
  replace H:=HKl24
  refine At.then<|sr0<|mv1 rfl<|lr (Ev.fo 11 rfl U132 rfl Z9 rfl rfl)<|lr (Ev.load (i:=2) rfl rfl I9 (v:=Str.v a0.Text) ((Note.get_Text gh0).off rfl)) ?_
  obtain ⟨u42,h43,H⟩:=bs H
  refine Lst.appendStr (i:=1) (xs:=l26) (m:=a0.Text) rfl rfl (by decide) rfl rfl U183 U9 Tryz.typeInfo5 rfl rfl rfl rfl rfl (room_some h43) rfl (fun s44=>?_)
  refine as1 rfl<|nsr<|mv1 rfl<|mv1 rfl<|lr (Ev.bytesStr (ys:=(l26++(Str.bytes a0.Text))) rfl U183 U5 U9 (rdo 1 rfl rfl rfl)) ?_
  obtain ⟨r45,h46,H⟩:=bs H
  refine cl1 rfl (vs:=[Str.v (Str.ofBytes (l26++(Str.bytes a0.Text)))]) ⟨rfl,trivial⟩ Tryz.call116 (wire_Sum_sim h46 w0 _ M _ (sc2 (sc1 hM))) ?_
  obtain ⟨r49,h50,H⟩:=bs H
  refine cl rfl (vs:=[.int .u32 r45.toNat]) ⟨rfl,trivial⟩ Tryz.call115 (wire_four_sim h50 w0 _ M _ (sc2 (sc1 hM))) (fun F53 L' v hF54 hv=>?_)
  obtain ⟨s51,rfl,rfl⟩:=hv
  obtain ⟨u55,h56,H⟩:=bs H
  refine Lst.append (i:=2) (α:=BitVec 8) (xs:=(l26++(Str.bytes a0.Text))) (ys:=r49) rfl rfl (by decide) rfl rfl U183 Tryz.typeInfo5 rfl rfl rfl rfl rfl rfl (rdo 0 rfl rfl rfl) rfl (room_some h56) rfl (fun s57=>?_)
  refine lr (Ev.bytesStr (ys:=((l26++(Str.bytes a0.Text))++r49)) rfl U183 U5 U9 (rdo 2 rfl rfl rfl))<|as1 rfl<|as1 rfl<|nt0 ?_
  obtain rfl:=si H
  refine Cd.ret ?_
  exact At.ret2 rfl (Res.tmp rfl) (Res.tmp rfl) (ft (ft hF23 hF28) hF54) (sc4 rl) ⟨rfl,rfl⟩
 have hc24:decide ((i24:Int) < ((([a0.View,a0.Seq]:List Int)++a0.At.toList).length:Int))=true:=decide_eq_true (by omega)
 obtain ⟨c24,H,hgo24⟩:=rangeF_go H
 unfold wire_Pack_B0 at H
 try dsimp only at H
 refine sr0<|lr (Ev.lss rfl rfl)<|nt0<|Cd.seq<|Cd.condT rfl hc24<|Cd.skip<|At.then<|Cd.seq<|Cd.block<|sr0 ?_
 obtain ⟨x30,h31,H⟩:=bs H
 have g32:=lat_some h31
 refine lr (Ev.indexS (α:=Int) (xs:=l17) rfl rfl U83 Z3 rfl (by decide) (rdo 0 rfl rfl rfl) g32.1 g32.2.1)<|lr (Ev.loadS (α:=Int) rfl (rdo 0 rfl rfl rfl) I3 (v:=iv x30) ((Get.elemN (s:=1) (x:=x30) rfl g32.2.2 gh0).off (by omega)))<|as1 rfl<|nt0<|Cd.region<|mv1 rfl<|mv1 rfl ?_
 obtain ⟨r33,h34,H⟩:=bs H
 refine cl rfl (vs:=[iv x30]) ⟨rfl,trivial⟩ Tryz.call170 (wire_three_sim h34 w0 _ M _ (sc2 (sc1 hM))) (fun F37 L' v hF38 hv=>?_)
 obtain ⟨s35,rfl,rfl⟩:=hv
 obtain ⟨u39,h40,H⟩:=bs H
 refine Lst.append (i:=2) (α:=BitVec 8) (xs:=l26) (ys:=r33) rfl rfl (by decide) rfl rfl U183 Tryz.typeInfo5 rfl rfl rfl rfl rfl rfl (rdo 0 rfl rfl rfl) rfl (room_some h40) rfl (fun s41=>?_)
 refine as1 rfl<|Lst.nil<|At.in_normal<|At.then<|Cd.region<|lr (Ev.incr (by omega) rfl rfl)<|mv1 rfl<|Lst.nil<|At.less (sc1 rl) ?_
 exact At.meet (i24+1,k24,s41,l26++r33) (ft hF28 hF38) ⟨rfl,rfl,rfl,rfl,rfl,trivial⟩ rfl ⟨⟨hgo24 _ (sj H),by omega⟩,nls⟩
theorem world_World_send_sim {a0:Wld} {a1:Int} {a2:Int} {a3:Int} {a4:Int} {a5:Str} {ba0:Nat} {sa0x1:Sl} {ra0x1:List ProcessR} {sa0x2:Sl} {sa0x3:Sl} {r:(List Str)×Wld} (H:world_World_send a0 a1 a2 a3 a4 a5=some r) (w0:World) (F:Frz) (M L:List Item) (hM:M.Sublist L) (ma0x1:ra0x1.map ProcessR.v=a0.all) (na0x1:All ProcessR.frel w0 F [] ra0x1):Ok Tryz.prog w0 61 [pv ba0 0,iv a1,iv a2,iv a3,iv a4,Str.v a5] F ((.rows (α:=Saying) 62 (List.map ProcessR.row ra0x1))::(.own sa0x1 100 8 (encs ra0x1))::(.own sa0x2 9 1 (encs a0.ordered))::(.own sa0x3 9 1 (encs a0.way))::(.blk ba0 (enc (WldR.mk a0 sa0x1 sa0x2 sa0x3)) 95)::L) (fun _ L' v=>∃ (s6:Sl),v=.tuple #[]∧L'=(.rows (α:=Saying) 62 (List.map ProcessR.row ra0x1))::(.own sa0x1 100 8 (encs ra0x1))::(.own sa0x2 9 1 (encs a0.ordered))::(.own s6 9 1 (encs r.1))::(.blk ba0 (enc (WldR.mk ({r.2 with all:=a0.all,ordered:=a0.ordered,way:=r.1}:Wld) sa0x1 sa0x2 s6)) 95)::L):=by
 let T0:=({Note.zero with Kind:=a1,From:=a2,To:=a3,View:=a0.view.Num,Seq:=a4,Text:=a5}:Note)
 unfold world_World_send at H
 refine Ok.enter (m:=6) (n:=49) Tryz.func61 rfl rfl rfl (by decide)<|Cd.env (e':=[(0,pv ba0 0),(1,iv a1),(2,iv a2),(3,iv a3),(4,iv a4),(5,Str.v a5)]) rfl<|sr0<|mv1 rfl<|mv1 rfl<|mv1 rfl<|mv1 rfl<|lr (Ev.nilCheck rfl)<|lr (Ev.fo 0 rfl U95 rfl Z34 rfl rfl)<|lr (Ev.fo 0 rfl U34 rfl Z3 rfl rfl)<|lr (Ev.load (i:=4) rfl rfl I3 (v:=iv a0.view.Num) ((WldR.get_view (View.get_Num gh0)).off rfl)) ?_
 refine mv1 rfl<|mv1 rfl<|lr (Ev.build (v:=.agg (enc T0).toArray) (pv:=[(0,iv a1),(1,iv a2),(2,iv a3),(3,iv a0.view.Num),(4,iv a4),(6,Str.v a5)]) ⟨rfl,rfl,⟨rfl,rfl,⟨rfl,rfl,⟨rfl,rfl,⟨rfl,rfl,⟨rfl,rfl,trivial⟩⟩⟩⟩⟩⟩ (fun w=>by kernel_rfl)) ?_
 obtain ⟨r6,h7,H⟩:=bs H
 refine cl1 rfl (vs:=[.agg (enc T0).toArray]) ⟨rfl,trivial⟩ Tryz.call113 (wire_Pack_sim h7 w0 _ M _ (sc4 (sc1 hM)))<|mv1 rfl<|lr (Ev.extract rfl rfl)<|lr (Ev.extract rfl rfl)<|as1 rfl<|as1 rfl<|nsr<|mv1 rfl<|lr (Ev.eql rfl rfl)<|mv1 rfl ?_
 obtain ⟨o10,H,HKo10⟩:=bs H
 refine Lst.join (σ:=Bool) 7 (fun y11=>[(0,pv ba0 0),(12,Str.v r6.1),(38,.bool y11)]) (fun y11=>(.rows (α:=Saying) 62 (List.map ProcessR.row ra0x1))::(.own sa0x1 100 8 (encs ra0x1))::(.own sa0x2 9 1 (encs a0.ordered))::(.own sa0x3 9 1 (encs a0.way))::(.blk ba0 (enc (WldR.mk a0 sa0x1 sa0x2 sa0x3)) 95)::L) (fun _ y11=>y11=o10) ?_ ?_
 ·rcases ic2 H with ⟨hb12,H⟩|⟨hb12,H⟩
  ·refine lsk rfl hb12<|lsk rfl hb12<|lsk rfl hb12<|lsk rfl hb12<|lsk rfl hb12<|lsk rfl hb12<|lr (Ev.pickF rfl hb12 rfl)<|Lst.nil ?_
   exact At.meet false fl ⟨rfl,rfl,rfl,trivial⟩ rfl (si H)
  refine lg hb12 (Ev.move rfl)<|lg hb12 (Ev.nilCheck rfl)<|lg hb12 (Ev.fo 4 rfl U95 rfl Z43 rfl rfl)<|lg hb12 (Ev.load (i:=4) rfl rfl I43 (v:=Sl.v sa0x3) ((WldR.get_way gh0).off rfl))<|lg hb12 (Ev.lenS (α:=Str) (xs:=a0.way) (by decide) rfl rfl U43 (rdo 3 rfl rfl rfl))<|lg hb12 (Ev.lss rfl rfl)<|lr (Ev.pickT rfl hb12 rfl)<|Lst.nil ?_
  exact At.meet (decide ((a0.way.length:Int) < (60:Int))) fl ⟨rfl,rfl,rfl,trivial⟩ rfl (si H)
 rintro F13 y11 hF14 hy
 subst hy
 replace H:=HKo10
 refine nt0 ?_
 rcases ic2 H with ⟨hb15,H⟩|⟨hb15,H⟩
 ·refine Cd.condF rfl hb15<|Cd.skip ?_
  obtain rfl:=si H
  exact At.ret0 (.inr rfl) rfl hF14 rl ⟨sa0x3,rfl,rfl⟩
 refine Cd.condT rfl hb15<|Cd.region<|mv1 rfl<|mv1 rfl<|lr (Ev.nilCheck rfl)<|lr (Ev.fo 4 rfl U95 rfl Z43 rfl rfl)<|lr (Ev.load (i:=4) rfl rfl I43 (v:=Sl.v sa0x3) ((WldR.get_way gh0).off rfl))<|mv1 rfl ?_
 refine Lst.buildSlice (α:=Str) (xs:=([r6.1]:List Str)) (pv:=[(0,Str.v r6.1)]) rfl rfl (by decide) ⟨rfl,rfl,trivial⟩ (run_buildSlice (α:=Str) (z0:=([]:Str)) (xs:=([r6.1]:List Str)) U43 Z9 Tryz.zeroValue9 rfl rfl rfl (by decide) rfl (fill_one rfl rfl)) rfl rfl (by decide) (fun s16 _=>?_)
 obtain ⟨u18,h19,H⟩:=bs H
 refine Lst.append (i:=4) (α:=Str) (xs:=a0.way) (ys:=([r6.1]:List Str)) rfl rfl (by decide) rfl rfl U43 Tryz.typeInfo9 rfl rfl rfl rfl rfl rfl (rdo 0 rfl rfl rfl) rfl (room_some h19) rfl (fun s20=>?_)
 refine lr (Ev.nilCheck rfl)<|lr (Ev.fo 4 rfl U95 rfl Z43 rfl rfl)<|lst 5 rfl rfl rfl Z43 (vs:=[Sl.v s20]) rfl rfl rfl (cs':=enc (WldR.mk ({a0 with way:=a0.way++([r6.1]:List Str)}:Wld) sa0x1 sa0x2 s20)) ((WldR.put_way (Put.here (vs:=[Sl.v s20]) rfl)).off rfl) rfl<|Lst.nil ?_
 obtain rfl:=si H
 exact At.ret0 (.inr rfl) rfl hF14 (sc1 rl) ⟨s20,rfl,rfl⟩
theorem world_World_Say_sim {a0:Wld} {a1:Int} {a2:Str} {ba0:Nat} {sa0x1:Sl} {ra0x1:List ProcessR} {sa0x2:Sl} {sa0x3:Sl} {r:(List Procs)×(List Str)×Wld×Int} (H:world_World_Say a0 a1 a2=some r) (w0:World) (F:Frz) (M L:List Item) (hM:M.Sublist L) (ma0x1:ra0x1.map ProcessR.v=a0.all) (na0x1:All ProcessR.frel w0 F [] ra0x1):Ok Tryz.prog w0 31 [pv ba0 0,iv a1,Str.v a2] F ((.rows (α:=Saying) 62 (List.map ProcessR.row ra0x1))::(.own sa0x1 100 8 (encs ra0x1))::(.own sa0x2 9 1 (encs a0.ordered))::(.own sa0x3 9 1 (encs a0.way))::(.blk ba0 (enc (WldR.mk a0 sa0x1 sa0x2 sa0x3)) 95)::L) (fun Fx L' v=>∃ (rs6:List ProcessR) (s9:Sl),v=iv r.2.2.2∧L'=(.rows (α:=Saying) 62 (List.map ProcessR.row rs6))::(.own sa0x1 100 8 (encs rs6))::(.own sa0x2 9 1 (encs a0.ordered))::(.own s9 9 1 (encs r.2.1))::(.blk ba0 (enc (WldR.mk ({r.2.2.1 with all:=r.1,ordered:=a0.ordered,way:=r.2.1}:Wld) sa0x1 sa0x2 s9)) 95)::L∧rs6.map ProcessR.v=r.1∧All ProcessR.frel w0 Fx [] rs6):=by
 unfold world_World_Say at H
 refine Ok.enter (m:=3) (n:=64) Tryz.func31 rfl rfl rfl (by decide)<|Cd.env (e':=[(0,pv ba0 0),(1,iv a1),(2,Str.v a2)]) rfl<|sr0<|as1 rfl<|nt0<|Cd.seq<|sr0<|mv1 rfl<|mv1 rfl ?_
 obtain ⟨r6,h7,H⟩:=bs H
 refine cl1 rfl (vs:=[pv ba0 0,iv a1]) ⟨rfl,rfl,trivial⟩ Tryz.call59 (world_World_working_sim h7 w0 _ M _ hM ma0x1 (All.monoProcessF na0x1 fl nsl))<|as1 rfl<|nsr<|mv1 rfl<|lr (Ev.neq rfl rfl)<|nt0 ?_
 rcases ic H with ⟨hb10,H⟩|⟨hb10,H⟩
 ·refine Cd.condT rfl hb10<|sr0<|mv1 rfl<|as1 rfl<|nt0 ?_
  obtain rfl:=si H
  refine Cd.ret<|At.then_ret ?_
  exact At.ret1 rfl (Res.tmp rfl) fl rl ⟨ra0x1,sa0x3,rfl,rfl,ma0x1,(All.monoProcessF na0x1 fl nsl)⟩
 refine Cd.condF rfl hb10<|Cd.skip<|At.then<|Cd.seq<|Cd.block<|sr0<|mv1 rfl<|lr (Ev.lenStr rfl rfl U9)<|lr (Ev.gtr rfl rfl)<|as1 rfl<|nt0 ?_
 rcases ic H with ⟨hb11,H⟩|⟨hb11,H⟩
 ·refine Cd.condT rfl hb11<|sr0<|as1 rfl<|nt0 ?_
  obtain rfl:=si H
  refine Cd.ret<|At.in_ret<|At.then_ret ?_
  exact At.ret1 rfl (Res.tmp rfl) fl rl ⟨ra0x1,sa0x3,rfl,rfl,ma0x1,(All.monoProcessF na0x1 fl nsl)⟩
 refine Cd.condF rfl hb11<|sr0<|mv1 rfl<|lr (Ev.nilCheck rfl)<|lr (Ev.fo 4 rfl U95 rfl Z43 rfl rfl)<|lr (Ev.load (i:=4) rfl rfl I43 (v:=Sl.v sa0x3) ((WldR.get_way gh0).off rfl))<|lr (Ev.lenS (α:=Str) (xs:=a0.way) (by decide) rfl rfl U43 (rdo 3 rfl rfl rfl))<|lr (Ev.eql rfl rfl)<|as1 rfl<|nt0 ?_
 rcases ic H with ⟨hb12,H⟩|⟨hb12,H⟩
 ·refine Cd.condT rfl hb12<|sr0<|as1 rfl<|nt0 ?_
  obtain rfl:=si H
  refine Cd.ret<|At.in_ret<|At.then_ret ?_
  exact At.ret1 rfl (Res.tmp rfl) fl rl ⟨ra0x1,sa0x3,rfl,rfl,ma0x1,(All.monoProcessF na0x1 fl nsl)⟩
 refine Cd.condF rfl hb12<|Cd.skip<|At.in_normal<|At.then<|sr0<|mv1 rfl<|lr (Ev.nilCheck rfl)<|lr (Ev.fo 2 rfl U95 rfl Z93 rfl rfl)<|lr (Ev.load (i:=4) rfl rfl I93 (v:=Sl.v sa0x1) ((WldR.get_all gh0).off rfl))<|mv1 rfl ?_
 obtain ⟨x13,h14,H⟩:=bs H
 have g15:=lat_some h14
 obtain ⟨⟨r16v,r16h1,⟨r16_2v,r16_2h1⟩,⟨r16_3v,r16_3h1⟩,⟨r16_4v,r16_4h1⟩⟩,r16g,r16e,r16m⟩:=map_get ma0x1 g15.2.2
 obtain rfl:x13=r16v:=r16e.symm
 have r16q:ProcessR.frel w0 _ _ (ProcessR.mk x13 r16h1 (FromR.mk r16_2v r16_2h1) (ToR.mk r16_3v r16_3h1) (ToR.mk r16_4v r16_4h1)):=na0x1 _ r16m
 obtain ⟨r16_i2,r16_i3,r16_i4⟩:=r16q
 obtain ⟨r16_2e,r16_2q⟩:=r16_i2
 obtain rfl:r16_2v=x13.from_:=r16_2e
 have r16_2_f1:Rd w0 _ _ _ _:=r16_2q
 obtain ⟨r16_3e,r16_3q⟩:=r16_i3
 obtain rfl:r16_3v=x13.to:=r16_3e
 have r16_3_f1:Rd w0 _ _ _ _:=r16_3q
 obtain ⟨r16_4e,r16_4q⟩:=r16_i4
 obtain rfl:r16_4v=x13.orders:=r16_4e
 have r16_4_f1:Rd w0 _ _ _ _:=r16_4q
 have r16wg:=map_at ProcessR.row r16g
 refine lr (Ev.indexS (α:=ProcessR) (xs:=ra0x1) rfl rfl U93 Z100 rfl (by decide) (rdo 1 rfl rfl rfl) g15.1 (by have:=map_len ma0x1; omega))<|lr (Ev.fieldS (α:=ProcessR) (f':=a1.toNat * 8+2) rfl (rdo 1 rfl rfl rfl) ((Get.elemN (s:=8) rfl r16g gh0).off (by omega)) rfl U100 rfl Z45 rfl rfl rfl)<|lr (Ev.loadSA (α:=ProcessR) rfl (rdo 1 rfl rfl rfl) I45 Z45 (ch:=enc (FromR.mk x13.from_ r16_2h1)) el (by decide) ((Get.elemN (s:=8) rfl r16g (ProcessR.get_from_ gh0)).off (by omega)))<|mv1 rfl ?_
 obtain ⟨r17,h18,H⟩:=bs H
 refine cl rfl (vs:=[.agg (enc (FromR.mk x13.from_ r16_2h1)).toArray,Str.v a2]) ⟨rfl,rfl,trivial⟩ Tryz.call60 (lane_Put_sim h18 w0 _ M _ (sc4 (sc1 hM)) (r16_2_f1.mono fl nsl)) (fun F21 L' v hF22 hv=>?_)
 obtain ⟨s19,rfl,rfl⟩:=hv
 refine mv1 rfl<|lr (Ev.extract rfl rfl)<|lr (Ev.extract rfl rfl)<|Lst.addNil 9 1 ?_
 refine Lst.alloc (cs:=enc (FromR.mk ({From.zero with Late:=([]:List Str)}:From) Sl.nil)) rfl rfl (by decide) Tryz.zeroValue45 rfl (fun b24=>?_)
 refine lst 0 rfl rfl rfl Z45 (vs:=enc (FromR.mk r17.1 s19)) rfl el (Enc.one _) (cs':=enc (FromR.mk r17.1 s19)) phl rfl<|as1 rfl<|nt0<|Cd.seq<|sr0<|mv1 rfl<|lr (Ev.neq rfl rfl)<|nt0 ?_
 rcases ic H with ⟨hb26,H⟩|⟨hb26,H⟩
 ·refine Cd.condT rfl hb26<|sr0<|mv1 rfl<|as1 rfl<|nt0 ?_
  obtain rfl:=si H
  refine Cd.ret<|At.then_ret ?_
  exact At.ret1 rfl (Res.tmp rfl) hF22 (sc1 (sc2 rl)) ⟨ra0x1,sa0x3,rfl,rfl,ma0x1,(All.monoProcessF na0x1 hF22 nsl)⟩
 refine Cd.condF rfl hb26<|Cd.skip<|At.then<|Cd.seq<|Cd.tail 8 (by kernel_rfl) (by kernel_rfl)<|qr (Ev.move rfl)<|qr (Ev.nilCheck rfl)<|qr (Ev.fo 2 rfl U95 rfl Z93 rfl rfl)<|qr (Ev.load (i:=7) rfl rfl I93 (v:=Sl.v sa0x1) ((WldR.get_all gh0).off rfl))<|qr (Ev.move rfl)<|qr (Ev.loadA (i:=0) rfl rfl I45 Z45 (ch:=enc (FromR.mk r17.1 s19)) el gh0) ?_
 obtain ⟨x27,h28,H⟩:=bs H
 have g29:=lat_some h28
 obtain ⟨⟨r30v,r30h1,⟨r30_2v,r30_2h1⟩,⟨r30_3v,r30_3h1⟩,⟨r30_4v,r30_4h1⟩⟩,r30g,r30e,r30m⟩:=map_get ma0x1 g29.2.2
 let T1:=ProcessR.mk x27 r30h1 (FromR.mk x27.from_ r30_2h1) (ToR.mk x27.to r30_3h1) (ToR.mk x27.orders r30_4h1)
 let T0:=ProcessR.mk ({x27 with from_:=r17.1}:Procs) r30h1 (FromR.mk r17.1 s19) (ToR.mk x27.to r30_3h1) (ToR.mk x27.orders r30_4h1)
 obtain rfl:x27=r30v:=r30e.symm
 have r30q:ProcessR.frel w0 _ _ (ProcessR.mk x27 r30h1 (FromR.mk r30_2v r30_2h1) (ToR.mk r30_3v r30_3h1) (ToR.mk r30_4v r30_4h1)):=na0x1 _ r30m
 obtain ⟨r30_i2,r30_i3,r30_i4⟩:=r30q
 obtain ⟨r30_2e,r30_2q⟩:=r30_i2
 obtain rfl:r30_2v=x27.from_:=r30_2e
 have r30_2_f1:Rd w0 _ _ _ _:=r30_2q
 obtain ⟨r30_3e,r30_3q⟩:=r30_i3
 obtain rfl:r30_3v=x27.to:=r30_3e
 have r30_3_f1:Rd w0 _ _ _ _:=r30_3q
 obtain ⟨r30_4e,r30_4q⟩:=r30_i4
 obtain rfl:r30_4v=x27.orders:=r30_4e
 have r30_4_f1:Rd w0 _ _ _ _:=r30_4q
 have r30wg:=map_at ProcessR.row r30g
 refine qr (Ev.indexS (α:=ProcessR) (xs:=ra0x1) rfl rfl U93 Z100 rfl (by decide) (rdo 4 rfl rfl rfl) g29.1 (by have:=map_len ma0x1; omega))<|qr (Ev.fieldS (α:=ProcessR) (f':=a1.toNat * 8+2) rfl (rdo 4 rfl rfl rfl) ((Get.elemN (s:=8) rfl r30g gh0).off (by omega)) rfl U100 rfl Z45 rfl rfl rfl)<|Qt.tail ?_
 obtain ⟨p35,h36,H⟩:=Let_some H
 let T2:Item:=.blk ba0 (enc (WldR.mk ({a0 with all:=p35}:Wld) sa0x1 sa0x2 sa0x3)) 95
 have hm37:(ra0x1.set a1.toNat T0).map ProcessR.v=p35:=(map_set ma0x1 _ _).trans h36
 refine Lst.freeze (i:=2) rfl (fun F31 hF32 hz33=>?_)
 have hq34:Rd w0 F31 [] s19 r17.1.Late:=Rd.frozen hz33 rfl rfl
 have ha38:All ProcessR.frel w0 F31 [] (ra0x1.set a1.toNat T0):=All.set (All.monoProcessF na0x1 (ft hF22 hF32) nsl) (⟨⟨rfl,(hq34.mono fl nsl)⟩,⟨rfl,(r30_3_f1.mono (ft hF22 hF32) nsl)⟩,⟨rfl,(r30_4_f1.mono (ft hF22 hF32) nsl)⟩⟩)
 refine Lst.storeS (i:=3) rfl rfl rfl rfl rfl Z45 (vs:=enc (FromR.mk r17.1 s19)) rfl el (by decide) (Enc.one _) (xs':=encs (ra0x1.set a1.toNat T0)) ((Put.elemN (s:=8) (x:=T1) (y:=T0) rfl r30g (ProcessR.put_from_ (p:=T1) (l:=r17.1) phl)).off (by omega)) (L':=(.blk b24 (enc (FromR.mk r17.1 s19)) 45)::(.own Sl.nil 9 1 (encs ([]:List Str)))::(.rows (α:=Saying) 62 (List.map ProcessR.row ra0x1))::(.own sa0x1 100 8 (encs (ra0x1.set a1.toNat T0)))::(.own sa0x2 9 1 (encs a0.ordered))::(.own sa0x3 9 1 (encs a0.way))::T2::L) rfl<|Lst.its (L':=(.blk b24 (enc (FromR.mk r17.1 s19)) 45)::(.own Sl.nil 9 1 (encs ([]:List Str)))::(.rows (α:=Saying) 62 (List.map ProcessR.row (ra0x1.set a1.toNat T0)))::(.own sa0x1 100 8 (encs (ra0x1.set a1.toNat T0)))::(.own sa0x2 9 1 (encs a0.ordered))::(.own sa0x3 9 1 (encs a0.way))::T2::L) (by dsimp +zetaDelta only; rw [map_set_same (y:=T0) r30g rfl] <;> rfl)<|nt0<|Cd.seq<|Cd.tail 12 (by kernel_rfl) (by kernel_rfl)<|qr (Ev.move rfl)<|qr (Ev.move rfl)<|qr (Ev.move rfl) ?_
 obtain ⟨r39,h40,H⟩:=bs H
 refine Qt.call rfl rfl (by decide) (vs:=[pv ba0 0]) ⟨rfl,trivial⟩ Tryz.call62 (Ok.isPerm (List.Perm.trans (front_perm (i:=6) rfl) (List.Perm.trans (front_perm (i:=6) rfl) (List.Perm.trans (front_perm (i:=6) rfl) (List.Perm.trans (front_perm (i:=6) rfl) (front_perm (i:=6) rfl))))) (world_World_sequencer_sim h40 w0 _ M _ (sc2 hM) hm37 (All.monoProcessF ha38 fl nsl)))<|qr (Ev.fo 0 rfl U45 rfl Z3 rfl rfl)<|qr (Ev.load (i:=0) rfl rfl I3 (v:=iv r17.1.Base) ((FromR.get_Base gh0).off rfl))<|qr (Ev.fo 1 rfl U45 rfl Z43 rfl rfl)<|qr (Ev.load (i:=0) rfl rfl I43 (v:=Sl.v s19) ((FromR.get_Late gh0).off rfl))<|qr (Ev.lenS (α:=Str) (xs:=r17.1.Late) (by decide) rfl rfl U43 (hq34.mono fl nsl))<|qr (Ev.add rfl rfl)<|qr (Ev.sub rfl rfl)<|qr (Ev.move rfl)<|Qt.tail ?_
 obtain ⟨r43,h44,H⟩:=bs H
 refine lf 6 rfl<|lf 6 rfl<|lf 6 rfl<|lf 6 rfl<|lf 6 rfl ?_
 refine cl rfl (vs:=[pv ba0 0,iv (1:Int),iv a1,iv r39,iv (w64 ((w64 (r17.1.Base+(r17.1.Late.length:Int))) - (1:Int))),Str.v a2]) ⟨rfl,rfl,rfl,rfl,rfl,rfl,trivial⟩ Tryz.call61 (world_World_send_sim h44 w0 _ M _ (sc2 hM) hm37 (All.monoProcessF ha38 fl nsl)) (fun F46 L' v hF47 hv=>?_)
 obtain ⟨s45,rfl,rfl⟩:=hv
 refine nt0<|Cd.seq<|Cd.as (e':=[]) trivial rfl<|Cd.region<|as1 rfl<|nt0 ?_
 obtain rfl:=si H
 refine Cd.ret ?_
 exact At.ret1 rfl (Res.tmp rfl) (ft (ft hF22 hF32) hF47) (sk1 (sk4 (sc2 rl))) ⟨(ra0x1.set a1.toNat T0),s45,rfl,rfl,hm37,(All.monoProcessF ha38 hF47 nsl)⟩
theorem lane_Sends_sim {a0:From} {a1:Int} {sa0x1:Sl} {r:(List Parcel)×Int} (H:lane_Sends a0 a1=some r) (w0:World) (F:Frz) (M L:List Item) (hM:M.Sublist L) (pa0x1:Rd w0 F M sa0x1 a0.Late):Ok Tryz.prog w0 69 [.agg (enc (FromR.mk a0 sa0x1)).toArray,iv a1] F (L) (fun _ L' v=>∃ (s1:Sl),v=.tuple #[Sl.v s1,iv r.2]∧L'=(.own s1 146 2 (encs r.1))::L):=by
 unfold lane_Sends at H
 refine Ok.enter (m:=2) (n:=37) Tryz.func69 rfl rfl rfl (by decide)<|Cd.env (e':=[(0,.agg (enc (FromR.mk a0 sa0x1)).toArray),(1,iv a1)]) rfl<|sr0 ?_
 refine Lst.box rfl rfl (by decide) rfl (cs:=enc (FromR.mk a0 sa0x1)) rfl (fun b1=>?_)
 refine Lst.addNil 146 2<|as1 rfl<|as1 rfl<|nt0<|Cd.seq<|sr0<|lr (Ev.loadA (i:=1) rfl rfl I45 Z45 (ch:=enc (FromR.mk a0 sa0x1)) el gh0) ?_
 obtain ⟨r4,h5,H⟩:=bs H
 refine cl1 rfl (vs:=[.agg (enc (FromR.mk a0 sa0x1)).toArray]) ⟨rfl,trivial⟩ Tryz.call111 (lane_CheckFrom_sim h5 w0 _ M _ (sc2 hM) (pa0x1.mono fl rl))<|as1 rfl<|nsr<|mv1 rfl<|lr (Ev.neq rfl rfl)<|nt0 ?_
 rcases ic H with ⟨hb8,H⟩|⟨hb8,H⟩
 ·refine Cd.condT rfl hb8<|sr0<|mv1 rfl<|Lst.addNil 146 2<|as1 rfl<|as1 rfl<|nt0 ?_
  obtain rfl:=si H
  refine Cd.ret<|At.then_ret ?_
  exact At.ret2 rfl (Res.tmp rfl) (Res.tmp rfl) fl (sk1 (sc2 rl)) ⟨Sl.nil,rfl,rfl⟩
 refine Cd.condF rfl hb8<|Cd.skip<|At.then<|sr0<|Lst.addNil 146 2<|as1 rfl<|nt0<|Cd.seq<|sr0<|lr (Ev.fo 1 rfl U45 rfl Z43 rfl rfl)<|lr (Ev.load (i:=2) rfl rfl I43 (v:=Sl.v sa0x1) ((FromR.get_Late gh0).off rfl)) ?_
 refine lr (Ev.lenS (α:=Str) (xs:=a0.Late) (by decide) rfl rfl U43 (pa0x1.mono fl (sc2 (sc1 hM))))<|mv1 rfl<|nt0<|Cd.block ?_
 refine Cd.bound (Rd.le (α:=Str) (xs:=a0.Late) (by decide) (pa0x1.mono fl (sc2 (sc1 hM)))) (fun hN25=>?_)
 obtain ⟨ol11,H,HKl11⟩:=bs H
 refine Cd.loop (σ:=Nat×Nat×Sl×(List Parcel)) (fun (i11,k11,s12,l13)=>[(1,iv a1),(2,pv b1 0),(7,Sl.v s12),(16,Sl.v sa0x1),(17,iv (a0.Late.length:Int)),(18,iv (i11:Int))]) (fun (i11,k11,s12,l13)=>(.own s12 146 2 (encs l13))::(.own Sl.nil 146 2 (encs ([]:List Parcel)))::(.blk b1 (enc (FromR.mk a0 sa0x1)) 45)::L) (fun _=>(fun (i11,k11,s12,l13)=>rangeF (lane_Sends_B0 a0 a1) k11 i11 l13=some ol11∧i11+k11=a0.Late.length)) (fun (i11,k11,s12,l13)=>k11) (0,a0.Late.length,Sl.nil,([]:List Parcel)) ⟨rfl,rfl,rfl,rfl,rfl,rfl,trivial⟩ rfl ⟨H,by omega⟩ ?_
 rintro F14 ⟨i11,k11,s12,l13⟩ hF15 ⟨H,hik11⟩
 rcases k11 with _ | k11
 ·have hc11:decide ((i11:Int) < (a0.Late.length:Int))=false:=decide_eq_false (by omega)
  replace H:=rangeF_end H
  refine sr0<|lr (Ev.lss rfl rfl)<|nt0<|Cd.seq<|Cd.condF rfl hc11<|Cd.exit<|At.then_exit<|At.then_exit<|At.in_exit ?_
  subst H
  replace H:=HKl11
  refine At.then<|sr0<|mv1 rfl<|as1 rfl<|as1 rfl<|nt0 ?_
  obtain rfl:=si H
  refine Cd.ret ?_
  exact At.ret2 rfl (Res.tmp rfl) (Res.tmp rfl) hF15 (sk1 (sc2 rl)) ⟨s12,rfl,rfl⟩
 have hc11:decide ((i11:Int) < (a0.Late.length:Int))=true:=decide_eq_true (by omega)
 obtain ⟨c11,H,hgo11⟩:=rangeF_go H
 unfold lane_Sends_B0 at H
 try dsimp only at H
 refine sr0<|lr (Ev.lss rfl rfl)<|nt0<|Cd.seq<|Cd.condT rfl hc11<|Cd.skip<|At.then<|Cd.seq<|Cd.block<|sr0<|mv1 rfl ?_
 obtain ⟨x16,h17,H⟩:=bs H
 let T0:=({Parcel.zero with Seq:=w64 (a0.Base+(i11:Int)),Text:=x16}:Parcel)
 have g18:=lat_some h17
 refine lr (Ev.indexS (α:=Str) (xs:=a0.Late) rfl rfl U43 Z9 rfl (by decide) (pa0x1.mono hF15 (sc2 (sc1 hM))) g18.1 g18.2.1)<|lr (Ev.loadS (α:=Str) rfl (pa0x1.mono hF15 (sc2 (sc1 hM))) I9 (v:=Str.v x16) ((Get.elemN (s:=1) (x:=x16) rfl g18.2.2 gh0).off (by omega)))<|as1 rfl<|as1 rfl<|nsr<|mv1 rfl<|mv1 rfl<|lr (Ev.lss rfl rfl)<|nt0 ?_
 rcases ic2 H with ⟨hb19,H⟩|⟨hb19,H⟩
 ·refine Cd.condF rfl hb19<|Cd.skip<|At.in_normal<|At.then<|Cd.region<|lr (Ev.incr (by omega) rfl rfl)<|mv1 rfl<|Lst.nil ?_
  exact At.meet (i11+1,k11,s12,l13) hF15 ⟨rfl,rfl,rfl,rfl,rfl,rfl,trivial⟩ rfl ⟨⟨hgo11 _ (sj H),by omega⟩,nls⟩
 refine Cd.condT rfl hb19<|Cd.region<|mv1 rfl<|lr (Ev.fo 0 rfl U45 rfl Z3 rfl rfl)<|lr (Ev.load (i:=2) rfl rfl I3 (v:=iv a0.Base) ((FromR.get_Base gh0).off rfl))<|mv1 rfl<|lr (Ev.add rfl rfl)<|mv1 rfl<|lr (Ev.build (v:=.agg (enc T0).toArray) (pv:=[(0,iv (w64 (a0.Base+(i11:Int)))),(1,Str.v x16)]) ⟨rfl,rfl,⟨rfl,rfl,trivial⟩⟩ (fun w=>by kernel_rfl)) ?_
 refine Lst.buildSlice (α:=Parcel) (xs:=([T0]:List Parcel)) (pv:=[(0,.agg (enc T0).toArray)]) rfl rfl (by decide) ⟨rfl,rfl,trivial⟩ (run_buildSlice (α:=Parcel) (z0:=Parcel.zero) (xs:=([T0]:List Parcel)) U39 Z146 Tryz.zeroValue146 rfl rfl rfl (by decide) rfl (fill_one rfl rfl)) rfl rfl (by decide) (fun s20 _=>?_)
 obtain ⟨u22,h23,H⟩:=bs H
 refine Lst.append (i:=1) (α:=Parcel) (xs:=l13) (ys:=([T0]:List Parcel)) rfl rfl (by decide) rfl rfl U39 Tryz.typeInfo146 rfl rfl rfl rfl rfl rfl (rdo 0 rfl rfl rfl) rfl (room_some h23) rfl (fun s24=>?_)
 refine as1 rfl<|Lst.nil<|At.in_normal<|At.then<|Cd.region<|lr (Ev.incr (by omega) rfl rfl)<|mv1 rfl<|Lst.nil<|At.less (sc1 rl) ?_
 exact At.meet (i11+1,k11,s24,l13++([T0]:List Parcel)) hF15 ⟨rfl,rfl,rfl,rfl,rfl,rfl,trivial⟩ rfl ⟨⟨hgo11 _ (sj H),by omega⟩,nls⟩
theorem world_World_Again_sim {a0:Wld} {a1:Int} {ba0:Nat} {sa0x1:Sl} {ra0x1:List ProcessR} {sa0x2:Sl} {sa0x3:Sl} {r:(List Str)×Wld×Int} (H:world_World_Again a0 a1=some r) (w0:World) (F:Frz) (M L:List Item) (hM:M.Sublist L) (ma0x1:ra0x1.map ProcessR.v=a0.all) (na0x1:All ProcessR.frel w0 F [] ra0x1):Ok Tryz.prog w0 35 [pv ba0 0,iv a1] F ((.rows (α:=Saying) 62 (List.map ProcessR.row ra0x1))::(.own sa0x1 100 8 (encs ra0x1))::(.own sa0x2 9 1 (encs a0.ordered))::(.own sa0x3 9 1 (encs a0.way))::(.blk ba0 (enc (WldR.mk a0 sa0x1 sa0x2 sa0x3)) 95)::L) (fun _ L' v=>∃ (s6:Sl),v=iv r.2.2∧L'=(.rows (α:=Saying) 62 (List.map ProcessR.row ra0x1))::(.own sa0x1 100 8 (encs ra0x1))::(.own sa0x2 9 1 (encs a0.ordered))::(.own s6 9 1 (encs r.1))::(.blk ba0 (enc (WldR.mk ({r.2.1 with all:=a0.all,ordered:=a0.ordered,way:=r.1}:Wld) sa0x1 sa0x2 s6)) 95)::L):=by
 unfold world_World_Again at H
 refine Ok.enter (m:=2) (n:=58) Tryz.func35 rfl rfl rfl (by decide)<|Cd.env (e':=[(0,pv ba0 0),(1,iv a1)]) rfl<|sr0<|as1 rfl<|nt0<|Cd.seq<|sr0<|mv1 rfl<|mv1 rfl ?_
 obtain ⟨r6,h7,H⟩:=bs H
 refine cl1 rfl (vs:=[pv ba0 0,iv a1]) ⟨rfl,rfl,trivial⟩ Tryz.call59 (world_World_working_sim h7 w0 _ M _ hM ma0x1 (All.monoProcessF na0x1 fl nsl))<|as1 rfl<|nsr<|mv1 rfl<|lr (Ev.neq rfl rfl)<|nt0 ?_
 rcases ic H with ⟨hb10,H⟩|⟨hb10,H⟩
 ·refine Cd.condT rfl hb10<|sr0<|mv1 rfl<|as1 rfl<|nt0 ?_
  obtain rfl:=si H
  refine Cd.ret<|At.then_ret ?_
  exact At.ret1 rfl (Res.tmp rfl) fl rl ⟨sa0x3,rfl,rfl⟩
 refine Cd.condF rfl hb10<|Cd.skip<|At.then<|sr0<|mv1 rfl<|lr (Ev.nilCheck rfl)<|lr (Ev.fo 2 rfl U95 rfl Z93 rfl rfl)<|lr (Ev.load (i:=4) rfl rfl I93 (v:=Sl.v sa0x1) ((WldR.get_all gh0).off rfl))<|mv1 rfl ?_
 obtain ⟨x11,h12,H⟩:=bs H
 have g13:=lat_some h12
 obtain ⟨⟨r14v,r14h1,⟨r14_2v,r14_2h1⟩,⟨r14_3v,r14_3h1⟩,⟨r14_4v,r14_4h1⟩⟩,r14g,r14e,r14m⟩:=map_get ma0x1 g13.2.2
 obtain rfl:x11=r14v:=r14e.symm
 have r14q:ProcessR.frel w0 _ _ (ProcessR.mk x11 r14h1 (FromR.mk r14_2v r14_2h1) (ToR.mk r14_3v r14_3h1) (ToR.mk r14_4v r14_4h1)):=na0x1 _ r14m
 obtain ⟨r14_i2,r14_i3,r14_i4⟩:=r14q
 obtain ⟨r14_2e,r14_2q⟩:=r14_i2
 obtain rfl:r14_2v=x11.from_:=r14_2e
 have r14_2_f1:Rd w0 _ _ _ _:=r14_2q
 obtain ⟨r14_3e,r14_3q⟩:=r14_i3
 obtain rfl:r14_3v=x11.to:=r14_3e
 have r14_3_f1:Rd w0 _ _ _ _:=r14_3q
 obtain ⟨r14_4e,r14_4q⟩:=r14_i4
 obtain rfl:r14_4v=x11.orders:=r14_4e
 have r14_4_f1:Rd w0 _ _ _ _:=r14_4q
 have r14wg:=map_at ProcessR.row r14g
 refine lr (Ev.indexS (α:=ProcessR) (xs:=ra0x1) rfl rfl U93 Z100 rfl (by decide) (rdo 1 rfl rfl rfl) g13.1 (by have:=map_len ma0x1; omega))<|lr (Ev.fieldS (α:=ProcessR) (f':=a1.toNat * 8+2) rfl (rdo 1 rfl rfl rfl) ((Get.elemN (s:=8) rfl r14g gh0).off (by omega)) rfl U100 rfl Z45 rfl rfl rfl)<|lr (Ev.loadSA (α:=ProcessR) rfl (rdo 1 rfl rfl rfl) I45 Z45 (ch:=enc (FromR.mk x11.from_ r14_2h1)) el (by decide) ((Get.elemN (s:=8) rfl r14g (ProcessR.get_from_ gh0)).off (by omega))) ?_
 obtain ⟨r15,h16,H⟩:=bs H
 refine cl rfl (vs:=[.agg (enc (FromR.mk x11.from_ r14_2h1)).toArray,iv (4:Int)]) ⟨rfl,rfl,trivial⟩ Tryz.call69 (lane_Sends_sim h16 w0 _ M _ (sc4 (sc1 hM)) (r14_2_f1.mono fl nsl)) (fun F19 L' v hF20 hv=>?_)
 obtain ⟨s17,rfl,rfl⟩:=hv
 refine mv1 rfl<|lr (Ev.extract rfl rfl)<|lr (Ev.extract rfl rfl)<|as1 rfl<|as1 rfl<|nt0<|Cd.seq<|sr0<|mv1 rfl<|lr (Ev.lenS (α:=Parcel) (xs:=r15.1) (by decide) rfl rfl U39 (rdo 0 rfl rfl rfl))<|mv1 rfl ?_
 refine nt0<|Cd.block ?_
 refine Cd.bound (Rd.le (α:=Parcel) (xs:=r15.1) (by decide) (rdo 0 rfl rfl rfl)) (fun hN54=>?_)
 obtain ⟨ol21,H,HKl21⟩:=bs H
 refine Cd.loop (σ:=Nat×Nat×Wld×Sl×(List Str)) (fun (i21,k21,y22,s23,l24)=>[(0,pv ba0 0),(1,iv a1),(28,Sl.v s17),(29,iv (r15.1.length:Int)),(30,iv (i21:Int))]) (fun (i21,k21,y22,s23,l24)=>(.own s17 146 2 (encs r15.1))::(.rows (α:=Saying) 62 (List.map ProcessR.row ra0x1))::(.own sa0x1 100 8 (encs ra0x1))::(.own sa0x2 9 1 (encs a0.ordered))::(.own s23 9 1 (encs l24))::(.blk ba0 (enc (WldR.mk ({y22 with all:=a0.all,ordered:=a0.ordered,way:=l24}:Wld) sa0x1 sa0x2 s23)) 95)::L) (fun _=>(fun (i21,k21,y22,s23,l24)=>rangeF (world_World_Again_B0 a0 a1 r15) k21 i21 (y22,l24)=some ol21∧i21+k21=r15.1.length)) (fun (i21,k21,y22,s23,l24)=>k21) (0,r15.1.length,a0,sa0x3,a0.way) ⟨rfl,rfl,rfl,rfl,rfl,trivial⟩ rfl ⟨H,by omega⟩ ?_
 rintro F25 ⟨i21,k21,y22,s23,l24⟩ hF26 ⟨H,hik21⟩
 rcases k21 with _ | k21
 ·have hc21:decide ((i21:Int) < (r15.1.length:Int))=false:=decide_eq_false (by omega)
  replace H:=rangeF_end H
  refine sr0<|lr (Ev.lss rfl rfl)<|nt0<|Cd.seq<|Cd.condF rfl hc21<|Cd.exit<|At.then_exit<|At.then_exit<|At.in_exit ?_
  subst H
  replace H:=HKl21
  try dsimp only [Sum.elim_inl] at H
  refine At.then<|Cd.seq<|Cd.tail 13 (by kernel_rfl) (by kernel_rfl)<|qr (Ev.move rfl)<|qr (Ev.move rfl)<|qr (Ev.move rfl) ?_
  obtain ⟨r41,h42,H⟩:=bs H
  refine Qt.call rfl rfl (by decide) (vs:=[pv ba0 0]) ⟨rfl,trivial⟩ Tryz.call62 (Ok.isPerm (List.Perm.trans (front_perm (i:=5) rfl) (List.Perm.trans (front_perm (i:=5) rfl) (List.Perm.trans (front_perm (i:=5) rfl) (List.Perm.trans (front_perm (i:=5) rfl) (front_perm (i:=5) rfl))))) (world_World_sequencer_sim h42 w0 _ M _ (sc1 hM) ma0x1 (All.monoProcessF na0x1 (ft hF20 hF26) nsl)))<|qr (Ev.move rfl)<|qr (Ev.nilCheck rfl)<|qr (Ev.fo 2 rfl U95 rfl Z93 rfl rfl)<|qr (Ev.load (i:=5) rfl rfl I93 (v:=Sl.v sa0x1) ((WldR.get_all gh0).off rfl))<|qr (Ev.move rfl) ?_
  obtain ⟨x45,h46,H⟩:=bs H
  have g47:=lat_some h46
  obtain ⟨⟨r48v,r48h1,⟨r48_2v,r48_2h1⟩,⟨r48_3v,r48_3h1⟩,⟨r48_4v,r48_4h1⟩⟩,r48g,r48e,r48m⟩:=map_get ma0x1 g47.2.2
  obtain rfl:x45=r48v:=r48e.symm
  have r48q:ProcessR.frel w0 _ _ (ProcessR.mk x45 r48h1 (FromR.mk r48_2v r48_2h1) (ToR.mk r48_3v r48_3h1) (ToR.mk r48_4v r48_4h1)):=na0x1 _ r48m
  obtain ⟨r48_i2,r48_i3,r48_i4⟩:=r48q
  obtain ⟨r48_2e,r48_2q⟩:=r48_i2
  obtain rfl:r48_2v=x45.from_:=r48_2e
  have r48_2_f1:Rd w0 _ _ _ _:=r48_2q
  obtain ⟨r48_3e,r48_3q⟩:=r48_i3
  obtain rfl:r48_3v=x45.to:=r48_3e
  have r48_3_f1:Rd w0 _ _ _ _:=r48_3q
  obtain ⟨r48_4e,r48_4q⟩:=r48_i4
  obtain rfl:r48_4v=x45.orders:=r48_4e
  have r48_4_f1:Rd w0 _ _ _ _:=r48_4q
  have r48wg:=map_at ProcessR.row r48g
  refine qr (Ev.indexS (α:=ProcessR) (xs:=ra0x1) rfl rfl U93 Z100 rfl (by decide) (rdo 2 rfl rfl rfl) g47.1 (by have:=map_len ma0x1; omega))<|qr (Ev.fieldS (α:=ProcessR) (f':=a1.toNat * 8+4) rfl (rdo 2 rfl rfl rfl) ((Get.elemN (s:=8) rfl r48g gh0).off (by omega)) rfl U100 rfl Z41 rfl rfl rfl)<|qr (Ev.fieldS (α:=ProcessR) (f':=a1.toNat * 8+4+0) rfl (rdo 2 rfl rfl rfl) ((Get.elemN (s:=8) rfl r48g (ProcessR.get_to gh0)).off (by omega)) rfl U41 rfl Z3 rfl rfl rfl)<|qr (Ev.loadS (α:=ProcessR) rfl (rdo 2 rfl rfl rfl) I3 (v:=iv x45.to.Next) ((Get.elemN (s:=8) rfl r48g (ProcessR.get_to (ToR.get_Next gh0))).off (by omega)))<|Qt.tail ?_
  obtain ⟨r49,h50,H⟩:=bs H
  refine lf 5 rfl<|lf 5 rfl<|lf 5 rfl<|lf 5 rfl<|lf 5 rfl ?_
  refine cl rfl (vs:=[pv ba0 0,iv (3:Int),iv a1,iv r41,iv x45.to.Next,Str.v ([]:Str)]) ⟨rfl,rfl,rfl,rfl,rfl,rfl,trivial⟩ Tryz.call61 (world_World_send_sim h50 w0 _ M _ (sc1 hM) ma0x1 (All.monoProcessF na0x1 (ft hF20 hF26) nsl)) (fun F52 L' v hF53 hv=>?_)
  obtain ⟨s51,rfl,rfl⟩:=hv
  refine nsr<|as1 rfl<|nt0 ?_
  obtain rfl:=si H
  refine Cd.ret ?_
  exact At.ret1 rfl (Res.tmp rfl) (ft (ft hF20 hF26) hF53) (sk1 (sk4 (sc1 rl))) ⟨s51,rfl,rfl⟩
 have hc21:decide ((i21:Int) < (r15.1.length:Int))=true:=decide_eq_true (by omega)
 obtain ⟨c21,H,hgo21⟩:=rangeF_go H
 unfold world_World_Again_B0 at H
 try dsimp only at H
 refine sr0<|lr (Ev.lss rfl rfl)<|nt0<|Cd.seq<|Cd.condT rfl hc21<|Cd.skip<|At.then<|Cd.seq<|Cd.block<|sr0 ?_
 obtain ⟨x27,h28,H⟩:=bs H
 have g29:=lat_some h28
 refine lr (Ev.indexS (α:=Parcel) (xs:=r15.1) rfl rfl U39 Z146 rfl (by decide) (rdo 0 rfl rfl rfl) g29.1 g29.2.1)<|lr (Ev.loadSA (α:=Parcel) rfl (rdo 0 rfl rfl rfl) I146 Z146 (ch:=enc x27) el (by decide) ((Get.elemN (s:=2) (x:=x27) rfl g29.2.2 gh0).off (by omega))) ?_
 refine Lst.alloc (cs:=enc Parcel.zero) rfl rfl (by decide) Tryz.zeroValue146 rfl (fun b30=>?_)
 refine lst 0 rfl rfl rfl Z146 (vs:=enc x27) rfl el (Enc.one _) (cs':=enc x27) phl rfl<|nt0<|Cd.tail 8 (by kernel_rfl) (by kernel_rfl)<|qr (Ev.move rfl)<|qr (Ev.move rfl)<|qr (Ev.move rfl) ?_
 obtain ⟨r32,h33,H⟩:=bs H
 refine Qt.call rfl rfl (by decide) (vs:=[pv ba0 0]) ⟨rfl,trivial⟩ Tryz.call62 (Ok.isPerm (List.Perm.trans (front_perm (i:=6) rfl) (List.Perm.trans (front_perm (i:=6) rfl) (List.Perm.trans (front_perm (i:=6) rfl) (List.Perm.trans (front_perm (i:=6) rfl) (front_perm (i:=6) rfl))))) (world_World_sequencer_sim h33 w0 _ M _ (sc2 hM) ma0x1 (All.monoProcessF na0x1 (ft hF20 hF26) nsl)))<|qr (Ev.fo 0 rfl U146 rfl Z3 rfl rfl)<|qr (Ev.load (i:=0) rfl rfl I3 (v:=iv x27.Seq) ((Parcel.get_Seq gh0).off rfl))<|qr (Ev.fo 1 rfl U146 rfl Z9 rfl rfl)<|qr (Ev.load (i:=0) rfl rfl I9 (v:=Str.v x27.Text) ((Parcel.get_Text gh0).off rfl))<|Qt.tail ?_
 obtain ⟨r36,h37,H⟩:=bs H
 refine lf 6 rfl<|lf 6 rfl<|lf 6 rfl<|lf 6 rfl<|lf 6 rfl ?_
 refine cl rfl (vs:=[pv ba0 0,iv (1:Int),iv a1,iv r32,iv x27.Seq,Str.v x27.Text]) ⟨rfl,rfl,rfl,rfl,rfl,rfl,trivial⟩ Tryz.call61 (world_World_send_sim h37 w0 _ M _ (sc2 hM) ma0x1 (All.monoProcessF na0x1 (ft hF20 hF26) nsl)) (fun F39 L' v hF40 hv=>?_)
 obtain ⟨s38,rfl,rfl⟩:=hv
 refine Lst.nil<|At.in_normal<|At.then<|Cd.region<|lr (Ev.incr (by omega) rfl rfl)<|mv1 rfl<|Lst.nil<|af 6 rfl<|At.less (sk2 (sk4 (sc1 rl))) ?_
 exact At.meet (i21+1,k21,({r36.2 with all:=a0.all,ordered:=a0.ordered,way:=r36.1}:Wld),s38,r36.1) (ft hF26 hF40) ⟨rfl,rfl,rfl,rfl,rfl,trivial⟩ rfl ⟨⟨hgo21 _ (sj H),by omega⟩,nls⟩
theorem slices_Delete_string_string_sim {a0:List Str} {a1:Int} {a2:Int} {sa0:Sl} {r:(List Str)} (H:slices_Delete_string_string a0 a1 a2=some r) (w0:World) (F:Frz) (M L:List Item) (hM:M.Sublist L):Ok Tryz.prog w0 63 [Sl.v sa0,iv a1,iv a2] F ((.own sa0 9 1 (encs a0))::L) (fun _ L' v=>∃ (s2:Sl),v=Sl.v s2∧L'=(.own s2 9 1 (encs r))::L):=by
 unfold slices_Delete_string_string at H
 refine Ok.enter (m:=3) (n:=33) Tryz.func63 rfl rfl rfl (by decide)<|Cd.env (e':=[(0,Sl.v sa0),(1,iv a1),(2,iv a2)]) rfl<|sr0<|Lst.addNil 9 1<|as1 rfl<|nsr<|mv1 rfl<|mv1 rfl<|mv1 rfl<|mv1 rfl<|lr (Ev.lenS (α:=Str) (xs:=a0) (by decide) rfl rfl U43 (rdo 1 rfl rfl rfl)) ?_
 obtain ⟨m3,h4,H⟩:=bs H
 have g5:=cutL_some h4
 refine Lst.capOwn (α:=Str) (i:=1) (xs:=a0) rfl rfl rfl (by decide) (fun hl6 hc7=>?_)
 refine lr (Ev.cut3 (i:=a1) (j:=a2) (k:=(a0.length:Int)) rfl rfl rfl rfl U43 Z9 g5.1.1 g5.1.2.1 g5.1.2.2 (Int.ofNat_le.2 hc7))<|nt0<|Cd.seq<|sr0<|mv1 rfl<|mv1 rfl<|lr (Ev.eql rfl rfl)<|nt0 ?_
 rcases ic H with ⟨hb8,H⟩|⟨hb8,H⟩
 ·refine Cd.condT rfl hb8<|sr0<|mv1 rfl<|as1 rfl<|nt0 ?_
  obtain rfl:=si H
  refine Cd.ret<|At.then_ret ?_
  exact At.ret1 rfl (Res.tmp rfl) fl (sc1 rl) ⟨sa0,rfl,rfl⟩
 refine Cd.condF rfl hb8<|Cd.skip<|At.then<|sr0<|mv1 rfl<|lr (Ev.lenS (α:=Str) (xs:=a0) (by decide) rfl rfl U43 (rdo 1 rfl rfl rfl))<|as1 rfl<|nt0<|Cd.seq<|Cd.tail 6 (by kernel_rfl) (by kernel_rfl)<|qr (Ev.move rfl) ?_
 refine qr (Ev.move rfl) ?_
 obtain ⟨m9,h10,H⟩:=bs H
 obtain ⟨g11,gl12⟩:=cutL_some h10
 try dsimp only at g11
 refine qr (Ev.cut (α:=Str) (xs:=a0) (i:=0) (j:=a1) rfl rfl rfl U43 Z9 rfl (by decide) (rdo 1 rfl rfl rfl) g11.1 g11.2.1 g11.2.2)<|qr (Ev.move rfl)<|qr (Ev.move rfl) ?_
 obtain ⟨m13,h14,H⟩:=bs H
 obtain ⟨g15,gl16⟩:=cutL_some h14
 try dsimp only at g15
 refine qr (Ev.cut (α:=Str) (xs:=a0) (i:=a2) (j:=(a0.length:Int)) rfl rfl rfl U43 Z9 rfl (by decide) (rdo 1 rfl rfl rfl) g15.1 g15.2.1 g15.2.2)<|Qt.tail ?_
 refine Lst.capOwn (α:=Str) (i:=1) (xs:=a0) rfl rfl rfl (by decide) (fun hl17 hc18=>?_)
 refine Lst.shift (α:=Str) (k:=1) (i:=(a1:Int).toNat) (j:=(a2:Int).toNat) (xs:=a0) rfl rfl (by decide) rfl rfl U43 Tryz.typeInfo9 rfl rfl (by decide) rfl rfl (by omega) (by omega)<|as1 rfl<|nsr<|mv1 rfl<|mv1 rfl<|lr (Ev.lenS (α:=Str) (xs:=(a0.take ((a1:Int).toNat)++a0.drop ((a2:Int).toNat))) (by decide) rfl rfl U43 (rdo 1 rfl rfl rfl))<|mv1 rfl<|lr (Ev.cutBeyond (i:=((a0.take ((a1:Int).toNat)++a0.drop ((a2:Int).toNat)).length:Int)) (j:=(a0.length:Int)) rfl rfl rfl U43 Z9 (Int.natCast_nonneg _) (Int.ofNat_le.2 (shift_len (by omega) (by omega))) (Int.ofNat_le.2 hc18))<|Lst.clearBehind (α:=Str) (k:=1) (xs:=(a0.take ((a1:Int).toNat)++a0.drop ((a2:Int).toNat))) rfl rfl rfl U43 Tryz.zeroValue9 ([]:Str) rfl rfl (by decide) rfl rfl (Nat.le_refl _) hc18<|nsr<|mv1 rfl ?_
 refine as1 rfl<|nt0 ?_
 obtain rfl:=si H
 refine Cd.ret ?_
 exact At.ret1 rfl (Res.tmp rfl) fl (sc1 rl) ⟨(Sl.mk (Sl.a sa0) ((a1:Int).toNat+(a0.length - (a2:Int).toNat)) (Sl.cap sa0)),rfl,rfl⟩
theorem wire_Read_1_sim {a0:Int} {a1:Str} {ba1:Nat} {r:Int} (H:wire_Read_1 a0 a1=some r) (w0:World) (F:Frz) (M L:List Item) (hM:M.Sublist L):Ok Tryz.prog w0 117 [iv a0,pv ba1 0] F ((.blk ba1 (enc a1) 9)::L) (Is (iv r) ((.blk ba1 (enc a1) 9)::L)):=by
 unfold wire_Read_1 at H
 refine Ok.enter (m:=2) (n:=26) Tryz.func117 rfl rfl rfl (by decide)<|Cd.env (e':=[(0,iv a0),(1,pv ba1 0)]) rfl<|sr0<|as1 rfl<|nsr<|mv1 rfl<|lr (Ev.mul rfl rfl)<|lr (Ev.add rfl rfl)<|as1 rfl<|nt0<|Cd.seq ?_
 refine Cd.quiet (by kernel_rfl) (by kernel_rfl)<|qr (Ev.load (i:=0) rfl rfl I9 (v:=Str.v a1) gh0)<|qr (Ev.move rfl) ?_
 obtain ⟨x2,h3,H⟩:=bs H
 refine qr (Ev.indexStr rfl rfl U9 h3)<|qr (Ev.convIS (j:=(x2.toBitVec.toNat:Int)) rfl U5 U3 (w64_id (by omega) (by omega)))<|qr (Ev.load (i:=0) rfl rfl I9 (v:=Str.v a1) gh0)<|qr (Ev.move rfl)<|qr (Ev.add rfl rfl) ?_
 obtain ⟨x4,h5,H⟩:=bs H
 refine qr (Ev.indexStr rfl rfl U9 h5)<|qr (Ev.convIS (j:=(x4.toBitVec.toNat:Int)) rfl U5 U3 (w64_id (by omega) (by omega)))<|qr (Ev.shl64 (i:=(x4.toBitVec.toNat:Int)) (m:=8) rfl rfl)<|qr (Ev.orI (i:=(x2.toBitVec.toNat:Int)) (j:=w64 ((x4.toBitVec.toNat:Int) * 2 ^ (min 8 64))) rfl rfl)<|qr (Ev.load (i:=0) rfl rfl I9 (v:=Str.v a1) gh0)<|qr (Ev.move rfl)<|qr (Ev.add rfl rfl) ?_
 obtain ⟨x6,h7,H⟩:=bs H
 refine qr (Ev.indexStr rfl rfl U9 h7)<|qr (Ev.convIS (j:=(x6.toBitVec.toNat:Int)) rfl U5 U3 (w64_id (by omega) (by omega)))<|qr (Ev.shl64 (i:=(x6.toBitVec.toNat:Int)) (m:=16) rfl rfl)<|qr (Ev.orI (i:=w64 ((BitVec.ofInt 64 (x2.toBitVec.toNat:Int) ||| BitVec.ofInt 64 (w64 ((x4.toBitVec.toNat:Int) * 2 ^ (min 8 64)))).toNat:Int)) (j:=w64 ((x6.toBitVec.toNat:Int) * 2 ^ (min 16 64))) rfl rfl)<|qr (Ev.assign rfl)<|Qt.done<|At.then ?_
 obtain rfl:=si H
 refine Cd.ret ?_
 exact At.ret1 rfl (Res.tmp rfl) fl rl ⟨rfl,rfl⟩
theorem wire_Read_sim {a0:Str} {r:Note×Int} (H:wire_Read a0=some r) (w0:World) (F:Frz) (M L:List Item) (hM:M.Sublist L):Ok Tryz.prog w0 64 [Str.v a0] F (L) (Is (.tuple #[.agg (enc r.1).toArray,iv r.2]) (L)):=by
 unfold wire_Read at H
 refine Ok.enter (m:=1) (n:=72) Tryz.func64 rfl rfl rfl (by decide)<|Cd.env (e':=[(0,Str.v a0)]) rfl<|sr0 ?_
 refine Lst.alloc (cs:=enc Note.zero) rfl rfl (by decide) Tryz.zeroValue132 rfl (fun b1=>?_)
 let T1:Item:=.blk b1 (enc Note.zero) 132
 refine as1 rfl<|nt0<|Cd.seq<|Cd.block<|sr0<|mv1 rfl<|lr (Ev.lenStr rfl rfl U9)<|lr (Ev.gtr rfl rfl)<|as1 rfl<|nt0 ?_
 rcases ic H with ⟨hb3,H⟩|⟨hb3,H⟩
 ·refine Cd.condT rfl hb3<|sr0<|lr (Ev.build (v:=.agg (enc Note.zero).toArray) (pv:=[]) trivial (fun w=>by kernel_rfl))<|lst 0 rfl rfl rfl Z132 (vs:=enc Note.zero) rfl el (Enc.one _) (cs':=enc Note.zero) phl rfl<|as1 rfl<|nt0 ?_
  obtain rfl:=si H
  refine Cd.ret<|At.in_ret<|At.then_ret ?_
  exact At.ret2 rfl (Res.cellA (i:=0) rfl rfl I132 Z132 el) (Res.tmp rfl) fl (sc1 rl) ⟨rfl,rfl⟩
 refine Cd.condF rfl hb3<|sr0<|mv1 rfl<|lr (Ev.lenStr rfl rfl U9)<|lr (Ev.lss rfl rfl)<|as1 rfl<|nt0 ?_
 rcases ic H with ⟨hb4,H⟩|⟨hb4,H⟩
 ·refine Cd.condT rfl hb4<|sr0<|lr (Ev.build (v:=.agg (enc Note.zero).toArray) (pv:=[]) trivial (fun w=>by kernel_rfl))<|lst 0 rfl rfl rfl Z132 (vs:=enc Note.zero) rfl el (Enc.one _) (cs':=enc Note.zero) phl rfl<|as1 rfl<|nt0 ?_
  obtain rfl:=si H
  refine Cd.ret<|At.in_ret<|At.then_ret ?_
  exact At.ret2 rfl (Res.cellA (i:=0) rfl rfl I132 Z132 el) (Res.tmp rfl) fl (sc1 rl) ⟨rfl,rfl⟩
 refine Cd.condF rfl hb4<|Cd.skip<|At.in_normal<|At.then<|Cd.seq ?_
 obtain ⟨m5,h6,H⟩:=bs H
 obtain ⟨m7,h8,H⟩:=bs H
 refine Cd.headMeet (σ:=Nat) 12 (fun b12=>[(2,pv b1 0),(4,pv b12 0),(29,Str.v m7)]) (fun b12=>(.blk b12 (enc m5) 9)::T1::L) (fun _ b12=>True) (by kernel_rfl) (by kernel_rfl) (behind_sink (by kernel_rfl) (by kernel_rfl) (by kernel_rfl)) (by kernel_rfl) (fun hsel hlt=>?_) ?_
 ·refine HdJ.keep (fun w=>St w0 F (T1::L) w) (fun w h=>trivial)<|hts rfl hsel hlt 0 rl rfl (Ev.move rfl)<|hts rfl hsel hlt 1 rl rfl (Ev.move rfl)<|hts rfl hsel hlt 2 rl rfl (Ev.lenStr rfl rfl U9)<|hts rfl hsel hlt 3 rl rfl (Ev.sub rfl rfl)<|hts rfl hsel hlt 4 rl rfl (Ev.sliceStrTo rfl rfl  U9 h6)<|hts rfl hsel hlt 5 rl rfl (Ev.move rfl)<|hts rfl hsel hlt 6 rl rfl (Ev.move rfl)<|hts rfl hsel hlt 7 rl rfl (Ev.lenStr rfl rfl U9)<|hts rfl hsel hlt 8 rl rfl (Ev.sub rfl rfl)<|hts rfl hsel hlt 9 rl rfl (Ev.sliceStrFrom rfl rfl  U9 h8) ?_
  refine HdJ.o1 10 (fun inv=>?_)
  refine Lst.alloc (cs:=enc ([]:Str)) rfl rfl (by decide) Tryz.zeroValue9 rfl (fun b15=>?_)
  refine hds inv (sc1 rl) ?_
  refine HdJ.o1 11 (fun inv=>?_)
  refine lst 0 rfl rfl rfl Z9 (vs:=[Str.v m5]) rfl rfl rfl (cs':=enc m5) (Put.here (vs:=[Str.v m5]) rfl) rfl<|hds inv (sc1 rl)<|HdJ.done (by kernel_rfl) ?_
  exact At.meetN b15 fl ⟨rfl,rfl,rfl,trivial⟩ rfl trivial
 rintro F16 b12 hF17 hy
 refine as1 rfl<|nt0<|Cd.seq<|sr0<|lr (Ev.load (i:=0) rfl rfl I9 (v:=Str.v m5) gh0) ?_
 obtain ⟨r18,h19,H⟩:=bs H
 refine cl1 rfl (vs:=[Str.v m5]) ⟨rfl,trivial⟩ Tryz.call116 (wire_Sum_sim h19 w0 _ M _ (sc2 hM)) ?_
 obtain ⟨r22,h23,H⟩:=bs H
 refine cl rfl (vs:=[.int .u32 r18.toNat]) ⟨rfl,trivial⟩ Tryz.call115 (wire_four_sim h23 w0 _ M _ (sc2 hM)) (fun F26 L' v hF27 hv=>?_)
 obtain ⟨s24,rfl,rfl⟩:=hv
 let T2:Item:=.own s24 5 1 (encs r22)
 refine lr (Ev.bytesStr (ys:=r22) rfl U183 U5 U9 (rdo 0 rfl rfl rfl))<|mv1 rfl<|lr (Ev.neqStr (s:=Str.ofBytes r22) (m:=m7) rfl rfl)<|nt0 ?_
 rcases ic H with ⟨hb28,H⟩|⟨hb28,H⟩
 ·refine Cd.condT rfl hb28<|sr0<|lr (Ev.build (v:=.agg (enc Note.zero).toArray) (pv:=[]) trivial (fun w=>by kernel_rfl))<|lst 2 rfl rfl rfl Z132 (vs:=enc Note.zero) rfl el (Enc.one _) (cs':=enc Note.zero) phl rfl<|as1 rfl<|nt0 ?_
  obtain rfl:=si H
  refine Cd.ret<|At.then_ret ?_
  exact At.ret2 rfl (Res.cellA (i:=2) rfl rfl I132 Z132 el) (Res.tmp rfl) (ft hF17 hF27) (sc1 (sc2 rl)) ⟨rfl,rfl⟩
 refine Cd.condF rfl hb28<|Cd.skip<|At.then<|sr0<|lr (Ev.makeFunc (us:=[]) (vs:=[pv b12 0]) trivial ⟨rfl,trivial⟩)<|as1 rfl<|nt0<|Cd.seq ?_
 obtain ⟨x29,h30,H⟩:=bs H
 obtain ⟨x31,h32,H⟩:=bs H
 obtain ⟨x33,h34,H⟩:=bs H
 obtain ⟨r35,h36,H⟩:=bs H
 obtain ⟨r39,h40,H⟩:=bs H
 obtain ⟨m43,h44,H⟩:=bs H
 let T0:=({Note.zero with Kind:=(x29.toBitVec.toNat:Int),From:=(x31.toBitVec.toNat:Int),To:=(x33.toBitVec.toNat:Int),View:=r35,Seq:=r39,Text:=m43}:Note)
 refine Cd.headMeet (σ:=Nat) 17 (fun b48=>[(2,pv b1 0),(6,.func (.func 117) #[] #[pv b12 0]),(7,pv b48 0),(53,.agg (enc T0).toArray)]) (fun b48=>(.blk b48 (enc Note.zero) 132)::T2::(.blk b12 (enc m5) 9)::T1::L) (fun _ b48=>True) (by kernel_rfl) (by kernel_rfl) (behind_sink (by kernel_rfl) (by kernel_rfl) (by kernel_rfl)) (by kernel_rfl) (fun hsel hlt=>?_) ?_
 ·refine HdJ.keep (fun w=>St w0 F26 (T2::(.blk b12 (enc m5) 9)::T1::L) w) (fun w h=>trivial)<|hts rfl hsel hlt 0 rl rfl (Ev.load (i:=1) rfl rfl I9 (v:=Str.v m5) gh0)<|hts rfl hsel hlt 1 rl rfl (Ev.indexStr rfl rfl U9 h30)<|hts rfl hsel hlt 2 rl rfl (Ev.convIS (j:=(x29.toBitVec.toNat:Int)) rfl U5 U3 (w64_id (by omega) (by omega)))<|hts rfl hsel hlt 3 rl rfl (Ev.load (i:=1) rfl rfl I9 (v:=Str.v m5) gh0)<|hts rfl hsel hlt 4 rl rfl (Ev.indexStr rfl rfl U9 h32)<|hts rfl hsel hlt 5 rl rfl (Ev.convIS (j:=(x31.toBitVec.toNat:Int)) rfl U5 U3 (w64_id (by omega) (by omega)))<|hts rfl hsel hlt 6 rl rfl (Ev.load (i:=1) rfl rfl I9 (v:=Str.v m5) gh0)<|hts rfl hsel hlt 7 rl rfl (Ev.indexStr rfl rfl U9 h34)<|hts rfl hsel hlt 8 rl rfl (Ev.convIS (j:=(x33.toBitVec.toNat:Int)) rfl U5 U3 (w64_id (by omega) (by omega)))<|hts rfl hsel hlt 9 rl rfl (Ev.move rfl) ?_
  refine hts rfl hsel hlt 11 rl rfl (Ev.move rfl)<|hts rfl hsel hlt 13 rl rfl (Ev.load (i:=1) rfl rfl I9 (v:=Str.v m5) gh0)<|hts rfl hsel hlt 14 rl rfl (Ev.sliceStrFrom rfl rfl  U9 h44)<|HdJ.step [10,16] (by kernel_rfl) rfl ?_
  refine HdStep.c (fun inv=>?_) ?_
  ·refine lf 1 rfl<|Lst.callV1 rfl rfl (by decide) (vs:=[iv (0:Int)]) (cs:=[pv b12 0]) rfl ⟨rfl,trivial⟩ Tryz.call117 (wire_Read_1_sim h36 w0 _ M _ (sc2 hM))<|lf 2 rfl<|lf 1 rfl<|lf 2 rfl<|hds inv rl<|HdJ.step [12,16] (by kernel_rfl) rfl ?_
   refine HdStep.c (fun inv=>?_) ?_
   ·refine lf 1 rfl<|Lst.callV1 rfl rfl (by decide) (vs:=[iv (1:Int)]) (cs:=[pv b12 0]) rfl ⟨rfl,trivial⟩ Tryz.call117 (wire_Read_1_sim h40 w0 _ M _ (sc2 hM))<|lf 2 rfl<|lf 1 rfl<|lf 2 rfl<|hds inv rl<|hts rfl hsel hlt 15 rl rfl (Ev.build (v:=.agg (enc T0).toArray) (pv:=[(0,iv (x29.toBitVec.toNat:Int)),(1,iv (x31.toBitVec.toNat:Int)),(2,iv (x33.toBitVec.toNat:Int)),(3,iv r35),(4,iv r39),(6,Str.v m43)]) ⟨rfl,rfl,⟨rfl,rfl,⟨rfl,rfl,⟨rfl,rfl,⟨rfl,rfl,⟨rfl,rfl,trivial⟩⟩⟩⟩⟩⟩ (fun w=>by kernel_rfl)) ?_
    refine HdJ.o1 16 (fun inv=>?_)
    refine Lst.alloc (cs:=enc Note.zero) rfl rfl (by decide) Tryz.zeroValue132 rfl (fun b55=>?_)
    refine hds inv (sc1 rl)<|HdJ.done (by kernel_rfl) ?_
    exact At.meetN b55 fl ⟨rfl,rfl,rfl,rfl,trivial⟩ rfl trivial
   refine HdStep.c (fun inv=>?_) trivial
   refine Lst.alloc (cs:=enc Note.zero) rfl rfl (by decide) Tryz.zeroValue132 rfl (fun b56=>?_)
   refine hds inv (sc1 rl) ?_
   refine HdJ.o1 12 (fun inv=>?_)
   refine lf 2 rfl<|Lst.callV1 rfl rfl (by decide) (vs:=[iv (1:Int)]) (cs:=[pv b12 0]) rfl ⟨rfl,trivial⟩ Tryz.call117 (wire_Read_1_sim h40 w0 _ M _ (sc2 (sc1 hM)))<|lf 3 rfl<|lf 1 rfl<|lf 3 rfl<|lf 3 rfl<|hds inv (sc1 rl)<|HdJ.keep (fun w=>St w0 F26 ((.blk b56 (enc Note.zero) 132)::T2::(.blk b12 (enc m5) 9)::T1::L) w) (fun w h=>(h.weaken fl).sublist (sc1 rl))<|hts rfl hsel hlt 15 rl rfl (Ev.build (v:=.agg (enc T0).toArray) (pv:=[(0,iv (x29.toBitVec.toNat:Int)),(1,iv (x31.toBitVec.toNat:Int)),(2,iv (x33.toBitVec.toNat:Int)),(3,iv r35),(4,iv r39),(6,Str.v m43)]) ⟨rfl,rfl,⟨rfl,rfl,⟨rfl,rfl,⟨rfl,rfl,⟨rfl,rfl,⟨rfl,rfl,trivial⟩⟩⟩⟩⟩⟩ (fun w=>by kernel_rfl))<|HdJ.done (by kernel_rfl) ?_
   exact At.meetN b56 fl ⟨rfl,rfl,rfl,rfl,trivial⟩ rfl trivial
  refine HdStep.c (fun inv=>?_) trivial
  refine Lst.alloc (cs:=enc Note.zero) rfl rfl (by decide) Tryz.zeroValue132 rfl (fun b59=>?_)
  refine hds inv (sc1 rl) ?_
  refine HdJ.o1 10 (fun inv=>?_)
  refine lf 2 rfl<|Lst.callV1 rfl rfl (by decide) (vs:=[iv (0:Int)]) (cs:=[pv b12 0]) rfl ⟨rfl,trivial⟩ Tryz.call117 (wire_Read_1_sim h36 w0 _ M _ (sc2 (sc1 hM)))<|lf 3 rfl<|lf 1 rfl<|lf 3 rfl<|lf 3 rfl<|hds inv (sc1 rl) ?_
  refine HdJ.o1 12 (fun inv=>?_)
  refine lf 2 rfl<|Lst.callV1 rfl rfl (by decide) (vs:=[iv (1:Int)]) (cs:=[pv b12 0]) rfl ⟨rfl,trivial⟩ Tryz.call117 (wire_Read_1_sim h40 w0 _ M _ (sc2 (sc1 hM)))<|lf 3 rfl<|lf 1 rfl<|lf 3 rfl<|lf 3 rfl<|hds inv (sc1 rl)<|HdJ.keep (fun w=>St w0 F26 ((.blk b59 (enc Note.zero) 132)::T2::(.blk b12 (enc m5) 9)::T1::L) w) (fun w h=>(h.weaken fl).sublist (sc1 rl))<|hts rfl hsel hlt 15 rl rfl (Ev.build (v:=.agg (enc T0).toArray) (pv:=[(0,iv (x29.toBitVec.toNat:Int)),(1,iv (x31.toBitVec.toNat:Int)),(2,iv (x33.toBitVec.toNat:Int)),(3,iv r35),(4,iv r39),(6,Str.v m43)]) ⟨rfl,rfl,⟨rfl,rfl,⟨rfl,rfl,⟨rfl,rfl,⟨rfl,rfl,⟨rfl,rfl,trivial⟩⟩⟩⟩⟩⟩ (fun w=>by kernel_rfl))<|HdJ.done (by kernel_rfl) ?_
  exact At.meetN b59 fl ⟨rfl,rfl,rfl,rfl,trivial⟩ rfl trivial
 rintro F64 b48 hF65 hy
 refine lst 0 rfl rfl rfl Z132 (vs:=enc T0) rfl el (Enc.one _) (cs':=enc T0) phl rfl<|nt0<|Cd.seq<|sr0<|mv1 rfl<|nt0<|Cd.block ?_
 obtain ⟨ol66,H,HKl66⟩:=bs H
 refine Cd.loop (σ:=Nat×Nat×Note) (fun (i66,k66,y67)=>[(2,pv b1 0),(6,.func (.func 117) #[] #[pv b12 0]),(7,pv b48 0),(54,iv (i66:Int))]) (fun (i66,k66,y67)=>(.blk b48 (enc y67) 132)::T2::(.blk b12 (enc m5) 9)::T1::L) (fun _=>(fun (i66,k66,y67)=>rangeF (wire_Read_B1 m5) k66 i66 y67=some ol66∧i66+k66=6)) (fun (i66,k66,y67)=>k66) (0,6,T0) ⟨rfl,rfl,rfl,rfl,trivial⟩ rfl ⟨H,by omega⟩ ?_
 rintro F68 ⟨i66,k66,y67⟩ hF69 ⟨H,hik66⟩
 rcases k66 with _ | k66
 ·have hc66:decide ((i66:Int) < (6:Int))=false:=decide_eq_false (by omega)
  replace H:=rangeF_end H
  refine sr0<|lr (Ev.lss rfl rfl)<|nt0<|Cd.seq<|Cd.condF rfl hc66<|Cd.exit<|At.then_exit<|At.then_exit<|At.in_exit ?_
  subst H
  replace H:=HKl66
  refine At.then<|Cd.seq<|sr0<|lr (Ev.loadA (i:=0) rfl rfl I132 Z132 (ch:=enc y67) el gh0) ?_
  obtain ⟨r79,h80,H⟩:=bs H
  refine cl1 rfl (vs:=[.agg (enc y67).toArray]) ⟨rfl,trivial⟩ Tryz.call118 (wire_Check_sim h80 w0 _ M _ (sc4 hM))<|as1 rfl<|nsr<|mv1 rfl<|lr (Ev.neq rfl rfl)<|nt0 ?_
  rcases ic H with ⟨hb83,H⟩|⟨hb83,H⟩
  ·refine Cd.condT rfl hb83<|sr0<|lr (Ev.build (v:=.agg (enc Note.zero).toArray) (pv:=[]) trivial (fun w=>by kernel_rfl))<|mv1 rfl<|lst 3 rfl rfl rfl Z132 (vs:=enc Note.zero) rfl el (Enc.one _) (cs':=enc Note.zero) phl rfl<|as1 rfl<|nt0 ?_
   obtain rfl:=si H
   refine Cd.ret<|At.then_ret ?_
   exact At.ret2 rfl (Res.cellA (i:=3) rfl rfl I132 Z132 el) (Res.tmp rfl) (ft (ft (ft hF17 hF27) hF65) hF69) (sc4 rl) ⟨rfl,rfl⟩
  refine Cd.condF rfl hb83<|Cd.skip<|At.then<|sr0<|lr (Ev.loadA (i:=0) rfl rfl I132 Z132 (ch:=enc y67) el gh0)<|lst 3 rfl rfl rfl Z132 (vs:=enc y67) rfl el (Enc.one _) (cs':=enc y67) phl rfl<|as1 rfl<|nt0 ?_
  obtain rfl:=si H
  refine Cd.ret ?_
  exact At.ret2 rfl (Res.cellA (i:=3) rfl rfl I132 Z132 el) (Res.tmp rfl) (ft (ft (ft hF17 hF27) hF65) hF69) (sc4 rl) ⟨rfl,rfl⟩
 have hc66:decide ((i66:Int) < (6:Int))=true:=decide_eq_true (by omega)
 obtain ⟨c66,H,hgo66⟩:=rangeF_go H
 unfold wire_Read_B1 at H
 try dsimp only at H
 refine sr0<|lr (Ev.lss rfl rfl)<|nt0<|Cd.seq<|Cd.condT rfl hc66<|Cd.skip<|At.then<|Cd.seq<|Cd.block<|sr0<|mv1 rfl ?_
 refine as1 rfl<|nt0<|Cd.region<|mv1 rfl<|mv1 rfl<|mv1 rfl<|lr (Ev.add rfl rfl) ?_
 obtain ⟨r70,h71,H⟩:=bs H
 refine lf 2 rfl<|Lst.callV1 rfl rfl (by decide) (vs:=[iv (w64 ((2:Int)+(i66:Int)))]) (cs:=[pv b12 0]) rfl ⟨rfl,trivial⟩ Tryz.call117 (wire_Read_1_sim h71 w0 _ M _ (sc2 (sc1 hM)))<|lr (Ev.fo 5 rfl U132 rfl Z130 rfl rfl) ?_
 obtain ⟨x74,h75,H⟩:=bs H
 have g76:=vat_some h75
 refine lr (Ev.indexAddr (off':=5+(i66:Int).toNat * 1) rfl rfl U130 Z3 g76.1 g76.2.1 rfl) ?_
 obtain ⟨p77,h78,H⟩:=Let_some H
 refine lst 1 rfl rfl rfl Z3 (vs:=[iv r70]) rfl rfl rfl (cs':=enc p77) (by (try dsimp +zetaDelta only); rw [← h78]; exact (Note.put_At (Put.vecN (s:=1) (x:=x74) rfl g76.2.2 (Put.here (vs:=[iv r70]) rfl))).off (by omega)) rfl<|Lst.nil<|At.in_normal<|At.then<|Cd.region<|lr (Ev.incr (by omega) rfl rfl)<|mv1 rfl<|Lst.nil<|af 2 rfl<|af 2 rfl ?_
 exact At.meet (i66+1,k66,p77) hF69 ⟨rfl,rfl,rfl,rfl,trivial⟩ rfl ⟨⟨hgo66 _ (sj H),by omega⟩,nls⟩
theorem lane_CheckTo_sim {a0:To} {sa0x1:Sl} {r:Int} (H:lane_CheckTo a0=some r) (w0:World) (F:Frz) (M L:List Item) (hM:M.Sublist L) (pa0x1:Rd w0 F M sa0x1 a0.Early):Ok Tryz.prog w0 215 [.agg (enc (ToR.mk a0 sa0x1)).toArray] F (L) (Is (iv r) (L)):=by
 unfold lane_CheckTo at H
 refine Ok.enter (m:=1) (n:=45) Tryz.func215 rfl rfl rfl (by decide)<|Cd.env (e':=[(0,.agg (enc (ToR.mk a0 sa0x1)).toArray)]) rfl<|sr0 ?_
 refine Lst.box rfl rfl (by decide) rfl (cs:=enc (ToR.mk a0 sa0x1)) rfl (fun b1=>?_)
 refine as1 rfl<|nt0<|Cd.seq<|Cd.block<|sr0<|lr (Ev.fo 0 rfl U41 rfl Z3 rfl rfl)<|lr (Ev.load (i:=0) rfl rfl I3 (v:=iv a0.Next) ((ToR.get_Next gh0).off rfl)) ?_
 obtain ⟨r3,h4,H⟩:=bs H
 refine cl1 rfl (vs:=[iv a0.Next,iv (0:Int),iv (16777215:Int)]) ⟨rfl,rfl,rfl,trivial⟩ Tryz.call168 (lane_in_sim h4 w0 _ M _ (sc1 hM))<|lr (Ev.not rfl)<|as1 rfl<|nt0 ?_
 rcases ic H with ⟨hb7,H⟩|⟨hb7,H⟩
 ·refine Cd.condT rfl hb7<|sr0<|as1 rfl<|nt0 ?_
  obtain rfl:=si H
  refine Cd.ret<|At.in_ret<|At.then_ret ?_
  exact At.ret1 rfl (Res.tmp rfl) fl (sc1 rl) ⟨rfl,rfl⟩
 refine Cd.condF rfl hb7<|sr0<|lr (Ev.fo 1 rfl U41 rfl Z39 rfl rfl)<|lr (Ev.load (i:=0) rfl rfl I39 (v:=Sl.v sa0x1) ((ToR.get_Early gh0).off rfl))<|lr (Ev.lenS (α:=Parcel) (xs:=a0.Early) (by decide) rfl rfl U39 (pa0x1.mono fl (sc1 hM)))<|lr (Ev.gtr rfl rfl)<|as1 rfl<|nt0 ?_
 rcases ic H with ⟨hb8,H⟩|⟨hb8,H⟩
 ·refine Cd.condT rfl hb8<|sr0<|as1 rfl<|nt0 ?_
  obtain rfl:=si H
  refine Cd.ret<|At.in_ret<|At.then_ret ?_
  exact At.ret1 rfl (Res.tmp rfl) fl (sc1 rl) ⟨rfl,rfl⟩
 refine Cd.condF rfl hb8<|Cd.skip<|At.in_normal<|At.then<|sr0<|lr (Ev.fo 0 rfl U41 rfl Z3 rfl rfl)<|lr (Ev.load (i:=0) rfl rfl I3 (v:=iv a0.Next) ((ToR.get_Next gh0).off rfl))<|as1 rfl<|nt0<|Cd.seq<|sr0 ?_
 refine lr (Ev.fo 1 rfl U41 rfl Z39 rfl rfl)<|lr (Ev.load (i:=0) rfl rfl I39 (v:=Sl.v sa0x1) ((ToR.get_Early gh0).off rfl))<|lr (Ev.lenS (α:=Parcel) (xs:=a0.Early) (by decide) rfl rfl U39 (pa0x1.mono fl (sc1 hM)))<|mv1 rfl<|nt0<|Cd.block ?_
 refine Cd.bound (Rd.le (α:=Parcel) (xs:=a0.Early) (by decide) (pa0x1.mono fl (sc1 hM))) (fun hN33=>?_)
 obtain ⟨ol9,H,HKl9⟩:=andThen_some H
 refine Cd.loop (σ:=Nat×Nat×Int) (fun (i9,k9,y10)=>[(1,pv b1 0),(3,iv y10),(19,Sl.v sa0x1),(20,iv (a0.Early.length:Int)),(21,iv (i9:Int))]) (fun (i9,k9,y10)=>(.blk b1 (enc (ToR.mk a0 sa0x1)) 41)::L) (fun _=>(fun (i9,k9,y10)=>rangeM (lane_CheckTo_B1 a0) k9 i9 y10=some ol9∧i9+k9=a0.Early.length)) (fun (i9,k9,y10)=>k9) (0,a0.Early.length,a0.Next) ⟨rfl,rfl,rfl,rfl,rfl,trivial⟩ rfl ⟨H,by omega⟩ ?_
 rintro F11 ⟨i9,k9,y10⟩ hF12 ⟨H,hik9⟩
 rcases k9 with _ | k9
 ·have hc9:decide ((i9:Int) < (a0.Early.length:Int))=false:=decide_eq_false (by omega)
  replace H:=rangeM_end H
  refine sr0<|lr (Ev.lss rfl rfl)<|nt0<|Cd.seq<|Cd.condF rfl hc9<|Cd.exit<|At.then_exit<|At.then_exit<|At.in_exit ?_
  subst H
  replace H:=HKl9
  refine At.then<|sr0<|as1 rfl<|nt0 ?_
  obtain rfl:=si H
  refine Cd.ret ?_
  exact At.ret1 rfl (Res.tmp rfl) hF12 (sc1 rl) ⟨rfl,rfl⟩
 have hc9:decide ((i9:Int) < (a0.Early.length:Int))=true:=decide_eq_true (by omega)
 obtain ⟨c9,H,hgo9,hbrk9,hret9⟩:=rangeM_go H
 unfold lane_CheckTo_B1 at H
 try dsimp only at H
 refine sr0<|lr (Ev.lss rfl rfl)<|nt0<|Cd.seq<|Cd.condT rfl hc9<|Cd.skip<|At.then<|Cd.seq<|Cd.block<|sr0 ?_
 obtain ⟨x13,h14,H⟩:=bs H
 have g15:=lat_some h14
 refine lr (Ev.indexS (α:=Parcel) (xs:=a0.Early) rfl rfl U39 Z146 rfl (by decide) (pa0x1.mono hF12 (sc1 hM)) g15.1 g15.2.1)<|lr (Ev.loadSA (α:=Parcel) rfl (pa0x1.mono hF12 (sc1 hM)) I146 Z146 (ch:=enc x13) el (by decide) ((Get.elemN (s:=2) (x:=x13) rfl g15.2.2 gh0).off (by omega))) ?_
 refine Lst.alloc (cs:=enc Parcel.zero) rfl rfl (by decide) Tryz.zeroValue146 rfl (fun b16=>?_)
 refine lst 0 rfl rfl rfl Z146 (vs:=enc x13) rfl el (Enc.one _) (cs':=enc x13) phl rfl<|nt0<|Cd.seq<|sr0<|lr (Ev.fo 0 rfl U146 rfl Z3 rfl rfl)<|lr (Ev.load (i:=0) rfl rfl I3 (v:=iv x13.Seq) ((Parcel.get_Seq gh0).off rfl))<|mv1 rfl<|lr (Ev.leq rfl rfl)<|mv1 rfl ?_
 obtain ⟨o18,H,HKo18⟩:=bs H
 refine Lst.join (σ:=Bool) 7 (fun y19=>[(1,pv b1 0),(3,iv y10),(5,pv b16 0),(19,Sl.v sa0x1),(20,iv (a0.Early.length:Int)),(21,iv (i9:Int)),(36,.bool y19)]) (fun y19=>(.blk b16 (enc x13) 146)::(.blk b1 (enc (ToR.mk a0 sa0x1)) 41)::L) (fun _ y19=>y19=o18) ?_ ?_
 ·rcases ic H with ⟨hb20,H⟩|⟨hb20,H⟩
  ·refine lsk rfl hb20<|lsk rfl hb20<|lsk rfl hb20<|lsk rfl hb20<|lsk rfl hb20<|lsk rfl hb20<|lr (Ev.pickT rfl hb20 rfl)<|Lst.nil ?_
   exact At.meet true fl ⟨rfl,rfl,rfl,rfl,rfl,rfl,rfl,trivial⟩ rfl (si H)
  refine lg hb20 (Ev.fo 0 rfl U146 rfl Z3 rfl rfl)<|lg hb20 (Ev.load (i:=0) rfl rfl I3 (v:=iv x13.Seq) ((Parcel.get_Seq gh0).off rfl))<|lg hb20 (Ev.fo 0 rfl U41 rfl Z3 rfl rfl)<|lg hb20 (Ev.load (i:=1) rfl rfl I3 (v:=iv a0.Next) ((ToR.get_Next gh0).off rfl))<|lg hb20 (Ev.add rfl rfl)<|lg hb20 (Ev.geq rfl rfl)<|lr (Ev.pickF rfl hb20 rfl)<|Lst.nil ?_
  exact At.meet (decide (x13.Seq≥(w64 (a0.Next+(16:Int))))) fl ⟨rfl,rfl,rfl,rfl,rfl,rfl,rfl,trivial⟩ rfl (si H)
 rintro F21 y19 hF22 hy
 subst hy
 replace H:=HKo18
 refine mv1 rfl ?_
 obtain ⟨o23,H,HKo23⟩:=bs H
 refine Lst.join (σ:=Bool) 4 (fun y24=>[(1,pv b1 0),(3,iv y10),(5,pv b16 0),(19,Sl.v sa0x1),(20,iv (a0.Early.length:Int)),(21,iv (i9:Int)),(41,.bool y24)]) (fun y24=>(.blk b16 (enc x13) 146)::(.blk b1 (enc (ToR.mk a0 sa0x1)) 41)::L) (fun _ y24=>y24=o23) ?_ ?_
 ·rcases ic H with ⟨hb25,H⟩|⟨hb25,H⟩
  ·refine lsk rfl hb25<|lsk rfl hb25<|lsk rfl hb25<|lr (Ev.pickT rfl hb25 rfl)<|Lst.nil ?_
   exact At.meet true fl ⟨rfl,rfl,rfl,rfl,rfl,rfl,rfl,trivial⟩ rfl (si H)
  refine lg hb25 (Ev.fo 1 rfl U146 rfl Z9 rfl rfl)<|lg hb25 (Ev.load (i:=0) rfl rfl I9 (v:=Str.v x13.Text) ((Parcel.get_Text gh0).off rfl)) ?_
  obtain ⟨r26,h27,H⟩:=bs H
  refine Lst.call1G rfl rfl rfl hb25 rfl (by decide) (vs:=[Str.v x13.Text]) ⟨rfl,trivial⟩ Tryz.call112 (lane_long_sim h27 w0 _ M _ (sc2 hM))<|lr (Ev.pickF rfl hb25 rfl)<|Lst.nil ?_
  exact At.meet r26 fl ⟨rfl,rfl,rfl,rfl,rfl,rfl,rfl,trivial⟩ rfl (si H)
 rintro F30 y24 hF31 hy
 subst hy
 replace H:=HKo23
 refine nt0 ?_
 rcases ic H with ⟨hb32,H⟩|⟨hb32,H⟩
 ·refine Cd.condT rfl hb32<|sr0<|as1 rfl<|nt0 ?_
  have H:=hret9 _ (sj H)
  subst H
  replace H:=HKl9
  obtain rfl:=si H
  refine Cd.ret<|At.then_ret<|At.in_ret<|At.then_ret<|At.then_ret<|At.in_ret<|At.then_ret ?_
  exact At.ret1 rfl (Res.tmp rfl) (ft (ft hF12 hF22) hF31) (sc2 rl) ⟨rfl,rfl⟩
 refine Cd.condF rfl hb32<|Cd.skip<|At.then<|Cd.region<|lr (Ev.fo 0 rfl U146 rfl Z3 rfl rfl)<|lr (Ev.load (i:=0) rfl rfl I3 (v:=iv x13.Seq) ((Parcel.get_Seq gh0).off rfl))<|as1 rfl<|Lst.nil<|At.in_normal<|At.then<|Cd.region ?_
 refine lr (Ev.incr (by omega) rfl rfl)<|mv1 rfl<|Lst.nil<|At.less (sc1 rl) ?_
 exact At.meet (i9+1,k9,x13.Seq) (ft (ft hF12 hF22) hF31) ⟨rfl,rfl,rfl,rfl,rfl,trivial⟩ rfl ⟨⟨hgo9 _ (sj H),by omega⟩,nls⟩
theorem slices_Clone_api_Parcel_api_Parcel_sim {a0:List Parcel} {sa0:Sl} {r:(List Parcel)} (H:slices_Clone_api_Parcel_api_Parcel a0=some r) (w0:World) (F:Frz) (M L:List Item) (hM:M.Sublist L) (pa0:Rd w0 F M sa0 a0):Ok Tryz.prog w0 216 [Sl.v sa0] F (L) (fun _ L' v=>∃ (s1:Sl),v=Sl.v s1∧L'=(.own s1 146 2 (encs r))::L):=by
 unfold slices_Clone_api_Parcel_api_Parcel at H
 refine Ok.enter (m:=1) (n:=8) Tryz.func216 rfl rfl rfl (by decide)<|Cd.env (e':=[(0,Sl.v sa0)]) rfl<|sr0<|Lst.addNil 146 2<|as1 rfl<|nt0<|Cd.seq<|sr0<|mv1 rfl<|lr (Ev.eqlNil rfl U39)<|nt0 ?_
 rcases Bool.eq_false_or_eq_true ((Sl.a sa0).isNone) with hb2 | hb2
 ·refine Cd.bound (Rd.isNil (α:=Parcel) (by decide) (pa0.mono fl (sc1 hM)) hb2) (fun hx9=>?_)
  rw [clone_nil hx9] at H
  refine Cd.condT rfl hb2<|sr0<|Lst.addNil 146 2<|as1 rfl<|nt0 ?_
  obtain rfl:=si H
  refine Cd.ret<|At.then_ret ?_
  exact At.ret1 rfl (Res.tmp rfl) fl (sk1 (sc1 rl)) ⟨Sl.nil,rfl,rfl⟩
 refine Cd.condF rfl hb2<|Cd.skip<|At.then<|sr0 ?_
 refine Lst.buildSlice0 rfl rfl (by decide) U39 Z146 (fun s3=>?_)
 refine mv1 rfl ?_
 obtain ⟨u5,h6,H⟩:=bs H
 refine Lst.append (i:=0) (α:=Parcel) (xs:=([]:List Parcel)) (ys:=a0) rfl rfl (by decide) rfl rfl U39 Tryz.typeInfo146 rfl rfl rfl rfl rfl rfl (pa0.mono fl (sc2 hM)) rfl (room_some h6) rfl (fun s7=>?_)
 refine as1 rfl<|nt0 ?_
 obtain rfl:=si H
 refine Cd.ret ?_
 exact At.ret1 rfl (Res.tmp rfl) fl (sk1 (sc1 rl)) ⟨s7,rfl,rfl⟩
theorem lane_Take_1_sim {a0:Parcel} {a1:Int} {r:Int} (H:lane_Take_1 a0 a1=some r) (w0:World) (F:Frz) (M L:List Item) (hM:M.Sublist L):Ok Tryz.prog w0 218 [.agg (enc a0).toArray,iv a1] F (L) (Is (iv r) (L)):=by
 unfold lane_Take_1 at H
 refine Ok.enter (m:=2) (n:=9) Tryz.func218 rfl rfl rfl (by decide)<|Cd.env (e':=[(0,.agg (enc a0).toArray),(1,iv a1)]) rfl<|sr0 ?_
 refine Lst.box rfl rfl (by decide) rfl (cs:=enc a0) rfl (fun b1=>?_)
 refine as1 rfl<|nsr<|lr (Ev.fo 0 rfl U146 rfl Z3 rfl rfl)<|lr (Ev.load (i:=0) rfl rfl I3 (v:=iv a0.Seq) ((Parcel.get_Seq gh0).off rfl))<|mv1 rfl<|lr (Ev.sub rfl rfl)<|as1 rfl<|nt0 ?_
 obtain rfl:=si H
 refine Cd.ret ?_
 exact At.ret1 rfl (Res.tmp rfl) fl (sc1 rl) ⟨rfl,rfl⟩
theorem slices_BinarySearchFunc_api_Parcel_api_Parcel_int_Take_1_sim {fu:Nat} {a0:List Parcel} {a1:Int} {sa0:Sl} {r:Int×Bool} (H:slices_BinarySearchFunc_api_Parcel_api_Parcel_int_Take_1 fu a0 a1=some r) (w0:World) (F:Frz) (M L:List Item) (hM:M.Sublist L) (pa0:Rd w0 F M sa0 a0):Ok Tryz.prog w0 217 [Sl.v sa0,iv a1,.func (.func 218) #[] #[]] F (L) (Is (.tuple #[iv r.1,.bool r.2]) (L)):=by
 unfold slices_BinarySearchFunc_api_Parcel_api_Parcel_int_Take_1 at H
 refine Ok.enter (m:=3) (n:=49) Tryz.func217 rfl rfl rfl (by decide)<|Cd.env (e':=[(0,Sl.v sa0),(1,iv a1),(2,.func (.func 218) #[] #[])]) rfl<|sr0<|as1 rfl<|as1 rfl<|nsr<|mv1 rfl<|lr (Ev.lenS (α:=Parcel) (xs:=a0) (by decide) rfl rfl U39 (pa0.mono fl hM))<|as1 rfl<|nsr<|mv1 rfl ?_
 refine as1 rfl<|as1 rfl<|nt0<|Cd.seq<|Cd.block ?_
 obtain ⟨ol1,H,HKl1⟩:=andThen_some H
 refine Cd.loop (σ:=Nat×Int×Int) (fun (k1,y2,y3)=>[(0,Sl.v sa0),(1,iv a1),(2,.func (.func 218) #[] #[]),(8,iv (a0.length:Int)),(9,iv y2),(10,iv y3)]) (fun (k1,y2,y3)=>L) (fun _=>(fun (k1,y2,y3)=>whileM (slices_BinarySearchFunc_api_Parcel_api_Parcel_int_Take_1_B0 a0 a1) k1 (y2,y3)=some ol1)) (fun (k1,y2,y3)=>k1) (fu,(0:Int),(a0.length:Int)) ⟨rfl,rfl,rfl,rfl,rfl,rfl,trivial⟩ rfl H ?_
 rintro F4 ⟨k1,y2,y3⟩ hF5 H
 rcases k1 with _ | k1
 ·cases H
 obtain ⟨c1,H,hgo1,hbrk1,hret1⟩:=whileM_go H
 unfold slices_BinarySearchFunc_api_Parcel_api_Parcel_int_Take_1_B0 at H
 try dsimp only at H
 refine Cd.seq<|sr0<|mv1 rfl<|mv1 rfl<|lr (Ev.lss rfl rfl)<|nt0 ?_
 rcases ic2 H with ⟨hb6,H⟩|⟨hb6,H⟩
 ·refine Cd.condF rfl hb6<|Cd.exit<|At.then_exit<|At.then_exit<|At.in_exit ?_
  have H:=hbrk1 _ (sj H)
  subst H
  replace H:=HKl1
  refine At.then<|sr0<|mv1 rfl<|mv1 rfl<|mv1 rfl<|lr (Ev.lss rfl rfl)<|mv1 rfl ?_
  obtain ⟨o7,H,HKo7⟩:=bs H
  refine Lst.join (σ:=Bool) 9 (fun y8=>[(35,iv y2),(48,.bool y8)]) (fun y8=>L) (fun _ y8=>y8=o7) ?_ ?_
  ·rcases ic2 H with ⟨hb9,H⟩|⟨hb9,H⟩
   ·refine lsk rfl hb9<|lsk rfl hb9<|lsk rfl hb9<|lsk rfl hb9<|lsk rfl hb9<|lsk rfl hb9<|lsk rfl hb9<|lsk rfl hb9<|lr (Ev.pickF rfl hb9 rfl)<|Lst.nil ?_
    exact At.meet false fl ⟨rfl,rfl,trivial⟩ rfl (si H)
   refine lg hb9 (Ev.move rfl)<|lg hb9 (Ev.move rfl)<|lg hb9 (Ev.move rfl) ?_
   obtain ⟨x10,h11,H⟩:=bs H
   have g12:=lat_some h11
   refine lg hb9 (Ev.indexS (α:=Parcel) (xs:=a0) rfl rfl U39 Z146 rfl (by decide) (pa0.mono hF5 hM) g12.1 g12.2.1)<|lg hb9 (Ev.loadSA (α:=Parcel) rfl (pa0.mono hF5 hM) I146 Z146 (ch:=enc x10) el (by decide) ((Get.elemN (s:=2) (x:=x10) rfl g12.2.2 gh0).off (by omega)))<|lg hb9 (Ev.move rfl) ?_
   obtain ⟨r13,h14,H⟩:=bs H
   refine Lst.callV1G rfl rfl rfl hb9 rfl (by decide) (vs:=[.agg (enc x10).toArray,iv a1]) (cs:=[]) rfl ⟨rfl,rfl,trivial⟩ Tryz.call218 (lane_Take_1_sim h14 w0 _ M _ hM)<|lg hb9 (Ev.eql rfl rfl)<|lr (Ev.pickT rfl hb9 rfl)<|Lst.nil ?_
   exact At.meet (r13==(0:Int)) fl ⟨rfl,rfl,trivial⟩ rfl (si H)
  rintro F17 y8 hF18 hy
  subst hy
  replace H:=HKo7
  refine as1 rfl<|as1 rfl<|nt0 ?_
  obtain rfl:=si H
  refine Cd.ret ?_
  exact At.ret2 rfl (Res.tmp rfl) (Res.tmp rfl) (ft hF5 hF18) rl ⟨rfl,rfl⟩
 refine Cd.condT rfl hb6<|Cd.skip<|At.then<|Cd.block<|sr0<|mv1 rfl<|mv1 rfl<|lr (Ev.add rfl rfl)<|lr (Ev.convTo64 rfl U3 U159)<|lr (Ev.shrU64 (i:=BitVec.ofInt 64 (w64 (y2+y3))) (m:=1) rfl rfl)<|lr (Ev.conv64 rfl U159 U3) ?_
 refine as1 rfl<|nsr<|mv1 rfl<|mv1 rfl<|mv1 rfl ?_
 obtain ⟨x19,h20,H⟩:=bs H
 have g21:=lat_some h20
 refine lr (Ev.indexS (α:=Parcel) (xs:=a0) rfl rfl U39 Z146 rfl (by decide) (pa0.mono hF5 hM) g21.1 g21.2.1)<|lr (Ev.loadSA (α:=Parcel) rfl (pa0.mono hF5 hM) I146 Z146 (ch:=enc x19) el (by decide) ((Get.elemN (s:=2) (x:=x19) rfl g21.2.2 gh0).off (by omega)))<|mv1 rfl ?_
 obtain ⟨r22,h23,H⟩:=bs H
 refine Lst.callV1 rfl rfl (by decide) (vs:=[.agg (enc x19).toArray,iv a1]) (cs:=[]) rfl ⟨rfl,rfl,trivial⟩ Tryz.call218 (lane_Take_1_sim h23 w0 _ M _ hM)<|lr (Ev.lss rfl rfl)<|nt0 ?_
 rcases ic2 H with ⟨hb26,H⟩|⟨hb26,H⟩
 ·refine Cd.condF rfl hb26<|Cd.region<|mv1 rfl<|as1 rfl<|Lst.nil<|At.in_normal ?_
  exact At.meet (k1,y2,w64 (((BitVec.ofInt 64 (w64 (y2+y3))) >>> 1).toNat:Int)) hF5 ⟨rfl,rfl,rfl,rfl,rfl,rfl,trivial⟩ rfl ⟨hgo1 _ (sj H),nls⟩
 refine Cd.condT rfl hb26<|Cd.region<|mv1 rfl<|lr (Ev.add rfl rfl)<|as1 rfl<|Lst.nil<|At.in_normal ?_
 exact At.meet (k1,w64 ((w64 (((BitVec.ofInt 64 (w64 (y2+y3))) >>> 1).toNat:Int))+(1:Int)),y3) hF5 ⟨rfl,rfl,rfl,rfl,rfl,rfl,trivial⟩ rfl ⟨hgo1 _ (sj H),nls⟩
theorem slices_Insert_api_Parcel_api_Parcel_sim {a0:List Parcel} {a1:Int} {a2:List Parcel} {s0 s2:Sl} {r:List Parcel} (H:slices_Insert_api_Parcel_api_Parcel a0 a1 a2=some r) (w0:World) (F:Frz) (M L:List Item) (hM:M.Sublist L):Ok Tryz.prog w0 219 [Sl.v s0,iv a1,Sl.v s2] F ((.own s0 146 2 (encs a0))::(.own s2 146 2 (encs a2))::L) (fun _ L' v=>∃ (s1:Sl),v=Sl.v s1∧L'=(.own s1 146 2 (encs r))::L):=by
 unfold slices_Insert_api_Parcel_api_Parcel at H
 obtain ⟨m1,h1,H⟩:=bs H
 obtain ⟨u1,h2,H⟩:=bs H
 replace H:=si H
 have g:=(cutL_some h1).1
 have hro:=room_some h2
 obtain ⟨i,rfl⟩:=Int.eq_ofNat_of_zero_le g.1
 have hi:i≤a0.length:=by omega
 rw [Int.toNat_natCast] at H
 refine Ok.enter (m:=3) (n:=95) Tryz.func219 rfl rfl rfl (by decide)<|Cd.env (e':=[(0,Sl.v s0),(1,iv (i:Int)),(2,Sl.v s2)]) rfl<|Cd.seq<|Cd.region ?_
 refine Lst.capOwn (α:=Parcel) (i:=0) (xs:=a0) rfl rfl rfl (by decide) (fun hl0 hc0=>?_)
 refine Lst.capOwn (α:=Parcel) (i:=1) (xs:=a2) rfl rfl rfl (by decide) (fun hl2 hc2=>?_)
 refine as1 rfl<|Lst.nil<|At.then<|Cd.seq<|Cd.region<|lr (Ev.move rfl)<|lr (Ev.move rfl)<|lr (Ev.cut (α:=Parcel) (xs:=a0) (i:=(i:Int)) (j:=(a0.length:Int)) rfl rfl rfl U39 Z146 rfl (by decide) (Rd.own (i:=0) rfl rfl rfl) g.1 g.2.1 g.2.2)<|Lst.nil<|At.then<|Cd.seq ?_
 refine Cd.region<|lr (Ev.move rfl)<|lr (Ev.lenS (α:=Parcel) (xs:=a2) (by decide) rfl rfl U39 (Rd.own (i:=1) rfl rfl rfl))<|as1 rfl<|Lst.nil<|At.then<|Cd.seq<|Cd.seq<|Cd.region<|lr (Ev.move rfl)<|lr (Ev.eql rfl rfl) ?_
 refine Lst.nil<|At.then ?_
 rcases Bool.eq_false_or_eq_true ((a2.length:Int)==(0:Int)) with hb | hb
 ·refine Cd.condT rfl hb<|Cd.seq<|Cd.region<|lr (Ev.move rfl)<|as1 rfl<|Lst.nil<|At.then<|Cd.ret ?_
  repeat refine At.then_ret ?_
  have e0:r=a0:=by
    have:a2=[]:=List.length_eq_zero_iff.1 (by simpa using hb)
    rw [← H,this]; simp
  exact At.ret1 (L':=(.own s0 146 2 (encs a0))::L) rfl (Res.tmp rfl) (FLe.refl _) (sk1 (sc1 rl)) ⟨s0,rfl,by rw [e0]⟩
 refine Cd.condF rfl hb<|Cd.skip<|At.then ?_
 have hm:0 < a2.length:=Nat.pos_of_ne_zero fun h=>by rw [h] at hb; cases hb
 refine Cd.seq<|Cd.region<|lr (Ev.move rfl)<|lr (Ev.lenS (α:=Parcel) (xs:=a0) (by decide) rfl rfl U39 (Rd.own (i:=0) rfl rfl rfl))<|as1 rfl<|Lst.nil<|At.then<|Cd.seq<|Cd.seq<|Cd.region<|lr (Ev.move rfl) ?_
 refine lr (Ev.move rfl)<|lr (Ev.eql rfl rfl)<|Lst.nil<|At.then ?_
 rcases Bool.eq_false_or_eq_true ((i:Int)==(a0.length:Int)) with hb2 | hb2
 ·refine Cd.condT rfl hb2<|Cd.seq<|Cd.region<|lr (Ev.move rfl)<|lr (Ev.move rfl) ?_
  refine Lst.append (i:=0) (α:=Parcel) (xs:=a0) (ys:=a2) rfl rfl (by decide) rfl rfl U39 Tryz.typeInfo146 rfl rfl rfl rfl rfl rfl (Rd.own (i:=1) rfl rfl rfl) rfl hro rfl (fun s'=>?_)
  refine Lst.its (L':=(.own s' 146 2 (encs (a0++a2)))::(.own s2 146 2 (encs a2))::L) rfl<|as1 rfl<|Lst.nil<|At.then<|Cd.ret ?_
  repeat refine At.then_ret ?_
  have e0:r=a0++a2:=by
    have:i=a0.length:=by have:=beq_iff_eq.1 hb2; omega
    rw [← H,this]; simp
  exact At.ret1 (L':=(.own s' 146 2 (encs (a0++a2)))::L) rfl (Res.tmp rfl) (FLe.refl _) (sk1 (sc1 rl)) ⟨s',rfl,by rw [e0]⟩
 refine Cd.condF rfl hb2<|Cd.skip<|At.then ?_
 have hin:i < a0.length:=by
   have:i≠a0.length:=fun h=>by rw [h] at hb2; simp at hb2
   omega
 refine Cd.seq<|Cd.seq<|Cd.region<|lr (Ev.move rfl)<|lr (Ev.move rfl)<|lr (Ev.add rfl rfl)<|lr (Ev.move rfl)<|lr (Ev.capS rfl rfl U39)<|lr (Ev.gtr rfl rfl)<|Lst.nil<|At.then ?_
 have ws:w64 ((a0.length:Int)+(a2.length:Int))=((a0.length+a2.length:Nat):Int):=by rw [w64_id (by omega) (by omega)]; rfl
 have wim:w64 ((i:Int)+(a2.length:Int))=((i+a2.length:Nat):Int):=by rw [w64_id (by omega) (by omega)]; rfl
 rcases Bool.eq_false_or_eq_true (decide (w64 ((a0.length:Int)+(a2.length:Int)) > (s0.cap:Int))) with hb3 | hb3
 ·refine Cd.condT rfl hb3 ?_
  have hgr:s0.cap < a0.length+a2.length:=by rw [ws] at hb3; have:=of_decide_eq_true hb3; omega
  have wk:w64 (w64 ((a0.length:Int)+(a2.length:Int)) - (i:Int))=((a0.length+a2.length - i:Nat):Int):=by rw [ws,w64_id (by omega) (by omega)]; omega
  refine Cd.seq<|Cd.region<|lr (Ev.move rfl)<|lr (Ev.move rfl)<|lr (Ev.cut (α:=Parcel) (xs:=a0) (i:=0) (j:=(i:Int)) rfl rfl rfl U39 Z146 rfl (by decide) (Rd.own (i:=0) rfl rfl rfl) (by omega) (by omega) (by omega))<|lr (Ev.move rfl)<|lr (Ev.move rfl)<|lr (Ev.add rfl rfl)<|lr (Ev.move rfl)<|lr (Ev.sub rfl rfl) ?_
  refine Lst.appendGrow (α:=Parcel) (j:=0) (i:=i) (k:=a0.length+a2.length - i) (xs:=a0) Parcel.zero rfl rfl (by decide) rfl (congrArg some (congrArg (Value.int .i64) wk)) U39 U3 Tryz.typeInfo146 rfl rfl rfl rfl rfl (by omega) rfl rfl rfl hi (by omega) (fun s'=>?_)
  have hfin:=insert_grow (ys:=a2) (z:=Parcel.zero) hi
  have hX1l:(a0.take i++List.replicate (a0.length+a2.length - i) Parcel.zero).length=a0.length+a2.length:=by simp; omega
  generalize hX1:a0.take i++List.replicate (a0.length+a2.length - i) Parcel.zero=X1 at hfin hX1l ⊢
  refine as1 rfl<|Lst.nil<|At.then<|Cd.seq<|Cd.region<|lr (Ev.move rfl)<|lr (Ev.move rfl)<|lr (Ev.cut (α:=Parcel) (xs:=X1) (i:=(i:Int)) (j:=(X1.length:Int)) rfl rfl rfl U39 Z146 rfl (by decide) (Rd.own (i:=0) rfl rfl rfl) (by omega) (by omega) (by omega))<|lr (Ev.move rfl)<|Lst.copy (i:=0) (α:=Parcel) (lo:=i) (hi:=X1.length) (xs:=X1) (ys:=a2) rfl rfl (by decide) rfl rfl U39 Z146 rfl (by decide) rfl rfl (Rd.own (i:=2) rfl rfl rfl) (by omega) (by omega) ?_
  have hX2l:=copyL_length (xs:=X1) (ys:=a2) (lo:=i) (hi:=X1.length) (by omega) (Nat.le_refl _)
  generalize hX2:copyL X1 i X1.length a2=X2 at hfin hX2l ⊢
  refine Lst.its (L':=(.own s' 146 2 (encs X2))::(.own s0 146 2 (encs a0))::(.own s2 146 2 (encs a2))::L) rfl<|Lst.nil<|At.then<|Cd.seq<|Cd.tail 8 (by kernel_rfl) (by kernel_rfl)<|qr (Ev.move rfl)<|qr (Ev.move rfl)<|qr (Ev.move rfl)<|qr (Ev.add rfl rfl)<|qr (Ev.cut (α:=Parcel) (xs:=X2) (i:=(w64 ((i:Int)+(a2.length:Int)))) (j:=(X2.length:Int)) rfl rfl rfl U39 Z146 rfl (by decide) (Rd.own (i:=0) rfl rfl rfl) (by rw [wim]; omega) (by rw [wim]; omega) (by omega))<|qr (Ev.move rfl) ?_
  refine qr (Ev.move rfl)<|qr (Ev.cut (α:=Parcel) (xs:=a0) (i:=(i:Int)) (j:=(a0.length:Int)) rfl rfl rfl U39 Z146 rfl (by decide) (Rd.own (i:=1) rfl rfl rfl) (by omega) (by omega) (by omega))<|Qt.tail ?_
  have hlo:(w64 ((i:Int)+(a2.length:Int))).toNat=i+a2.length:=by rw [wim]; rfl
  refine Lst.copy (i:=0) (α:=Parcel) (lo:=(w64 ((i:Int)+(a2.length:Int))).toNat) (hi:=X2.length) (xs:=X2) (ys:=a0.drop i) rfl rfl (by decide) rfl rfl U39 Z146 rfl (by decide) rfl rfl (Rd.cutEnd (by decide) (Rd.own (i:=1) rfl rfl rfl) hi) (by omega) (by omega)<|Lst.its (L':=(.own s' 146 2 (encs (copyL X2 (i+a2.length) X2.length (a0.drop i))))::(.own s0 146 2 (encs a0))::(.own s2 146 2 (encs a2))::L) (by rw [hlo]; rfl)<|Lst.nil<|At.then<|Cd.seq<|Cd.region<|lr (Ev.move rfl)<|as1 rfl<|Lst.nil<|At.then<|Cd.ret ?_
  repeat refine At.then_ret ?_
  have e0:r=copyL X2 (i+a2.length) X2.length (a0.drop i):=by rw [hfin,← H]
  exact At.ret1 (L':=(.own s' 146 2 (encs (copyL X2 (i+a2.length) X2.length (a0.drop i))))::L) rfl (Res.tmp rfl) (FLe.refl _) (sk1 (sc1 (sc1 rl))) ⟨s',rfl,by rw [e0]⟩
 refine Cd.condF rfl hb3<|Cd.skip<|At.then ?_
 have hcap:a0.length+a2.length≤s0.cap:=by rw [ws] at hb3; have:=of_decide_eq_false hb3; omega
 refine Cd.seq<|Cd.region<|lr (Ev.move rfl)<|lr (Ev.move rfl)<|lr (Ev.move rfl)<|lr (Ev.add rfl rfl)<|lr (Ev.cutTo rfl rfl ws U39 Z146 hcap) ?_
 refine Lst.extend (α:=Parcel) (j:=0) (q:=a2.length) (xs:=a0) rfl rfl rfl (by decide) hcap (by omega) (fun js hjs=>?_)
 refine as1 rfl<|Lst.nil<|At.then ?_
 obtain ⟨s1,hs1⟩:∃ s1:Sl,s1=⟨s0.a,a0.length+a2.length,s0.cap⟩:=⟨_,rfl⟩
 rw [← hs1]
 have hl1:s1.len=a0.length+a2.length:=by rw [hs1]
 refine Cd.as (e':=[(0,Sl.v s1),(1,iv (i:Int)),(2,Sl.v s2),(7,iv (a2.length:Int)),(8,iv (a0.length:Int))]) (L':=(.own s1 146 2 (encs a0++js))::(.own s2 146 2 (encs a2))::L) ⟨rfl,rfl,rfl,rfl,rfl,trivial⟩ rfl<|Cd.seq<|Cd.seq<|Cd.region<|lr (Ev.move rfl)<|lr (Ev.move rfl)<|lr (Ev.move rfl)<|lr (Ev.move rfl)<|lr (Ev.add rfl rfl)<|lr (Ev.cutFrom rfl rfl wim U39 Z146 (by omega))<|Lst.overlapsNo (t:=39) (r:=4) (i:=0) (j:=1) rfl rfl (by decide) rfl rfl (by kernel_rfl) Z146 Tryz.func253 (by kernel_rfl) (by kernel_rfl) (by kernel_rfl) (by kernel_rfl) rfl rfl (by decide) (by omega) (by omega) (by decide) ?_
 refine lr (Ev.not rfl)<|Lst.nil<|At.then<|Cd.condT rfl rfl ?_
 have hdrop:(encs a0++js).drop (i * 2)=encs (a0.drop i)++js:=by
   rw [List.drop_append_of_le_length (by rw [encs_len]; exact Nat.mul_le_mul_right _ hi),show i * 2=i * sz Parcel from rfl,← encs_drop]
 refine Cd.seq<|Cd.tail 8 (by kernel_rfl) (by kernel_rfl)<|qr (Ev.move rfl)<|qr (Ev.move rfl)<|qr (Ev.move rfl)<|qr (Ev.add rfl rfl)<|qr (Ev.cutFrom rfl rfl wim U39 Z146 (by omega))<|qr (Ev.move rfl)<|qr (Ev.move rfl)<|qr (Ev.cutFrom (q:=i) rfl rfl rfl U39 Z146 (by omega))<|Qt.tail ?_
 refine Lst.copyRaw (α:=Parcel) (i:=0) (lo:=i+a2.length) (hi:=s1.len) (ys:=a0.drop i) rfl rfl (by decide) rfl rfl U39 Z146 rfl (by decide) rfl (raw_from (i:=0) (rest:=js) rfl (by omega) hdrop rfl) (by have:(s1.cut i s1.len 2).len=s1.len - i:=rfl; rw [this,List.length_drop]; omega) (by omega) (Nat.le_refl _)<|Lst.nil<|At.then<|Cd.seq<|Cd.region<|lr (Ev.move rfl)<|lr (Ev.move rfl)<|lr (Ev.cutFrom (q:=i) rfl rfl rfl U39 Z146 (by omega))<|lr (Ev.move rfl)<|Lst.copyRaw (α:=Parcel) (i:=0) (lo:=i) (hi:=s1.len) (ys:=a2) rfl rfl (by decide) rfl rfl U39 Z146 rfl (by decide) rfl (rd_raw (Rd.own (i:=1) rfl rfl rfl) rfl) (by omega) (by omega) (Nat.le_refl _) ?_
 have hcells:((encs a0++js).take ((i+a2.length) * 2)++(encs (a0.drop i)++(encs a0++js).drop ((i+a2.length+(a0.drop i).length) * 2))).take (i * 2)++(encs a2++((encs a0++js).take ((i+a2.length) * 2)++(encs (a0.drop i)++(encs a0++js).drop ((i+a2.length+(a0.drop i).length) * 2))).drop ((i+a2.length) * 2))=encs r:=by
  have eA:encs a0=encs (a0.take i)++encs (a0.drop i):=by rw [← encs_append,List.take_append_drop]
  have lA:(encs (a0.take i)).length=i * 2:=by rw [encs_len,List.length_take,Nat.min_eq_left hi]; rfl
  have lV:(encs a2).length=a2.length * 2:=encs_len _
  have lB:(encs (a0.drop i)).length=(a0.drop i).length * 2:=encs_len _
  have:=insert_cells (V:=encs a2) (J:=js) (A:=encs (a0.take i)) (B:=encs (a0.drop i)) (by rw [lV,hjs])
  rw [lA,lV,lB,← eA,← Nat.add_mul,← Nat.add_mul] at this
  rw [← H,encs_append,encs_append]; exact this
 refine Lst.its (L':=(.own s1 146 2 (encs r))::(.own s2 146 2 (encs a2))::L) (congrArg (fun c=>Item.own s1 146 2 c::(.own s2 146 2 (encs a2))::L) hcells)<|Lst.nil<|At.then<|Cd.seq<|Cd.region<|lr (Ev.move rfl)<|as1 rfl<|Lst.nil<|At.then<|Cd.ret ?_
 repeat refine At.then_ret ?_
 exact At.ret1 (L':=(.own s1 146 2 (encs r))::L) rfl (Res.tmp rfl) (FLe.refl _) (sk1 (sc1 rl)) ⟨s1,rfl,rfl⟩
end Go.Proofs.YtchmclllcdknjaaGreatDoor
