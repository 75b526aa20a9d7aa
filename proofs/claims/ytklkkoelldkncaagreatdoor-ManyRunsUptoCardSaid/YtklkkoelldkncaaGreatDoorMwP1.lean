/-
  The functions compute their specs; printed by a program.
-/
import Derived.Test.YtklkkoelldkncaaGreatDoorMwSp
import Derived.Test.YtklkkoelldkncaaGreatDoorProg
set_option linter.unusedSimpArgs false
set_option linter.unusedVariables false
namespace Go.Proofs.YtklkkoelldkncaaGreatDoor
open Go.RowKit an
set_option linter.unusedVariables false
set_option linter.unusedSimpArgs false
set_option maxRecDepth 20000
set_option maxHeartbeats 1000000
variable {C:Co Tryz.prog}
structure cZ where
 v:fN
 h1:Sl
instance :an cZ:=⟨λp=>enc p.v.N++(enc p.h1),2,λp=>by simp only[cr,an.len];rfl,λp=>by simp only[jc,an.one,jG]⟩
abbrev U3:=@Tryz.runUnderlying3
abbrev U5:=@Tryz.runUnderlying5
abbrev U9:=@Tryz.runUnderlying9
abbrev gx:=@Tryz.runUnderlying32
abbrev rZ:=@Tryz.runUnderlying42
abbrev eB:=@Tryz.runUnderlying48
abbrev er:=@Tryz.runUnderlying50
abbrev cf:=@Tryz.runUnderlying52
abbrev eP:=@Tryz.runUnderlying54
abbrev t9:=@Tryz.runUnderlying70
abbrev Ic:=@Tryz.runUnderlying91
abbrev wA:=@Tryz.runUnderlying112
abbrev di:=@Tryz.runUnderlying114
abbrev jQ:=@Tryz.runUnderlying130
abbrev eo:=@Tryz.runUnderlying132
abbrev iC:=@Tryz.runUnderlying142
abbrev im:=@Tryz.runUnderlying157
abbrev lp:=@Tryz.runUnderlying168
abbrev fY:=@Tryz.runUnderlying174
abbrev Z3:=@Tryz.sizeOf3
abbrev Z4:=@Tryz.sizeOf4
abbrev Z5:=@Tryz.sizeOf5
abbrev Z9:=@Tryz.sizeOf9
abbrev dz:=@Tryz.sizeOf32
abbrev gQ:=@Tryz.sizeOf42
abbrev jo:=@Tryz.sizeOf48
abbrev dw:=@Tryz.sizeOf50
abbrev dL:=@Tryz.sizeOf52
abbrev ew:=@Tryz.sizeOf54
abbrev wE:=@Tryz.sizeOf112
abbrev fG:=@Tryz.sizeOf114
abbrev Q5:=@Tryz.sizeOf116
abbrev kx:=@Tryz.sizeOf130
abbrev fc:=@Tryz.sizeOf142
abbrev mZ:=@Tryz.sizeOf157
abbrev I3:=@Tryz.isAgg3
abbrev I4:=@Tryz.isAgg4
abbrev I5:=@Tryz.isAgg5
abbrev I9:=@Tryz.isAgg9
abbrev hK:=@Tryz.isAgg32
abbrev lm:=@Tryz.isAgg42
abbrev mj:=@Tryz.isAgg48
abbrev fh:=@Tryz.isAgg52
abbrev kU:=@Tryz.isAgg54
abbrev kv:=@Tryz.isAgg114
abbrev Dd:=@Tryz.isAgg116
abbrev kw:=@Tryz.isAgg130
abbrev tV:=@Tryz.isAgg142
theorem PQ{p:cZ}{k:Nat}{ch:List Value}(h:bu (enc p.v.N) k ch):bu (enc p) (0+k) ch:=dS (eW h) O
theorem ace{p:cZ}{k:Nat}{vs:List Value}{y:Int}(h:bA (enc p.v.N) k vs (enc y)):bA (enc p) (0+k) vs (enc ({p with v:={p.v with N:=y}}:cZ)):=dP (cs':=enc ({p with v:={p.v with N:=y}}:cZ)) (eE h) O
theorem Di{p:cZ}{k:Nat}{ch:List Value}(h:bu (enc p.h1) k ch):bu (enc p) (1+k) ch:=dS (bX (m:=1) el h) O
theorem acd{p:cZ}{k:Nat}{vs:List Value}{y:Sl}{l:List dJ}(h:bA (enc p.h1) k vs (enc y)):bA (enc p) (1+k) vs (enc ({p with v:={p.v with dN:=l},h1:=y}:cZ)):=dP (cs':=enc ({p with v:={p.v with dN:=l},h1:=y}:cZ)) (bU (m:=1) el h) O
def cZ.rel(w0:World)(F:bk)(L:List Item)(x:cZ):Prop:=Rd w0 F L x.h1 x.v.dN
theorem cZ.mono{w0:World}{F F':bk}{L L':List Item}{x:cZ}(h:cZ.rel w0 F L x)(hF:cS F F')(hL:L.Sublist L'):cZ.rel w0 F' L' x:=
 let h1:=h
 h1.mono hF hL
def cZ.row(x:cZ):LR dJ:=⟨x.v.dN,x.h1⟩
theorem acf{w0:World}{F:bk}{L:List Item}{rs:List cZ}(h:aL LR.rel w0 F L (List.map cZ.row rs)):aL cZ.rel w0 F L rs:=λx hx=>h (cZ.row x) (sS hx)
theorem abE{w0:World}{F F':bk}{L L':List Item}{rs:List cZ}(h:aL cZ.rel w0 F L rs)(hF:cS F F')(hL:L.Sublist L'):aL cZ.rel w0 F' L' rs:=λx hx=>cZ.mono (h x hx) hF hL
structure b7 where
 v:dk
 h1:Sl
 h3:Sl
instance :an b7:=⟨λp=>enc p.v.jB++(enc p.h1++(enc p.v.kc++(enc p.h3))),5,λp=>by simp only[cr,an.len];rfl,λp=>by simp only[jc,an.one,jG]⟩
theorem HV{p:b7}{k:Nat}{ch:List Value}(h:bu (enc p.v.jB) k ch):bu (enc p) (0+k) ch:=dS (eW h) O
theorem acw{p:b7}{k:Nat}{vs:List Value}{y:Int}(h:bA (enc p.v.jB) k vs (enc y)):bA (enc p) (0+k) vs (enc ({p with v:={p.v with jB:=y}}:b7)):=dP (cs':=enc ({p with v:={p.v with jB:=y}}:b7)) (eE h) O
theorem Dr{p:b7}{k:Nat}{ch:List Value}(h:bu (enc p.h1) k ch):bu (enc p) (1+k) ch:=dS (bX (m:=1) el (eW h)) O
theorem QP{p:b7}{k:Nat}{vs:List Value}{y:Sl}{l:List Int}(h:bA (enc p.h1) k vs (enc y)):bA (enc p) (1+k) vs (enc ({p with v:={p.v with fv:=l},h1:=y}:b7)):=dP (cs':=enc ({p with v:={p.v with fv:=l},h1:=y}:b7)) (bU (m:=1) el (eE h)) O
theorem HW{p:b7}{k:Nat}{ch:List Value}(h:bu (enc p.v.kc) k ch):bu (enc p) (2+k) ch:=dS (bX (m:=1) el (bX (m:=1) el (eW h))) O
theorem QR{p:b7}{k:Nat}{vs:List Value}{y:bh}(h:bA (enc p.v.kc) k vs (enc y)):bA (enc p) (2+k) vs (enc ({p with v:={p.v with kc:=y}}:b7)):=dP (cs':=enc ({p with v:={p.v with kc:=y}}:b7)) (bU (m:=1) el (bU (m:=1) el (eE h))) O
theorem Ds{p:b7}{k:Nat}{ch:List Value}(h:bu (enc p.h3) k ch):bu (enc p) (4+k) ch:=dS (bX (m:=1) el (bX (m:=1) el (bX (m:=2) el h))) O
theorem QQ{p:b7}{k:Nat}{vs:List Value}{y:Sl}{l:List (Vector Int 10)}(h:bA (enc p.h3) k vs (enc y)):bA (enc p) (4+k) vs (enc ({p with v:={p.v with fy:=l},h3:=y}:b7)):=dP (cs':=enc ({p with v:={p.v with fy:=l},h3:=y}:b7)) (bU (m:=1) el (bU (m:=1) el (bU (m:=2) el h))) O
def b7.rel(w0:World)(F:bk)(L:List Item)(x:b7):Prop:=Rd w0 F L x.h1 x.v.fv/\Rd w0 F L x.h3 x.v.fy
theorem b7.mono{w0:World}{F F':bk}{L L':List Item}{x:b7}(h:b7.rel w0 F L x)(hF:cS F F')(hL:L.Sublist L'):b7.rel w0 F' L' x:=
 let⟨h1,h3⟩:=h
 ⟨h1.mono hF hL,h3.mono hF hL⟩
theorem abG{w0:World}{F F':bk}{L L':List Item}{rs:List b7}(h:aL b7.rel w0 F L rs)(hF:cS F F')(hL:L.Sublist L'):aL b7.rel w0 F' L' rs:=λx hx=>b7.mono (h x hx) hF hL
structure aR where
 v:aw
 h1:Sl
instance :an aR:=⟨λp=>enc p.v.Base++(enc p.h1),2,λp=>by simp only[cr,an.len];rfl,λp=>by simp only[jc,an.one,jG]⟩
theorem tU{p:aR}{k:Nat}{ch:List Value}(h:bu (enc p.v.Base) k ch):bu (enc p) (0+k) ch:=dS (eW h) O
theorem CT{p:aR}{k:Nat}{vs:List Value}{y:Int}(h:bA (enc p.v.Base) k vs (enc y)):bA (enc p) (0+k) vs (enc ({p with v:={p.v with Base:=y}}:aR)):=dP (cs':=enc ({p with v:={p.v with Base:=y}}:aR)) (eE h) O
theorem ql{p:aR}{k:Nat}{ch:List Value}(h:bu (enc p.h1) k ch):bu (enc p) (1+k) ch:=dS (bX (m:=1) el h) O
theorem Hr{p:aR}{k:Nat}{vs:List Value}{y:Sl}{l:List Y}(h:bA (enc p.h1) k vs (enc y)):bA (enc p) (1+k) vs (enc ({p with v:={p.v with aJ:=l},h1:=y}:aR)):=dP (cs':=enc ({p with v:={p.v with aJ:=l},h1:=y}:aR)) (bU (m:=1) el h) O
def aR.rel(w0:World)(F:bk)(L:List Item)(x:aR):Prop:=Rd w0 F L x.h1 x.v.aJ
theorem aR.mono{w0:World}{F F':bk}{L L':List Item}{x:aR}(h:aR.rel w0 F L x)(hF:cS F F')(hL:L.Sublist L'):aR.rel w0 F' L' x:=
 let h1:=h
 h1.mono hF hL
def aR.row(x:aR):LR Y:=⟨x.v.aJ,x.h1⟩
theorem aca{w0:World}{F:bk}{L:List Item}{rs:List aR}(h:aL LR.rel w0 F L (List.map aR.row rs)):aL aR.rel w0 F L rs:=λx hx=>h (aR.row x) (sS hx)
theorem GG{w0:World}{F F':bk}{L L':List Item}{rs:List aR}(h:aL aR.rel w0 F L rs)(hF:cS F F')(hL:L.Sublist L'):aL aR.rel w0 F' L' rs:=λx hx=>aR.mono (h x hx) hF hL
structure am where
 v:To
 h1:Sl
instance :an am:=⟨λp=>enc p.v.Next++(enc p.h1),2,λp=>by simp only[cr,an.len];rfl,λp=>by simp only[jc,an.one,jG]⟩
theorem wy{p:am}{k:Nat}{ch:List Value}(h:bu (enc p.v.Next) k ch):bu (enc p) (0+k) ch:=dS (eW h) O
theorem Q0{p:am}{k:Nat}{vs:List Value}{y:Int}(h:bA (enc p.v.Next) k vs (enc y)):bA (enc p) (0+k) vs (enc ({p with v:={p.v with Next:=y}}:am)):=dP (cs':=enc ({p with v:={p.v with Next:=y}}:am)) (eE h) O
theorem Dv{p:am}{k:Nat}{ch:List Value}(h:bu (enc p.h1) k ch):bu (enc p) (1+k) ch:=dS (bX (m:=1) el h) O
theorem QZ{p:am}{k:Nat}{vs:List Value}{y:Sl}{l:List aP}(h:bA (enc p.h1) k vs (enc y)):bA (enc p) (1+k) vs (enc ({p with v:={p.v with bg:=l},h1:=y}:am)):=dP (cs':=enc ({p with v:={p.v with bg:=l},h1:=y}:am)) (bU (m:=1) el h) O
def am.rel(w0:World)(F:bk)(L:List Item)(x:am):Prop:=Rd w0 F L x.h1 x.v.bg
theorem am.mono{w0:World}{F F':bk}{L L':List Item}{x:am}(h:am.rel w0 F L x)(hF:cS F F')(hL:L.Sublist L'):am.rel w0 F' L' x:=
 let h1:=h
 h1.mono hF hL
def am.row(x:am):LR aP:=⟨x.v.bg,x.h1⟩
theorem acB{w0:World}{F:bk}{L:List Item}{rs:List am}(h:aL LR.rel w0 F L (List.map am.row rs)):aL am.rel w0 F L rs:=λx hx=>h (am.row x) (sS hx)
theorem Cz{w0:World}{F F':bk}{L L':List Item}{rs:List am}(h:aL am.rel w0 F L rs)(hF:cS F F')(hL:L.Sublist L'):aL am.rel w0 F' L' rs:=λx hx=>am.mono (h x hx) hF hL
structure ax where
 v:bm
 h1:Sl
 h2:aR
 h3:am
 h4:am
instance :an ax:=⟨λp=>enc p.v.ea++(enc p.h1++(enc p.h2++(enc p.h3++(enc p.h4)))),8,λp=>by simp only[cr,an.len];rfl,λp=>by simp only[jc,an.one,jG]⟩
theorem Qq{p:ax}{k:Nat}{ch:List Value}(h:bu (enc p.v.ea) k ch):bu (enc p) (0+k) ch:=dS (eW h) O
theorem Qu{p:ax}{k:Nat}{vs:List Value}{y:Bool}(h:bA (enc p.v.ea) k vs (enc y)):bA (enc p) (0+k) vs (enc ({p with v:={p.v with ea:=y}}:ax)):=dP (cs':=enc ({p with v:={p.v with ea:=y}}:ax)) (eE h) O
theorem Qr{p:ax}{k:Nat}{ch:List Value}(h:bu (enc p.h1) k ch):bu (enc p) (1+k) ch:=dS (bX (m:=1) el (eW h)) O
theorem HJ{p:ax}{k:Nat}{vs:List Value}{y:Sl}{l:List ay}(h:bA (enc p.h1) k vs (enc y)):bA (enc p) (1+k) vs (enc ({p with v:={p.v with bd:=l},h1:=y}:ax)):=dP (cs':=enc ({p with v:={p.v with bd:=l},h1:=y}:ax)) (bU (m:=1) el (eE h)) O
theorem Dn{p:ax}{k:Nat}{ch:List Value}(h:bu (enc p.h2) k ch):bu (enc p) (2+k) ch:=dS (bX (m:=1) el (bX (m:=1) el (eW h))) O
theorem Dp{p:ax}{k:Nat}{vs:List Value}{y:aR}{l:aw}(h:bA (enc p.h2) k vs (enc y)):bA (enc p) (2+k) vs (enc ({p with v:={p.v with au:=l},h2:=y}:ax)):=dP (cs':=enc ({p with v:={p.v with au:=l},h2:=y}:ax)) (bU (m:=1) el (bU (m:=1) el (eE h))) O
theorem Do{p:ax}{k:Nat}{ch:List Value}(h:bu (enc p.h3) k ch):bu (enc p) (4+k) ch:=dS (bX (m:=1) el (bX (m:=1) el (bX (m:=2) el (eW h)))) O
theorem HL{p:ax}{k:Nat}{vs:List Value}{y:am}{l:To}(h:bA (enc p.h3) k vs (enc y)):bA (enc p) (4+k) vs (enc ({p with v:={p.v with to:=l},h3:=y}:ax)):=dP (cs':=enc ({p with v:={p.v with to:=l},h3:=y}:ax)) (bU (m:=1) el (bU (m:=1) el (bU (m:=2) el (eE h)))) O
theorem Qs{p:ax}{k:Nat}{ch:List Value}(h:bu (enc p.h4) k ch):bu (enc p) (6+k) ch:=dS (bX (m:=1) el (bX (m:=1) el (bX (m:=2) el (bX (m:=2) el h)))) O
theorem HK{p:ax}{k:Nat}{vs:List Value}{y:am}{l:To}(h:bA (enc p.h4) k vs (enc y)):bA (enc p) (6+k) vs (enc ({p with v:={p.v with bw:=l},h4:=y}:ax)):=dP (cs':=enc ({p with v:={p.v with bw:=l},h4:=y}:ax)) (bU (m:=1) el (bU (m:=1) el (bU (m:=2) el (bU (m:=2) el h)))) O
def ax.rel(w0:World)(F:bk)(L:List Item)(x:ax):Prop:=Rd w0 F L x.h1 x.v.bd/\(x.h2.v=x.v.au/\aR.rel w0 F L x.h2)/\(x.h3.v=x.v.to/\am.rel w0 F L x.h3)/\(x.h4.v=x.v.bw/\am.rel w0 F L x.h4)
theorem ax.mono{w0:World}{F F':bk}{L L':List Item}{x:ax}(h:ax.rel w0 F L x)(hF:cS F F')(hL:L.Sublist L'):ax.rel w0 F' L' x:=
 let⟨h1,h2,h3,h4⟩:=h
 ⟨h1.mono hF hL,⟨h2.1,aR.mono h2.2 hF hL⟩,⟨h3.1,am.mono h3.2 hF hL⟩,⟨h4.1,am.mono h4.2 hF hL⟩⟩
def ax.row(x:ax):LR ay:=⟨x.v.bd,x.h1⟩
def dU(w0:World)(F:bk)(L:List Item)(x:ax):Prop:=(x.h2.v=x.v.au/\aR.rel w0 F L x.h2)/\(x.h3.v=x.v.to/\am.rel w0 F L x.h3)/\(x.h4.v=x.v.bw/\am.rel w0 F L x.h4)
theorem jl{w0:World}{F F':bk}{L L':List Item}{rs:List ax}(h:aL dU w0 F L rs)(hF:cS F F')(hL:L.Sublist L'):aL dU w0 F' L' rs:=λx hx=>
 let⟨h2,h3,h4⟩:=h x hx
 ⟨⟨h2.1,aR.mono h2.2 hF hL⟩,⟨h3.1,am.mono h3.2 hF hL⟩,⟨h4.1,am.mono h4.2 hF hL⟩⟩
theorem acr{w0:World}{F:bk}{L:List Item}{rs:List ax}(h:aL LR.rel w0 F L (List.map ax.row rs))(g:aL dU w0 F L rs):aL ax.rel w0 F L rs:=λx hx=>⟨h (ax.row x) (sS hx),g x hx⟩
theorem Na{w0:World}{F F':bk}{L L':List Item}{rs:List ax}(h:aL ax.rel w0 F L rs)(hF:cS F F')(hL:L.Sublist L'):aL ax.rel w0 F' L' rs:=λx hx=>ax.mono (h x hx) hF hL
structure bT where
 v:bi
 h1:Sl
 h2:Sl
 h3:Sl
instance :an bT:=⟨λp=>enc p.v.aD++(enc p.h1++(enc p.h2++(enc p.h3))),5,λp=>by simp only[cr,an.len];rfl,λp=>by simp only[jc,an.one,jG]⟩
theorem Ah{p:bT}{k:Nat}{ch:List Value}(h:bu (enc p.v.aD) k ch):bu (enc p) (0+k) ch:=dS (eW h) O
theorem DF{p:bT}{k:Nat}{vs:List Value}{y:bh}(h:bA (enc p.v.aD) k vs (enc y)):bA (enc p) (0+k) vs (enc ({p with v:={p.v with aD:=y}}:bT)):=dP (cs':=enc ({p with v:={p.v with aD:=y}}:bT)) (eE h) O
theorem qp{p:bT}{k:Nat}{ch:List Value}(h:bu (enc p.h1) k ch):bu (enc p) (2+k) ch:=dS (bX (m:=2) el (eW h)) O
theorem Id{p:bT}{k:Nat}{vs:List Value}{y:Sl}{l:List bm}(h:bA (enc p.h1) k vs (enc y)):bA (enc p) (2+k) vs (enc ({p with v:={p.v with all:=l},h1:=y}:bT)):=dP (cs':=enc ({p with v:={p.v with all:=l},h1:=y}:bT)) (bU (m:=2) el (eE h)) O
theorem Q4{p:bT}{k:Nat}{ch:List Value}(h:bu (enc p.h2) k ch):bu (enc p) (3+k) ch:=dS (bX (m:=2) el (bX (m:=1) el (eW h))) O
theorem Ie{p:bT}{k:Nat}{vs:List Value}{y:Sl}{l:List Y}(h:bA (enc p.h2) k vs (enc y)):bA (enc p) (3+k) vs (enc ({p with v:={p.v with aQ:=l},h2:=y}:bT)):=dP (cs':=enc ({p with v:={p.v with aQ:=l},h2:=y}:bT)) (bU (m:=2) el (bU (m:=1) el (eE h))) O
theorem Ai{p:bT}{k:Nat}{ch:List Value}(h:bu (enc p.h3) k ch):bu (enc p) (4+k) ch:=dS (bX (m:=2) el (bX (m:=1) el (bX (m:=1) el h))) O
theorem DG{p:bT}{k:Nat}{vs:List Value}{y:Sl}{l:List Y}(h:bA (enc p.h3) k vs (enc y)):bA (enc p) (4+k) vs (enc ({p with v:={p.v with ah:=l},h3:=y}:bT)):=dP (cs':=enc ({p with v:={p.v with ah:=l},h3:=y}:bT)) (bU (m:=2) el (bU (m:=1) el (bU (m:=1) el h))) O
def bT.rel(w0:World)(F:bk)(L:List Item)(x:bT):Prop:=(∃rs:List ax,rs.map ax.v=x.v.all/\Rd w0 F L x.h1 rs/\aL ax.rel w0 F L rs)/\Rd w0 F L x.h2 x.v.aQ/\Rd w0 F L x.h3 x.v.ah
theorem bT.mono{w0:World}{F F':bk}{L L':List Item}{x:bT}(h:bT.rel w0 F L x)(hF:cS F F')(hL:L.Sublist L'):bT.rel w0 F' L' x:=
 let⟨h1,h2,h3⟩:=h
 ⟨(let⟨rs,a,b,c⟩:=h1;⟨rs,a,b.mono hF hL,Na c hF hL⟩),h2.mono hF hL,h3.mono hF hL⟩
theorem abH{w0:World}{F F':bk}{L L':List Item}{rs:List bT}(h:aL bT.rel w0 F L rs)(hF:cS F F')(hL:L.Sublist L'):aL bT.rel w0 F' L' rs:=λx hx=>bT.mono (h x hx) hF hL
structure bL where
 v:bj
 h2:Option Nat
 h3:Vector (LR ay) 6
 h4:Vector am 6
 h5:Vector aR 6
 h6:Vector am 6
 h7:Sl
 h8:Sl
 h9:Sl
instance :an bL:=⟨λp=>enc p.v.n++(enc p.v.V++(enc p.h2++(enc p.h3++(enc p.h4++(enc p.h5++(enc p.h6++(enc p.h7++(enc p.h8++(enc p.h9))))))))),49,λp=>by simp only[cr,an.len];rfl,λp=>by simp only[jc,an.one,jG]⟩
theorem QJ{p:bL}{k:Nat}{ch:List Value}(h:bu (enc p.v.n) k ch):bu (enc p) (0+k) ch:=dS (eW h) O
theorem QO{p:bL}{k:Nat}{vs:List Value}{y:Int}(h:bA (enc p.v.n) k vs (enc y)):bA (enc p) (0+k) vs (enc ({p with v:={p.v with n:=y}}:bL)):=dP (cs':=enc ({p with v:={p.v with n:=y}}:bL)) (eE h) O
theorem QG{p:bL}{k:Nat}{ch:List Value}(h:bu (enc p.v.V) k ch):bu (enc p) (1+k) ch:=dS (bX (m:=1) el (eW h)) O
theorem HQ{p:bL}{k:Nat}{vs:List Value}{y:bh}(h:bA (enc p.v.V) k vs (enc y)):bA (enc p) (1+k) vs (enc ({p with v:={p.v with V:=y}}:bL)):=dP (cs':=enc ({p with v:={p.v with V:=y}}:bL)) (bU (m:=1) el (eE h)) O
theorem HN{p:bL}{k:Nat}{ch:List Value}(h:bu (enc p.h2) k ch):bu (enc p) (3+k) ch:=dS (bX (m:=1) el (bX (m:=2) el (eW h))) O
theorem QN{p:bL}{k:Nat}{vs:List Value}{y:Option Nat}{l:List (Int×Int)}(h:bA (enc p.h2) k vs (enc y)):bA (enc p) (3+k) vs (enc ({p with v:={p.v with aN:=l},h2:=y}:bL)):=dP (cs':=enc ({p with v:={p.v with aN:=l},h2:=y}:bL)) (bU (m:=1) el (bU (m:=2) el (eE h))) O
theorem QF{p:bL}{k:Nat}{ch:List Value}(h:bu (enc p.h3) k ch):bu (enc p) (4+k) ch:=dS (bX (m:=1) el (bX (m:=2) el (bX (m:=1) el (eW h)))) O
theorem HP{p:bL}{k:Nat}{vs:List Value}{y:Vector (LR ay) 6}{l:Vector (List ay) 6}(h:bA (enc p.h3) k vs (enc y)):bA (enc p) (4+k) vs (enc ({p with v:={p.v with du:=l},h3:=y}:bL)):=dP (cs':=enc ({p with v:={p.v with du:=l},h3:=y}:bL)) (bU (m:=1) el (bU (m:=2) el (bU (m:=1) el (eE h)))) O
theorem Dq{p:bL}{k:Nat}{ch:List Value}(h:bu (enc p.h4) k ch):bu (enc p) (10+k) ch:=dS (bX (m:=1) el (bX (m:=2) el (bX (m:=1) el (bX (m:=6) el (eW h))))) O
theorem HU{p:bL}{k:Nat}{vs:List Value}{y:Vector am 6}{l:Vector To 6}(h:bA (enc p.h4) k vs (enc y)):bA (enc p) (10+k) vs (enc ({p with v:={p.v with dK:=l},h4:=y}:bL)):=dP (cs':=enc ({p with v:={p.v with dK:=l},h4:=y}:bL)) (bU (m:=1) el (bU (m:=2) el (bU (m:=1) el (bU (m:=6) el (eE h))))) O
theorem QE{p:bL}{k:Nat}{ch:List Value}(h:bu (enc p.h5) k ch):bu (enc p) (22+k) ch:=dS (bX (m:=1) el (bX (m:=2) el (bX (m:=1) el (bX (m:=6) el (bX (m:=12) el (eW h)))))) O
theorem QL{p:bL}{k:Nat}{vs:List Value}{y:Vector aR 6}{l:Vector aw 6}(h:bA (enc p.h5) k vs (enc y)):bA (enc p) (22+k) vs (enc ({p with v:={p.v with aJ:=l},h5:=y}:bL)):=dP (cs':=enc ({p with v:={p.v with aJ:=l},h5:=y}:bL)) (bU (m:=1) el (bU (m:=2) el (bU (m:=1) el (bU (m:=6) el (bU (m:=12) el (eE h)))))) O
theorem HO{p:bL}{k:Nat}{ch:List Value}(h:bu (enc p.h6) k ch):bu (enc p) (34+k) ch:=dS (bX (m:=1) el (bX (m:=2) el (bX (m:=1) el (bX (m:=6) el (bX (m:=12) el (bX (m:=12) el (eW h))))))) O
theorem HR{p:bL}{k:Nat}{vs:List Value}{y:Vector am 6}{l:Vector To 6}(h:bA (enc p.h6) k vs (enc y)):bA (enc p) (34+k) vs (enc ({p with v:={p.v with dM:=l},h6:=y}:bL)):=dP (cs':=enc ({p with v:={p.v with dM:=l},h6:=y}:bL)) (bU (m:=1) el (bU (m:=2) el (bU (m:=1) el (bU (m:=6) el (bU (m:=12) el (bU (m:=12) el (eE h))))))) O
theorem QK{p:bL}{k:Nat}{ch:List Value}(h:bu (enc p.h7) k ch):bu (enc p) (46+k) ch:=dS (bX (m:=1) el (bX (m:=2) el (bX (m:=1) el (bX (m:=6) el (bX (m:=12) el (bX (m:=12) el (bX (m:=12) el (eW h)))))))) O
theorem HT{p:bL}{k:Nat}{vs:List Value}{y:Sl}{l:List Y}(h:bA (enc p.h7) k vs (enc y)):bA (enc p) (46+k) vs (enc ({p with v:={p.v with order:=l},h7:=y}:bL)):=dP (cs':=enc ({p with v:={p.v with order:=l},h7:=y}:bL)) (bU (m:=1) el (bU (m:=2) el (bU (m:=1) el (bU (m:=6) el (bU (m:=12) el (bU (m:=12) el (bU (m:=12) el (eE h)))))))) O
theorem QI{p:bL}{k:Nat}{ch:List Value}(h:bu (enc p.h8) k ch):bu (enc p) (47+k) ch:=dS (bX (m:=1) el (bX (m:=2) el (bX (m:=1) el (bX (m:=6) el (bX (m:=12) el (bX (m:=12) el (bX (m:=12) el (bX (m:=1) el (eW h))))))))) O
theorem HS{p:bL}{k:Nat}{vs:List Value}{y:Sl}{l:List Mark}(h:bA (enc p.h8) k vs (enc y)):bA (enc p) (47+k) vs (enc ({p with v:={p.v with be:=l},h8:=y}:bL)):=dP (cs':=enc ({p with v:={p.v with be:=l},h8:=y}:bL)) (bU (m:=1) el (bU (m:=2) el (bU (m:=1) el (bU (m:=6) el (bU (m:=12) el (bU (m:=12) el (bU (m:=12) el (bU (m:=1) el (eE h))))))))) O
theorem QH{p:bL}{k:Nat}{ch:List Value}(h:bu (enc p.h9) k ch):bu (enc p) (48+k) ch:=dS (bX (m:=1) el (bX (m:=2) el (bX (m:=1) el (bX (m:=6) el (bX (m:=12) el (bX (m:=12) el (bX (m:=12) el (bX (m:=1) el (bX (m:=1) el h))))))))) O
theorem QM{p:bL}{k:Nat}{vs:List Value}{y:Sl}{l:List aK}(h:bA (enc p.h9) k vs (enc y)):bA (enc p) (48+k) vs (enc ({p with v:={p.v with bb:=l},h9:=y}:bL)):=dP (cs':=enc ({p with v:={p.v with bb:=l},h9:=y}:bL)) (bU (m:=1) el (bU (m:=2) el (bU (m:=1) el (bU (m:=6) el (bU (m:=12) el (bU (m:=12) el (bU (m:=12) el (bU (m:=1) el (bU (m:=1) el h))))))))) O
def bL.rel(w0:World)(F:bk)(L:List Item)(x:bL):Prop:=True/\(x.h3.toList.map LR.v=x.v.du.toList/\aL LR.rel w0 F L x.h3.toList)/\(x.h4.toList.map am.v=x.v.dK.toList/\aL am.rel w0 F L x.h4.toList)/\(x.h5.toList.map aR.v=x.v.aJ.toList/\aL aR.rel w0 F L x.h5.toList)/\(x.h6.toList.map am.v=x.v.dM.toList/\aL am.rel w0 F L x.h6.toList)/\Rd w0 F L x.h7 x.v.order/\Rd w0 F L x.h8 x.v.be/\Rd w0 F L x.h9 x.v.bb
theorem bL.mono{w0:World}{F F':bk}{L L':List Item}{x:bL}(h:bL.rel w0 F L x)(hF:cS F F')(hL:L.Sublist L'):bL.rel w0 F' L' x:=
 let⟨h2,h3,h4,h5,h6,h7,h8,h9⟩:=h
 ⟨bo,⟨h3.1,cC h3.2 hF hL⟩,⟨h4.1,Cz h4.2 hF hL⟩,⟨h5.1,GG h5.2 hF hL⟩,⟨h6.1,Cz h6.2 hF hL⟩,h7.mono hF hL,h8.mono hF hL,h9.mono hF hL⟩
theorem abF{w0:World}{F F':bk}{L L':List Item}{rs:List bL}(h:aL bL.rel w0 F L rs)(hF:cS F F')(hL:L.Sublist L'):aL bL.rel w0 F' L' rs:=λx hx=>bL.mono (h x hx) hF hL
theorem I2(x y:bh):∀w,(Op.equal 32 (.agg (enc x).toArray) (.agg (enc y).toArray)).run Tryz.prog w=.ok (decide (x=y)) w/\(Op.equal 32 (.agg (enc x).toArray) (.agg (enc y).toArray)).events Tryz.prog w #[]=#[]:=
 GS (d:=10000) hK dz X X (i4.struct hK dz X gx aE (λx y w=>by
 refine Si (I6 (p:=x.bS) (q:=y.bS) X (i4.int I3 U3) X ((lL (iM _)).off X) ((lL (iM _)).off X) (I6 (p:=x.bx) (q:=y.bx) X (i4.u8 I5 U5) X ((kq (iM _)).off X) ((kq (iM _)).off X) ⟨X,λ_ h=>nomatch h⟩)) ?_
 rw[eZ];cases x;cases y;simp)) x y
theorem Sd(x y:Vector Int 10):∀w,(Op.equal 42 (.agg (enc x).toArray) (.agg (enc y).toArray)).run Tryz.prog w=.ok (decide (x=y)) w/\(Op.equal 42 (.agg (enc x).toArray) (.agg (enc y).toArray)).events Tryz.prog w #[]=#[]:=
 GS (d:=10000) lm gQ X X (i4.array (inf:=Tryz.t3) lm gQ X rZ X aE (i4.int I3 U3)) x y
theorem jw{w0:World}{F:bk}{M:List Item}{rs:List ax}{xs:List bm}(ma:rs.map ax.v=xs)(na:aL dU w0 F M rs){i:Nat}{x:bm}(g:xs[i]?=some x):∃a b c d,rs[i]?=some (ax.mk x a (aR.mk x.au b) (am.mk x.to c) (am.mk x.bw d))/\ax.mk x a (aR.mk x.au b) (am.mk x.to c) (am.mk x.bw d)∈rs/\Rd w0 F M b x.au.aJ/\Rd w0 F M c x.to.bg/\Rd w0 F M d x.bw.bg:=by obtain⟨⟨v,a,⟨bv,b⟩,⟨cv,c⟩,⟨dv,d⟩⟩,j,e,m⟩:=l9 ma g;obtain⟨⟨e2,q2⟩,⟨e3,q3⟩,⟨e4,q4⟩⟩:=na _ m;simp only at e e2 e3 e4;subst e e2 e3 e4;exact⟨a,b,c,d,j,m,q2,q3,q4⟩
theorem oY{w0:World}{F:bk}{M:List Item}{n:Nat}{rs:Vector aR n}{xs:Vector aw n}(ma:rs.toList.map aR.v=xs.toList)(na:aL aR.rel w0 F M rs.toList){i:Nat}{x:aw}(g:xs[i]?=some x):∃b,rs[i]?=some (aR.mk x b)/\aR.mk x b∈rs.toList/\rs.toList[i]?=some (aR.mk x b)/\Rd w0 F M b x.aJ:=by obtain⟨⟨v,b⟩,j,e,m,l⟩:=qc ma g;have q:=na _ m;simp only at e;subst e;exact⟨b,j,m,l,q⟩
theorem ry{w0:World}{F:bk}{M:List Item}{n:Nat}{rs:Vector am n}{xs:Vector To n}(ma:rs.toList.map am.v=xs.toList)(na:aL am.rel w0 F M rs.toList){i:Nat}{x:To}(g:xs[i]?=some x):∃b,rs[i]?=some (am.mk x b)/\am.mk x b∈rs.toList/\rs.toList[i]?=some (am.mk x b)/\Rd w0 F M b x.bg:=by obtain⟨⟨v,b⟩,j,e,m,l⟩:=qc ma g;have q:=na _ m;simp only at e;subst e;exact⟨b,j,m,l,q⟩
variable {W:World}{F:bk}{M L:List Item}
theorem wb{a0 a1 a2 r}(H:oN a0 a1 a2=some r)(b:M.Sublist L):Ok Tryz.prog W 57 [iv a0,iv a1,iv a2] F (L) (Is (.bool r) (L)):=by
 unfold oN at H;refine bR 15 Tryz.func57 X<|ae<|ag X<|bq<|Z X<|Z X<|lr (gY X X)<|Z X ?_;obtain⟨o1,H,kT⟩:=bs H;refine dh (σ:=Bool) 4 (λy2=>[(14,.bool y2)]) (λy2=>L) (λ_ y2=>y2=o1) ?_ ?_
 .refine iy H (λa H=>?_) λa H=>lg a (ar X)<|lg a (ar X)<|lg a (Ev.leq X X)<|lr (cD X a X)<|aC ?_
  .exact aH X a<|aH X a<|aH X a<|lr (cx X a X)<|aC<|aT false fl e0 X (si H)
  exact aT (decide (a0<=a2)) fl e0 X (si H)
 rintro F4 y2 gI hy;subst hy;replace H:=kT;refine ag X<|aa ?_;obtain rfl:=si H;exact aV<|bp X (aO X) gI rl ⟨X,X⟩
theorem abr{a0 r}(H:zt a0=some r)(B:M.Sublist L):Ok Tryz.prog W 34 [iv a0] F (L) (λFx L' v=>∃(b1:Nat)(s2:Sl)(e:List ax)(s8:Sl)(n:Sl),v=.tuple #[pv b1 0,iv r.2]/\L'=(.rows (α:=ay) 80 (List.map ax.row e))::(.own s2 157 8 (I e))::(.own s8 9 1 (I r.1.aQ))::(.own n 9 1 (I r.1.ah))::(.blk b1 (enc (bT.mk r.1 s2 s8 n)) 132)::L/\e.map ax.v=r.1.all/\aL dU W Fx [] e):=by
 let T4:=bT.mk bi.zero Sl.nil Sl.nil Sl.nil;let T1:=ax.mk bm.zero Sl.nil (aR.mk aw.zero Sl.nil) (am.mk To.zero Sl.nil) (am.mk To.zero Sl.nil);unfold zt at H;refine bR 15 Tryz.func34 X<|ae<|ag X<|ag X<|aa<|ap<|ae<|Z X<|bz H λr1 h2 H=>bW X e0 Tryz.call57 (wb h2 B)<|lr (fD X)<|aa<|iz H (λg H=>?_) λg H=>aS X g<|bc<|aF<|ap<|bz H λn6 h7 H=>?_
 .cases H
 let T0:=({bh.zero with bx:=((1:BitVec 8)<<<n6)-(1:BitVec 8)}:bh)
 let T3:=bT.mk ({bi.zero with aD:=T0}:bi) Sl.nil Sl.nil Sl.nil;refine bz H λn9 z H=>lz H λE A H=>gO (σ:=Sl×(List bm)×(List ax)) 6 (λ(a,c,b)=>[(10,.agg (enc T0).toArray),(12,Sl.v a)]) (λ(a,c,b)=>(.rows (α:=ay) 80 (List.map ax.row b))::(.own a 157 8 (I b))::L) (λFx(a,c,b)=>c=E/\b.map ax.v=c/\aL dU W Fx [] b) aE aE (gy aE aE aE) aE (λaA av=>?_) ?_
 .refine d8 (λhd w=>SH W F (L) hd w) (λ_ w h=>trivial)<|aB X aA av 0 rl X (ar X) ?_;refine aB X aA av 1 rl X (wl (i:=(1:BitVec 8)) (m:=n6) X (congrArg some (congrArg (Value.int .i64) (qw h7))))<|aB X aA av 2 rl X (wm (i:=(1:BitVec 8)<<<n6) (j:=(1:BitVec 8)) X X)<|aB X aA av 3 rl X (cQ (v:=.agg (enc T0).toArray) (pv:=[(1,.int .u8 (((1:BitVec 8)<<<n6)-(1:BitVec 8)).toNat)]) e0 (λw=>by kernel_rfl))<|aB X aA av 4 rl X (ar X) ?_;refine cP 5 (λinv=>?_);have f:=Bu z;have D:(List.replicate n9 (T1:ax)).map ax.v=(List.replicate n9 bm.zero):=Kr _ _;have C:aL dU W F [] (List.replicate n9 (T1:ax)):=aL.rep ⟨⟨X,j3⟩,⟨X,j3⟩,⟨X,j3⟩⟩;refine a9.make (α:=ax) (z0:=(T1:ax)) (k:=n9) X X ab (congrArg some (congrArg (Value.int .i64) f.1)) (congrArg some (congrArg (Value.int .i64) f.1)) jQ Tryz.typeInfo157 X X X X X f.2 X (λq=>?_);exact a9.nL ay 80 n9<|jK (L':=(.rows (α:=ay) 80 (List.map ax.row (List.replicate n9 (T1:ax))))::(.own q 157 8 (I (List.replicate n9 (T1:ax))))::L) (by dsimp+zetaDelta only;rw[List.map_replicate]<;>rfl)<|cW inv (aZ rl)<|eM aE<|eK (q,(List.replicate n9 bm.zero),(List.replicate n9 (T1:ax))) fl e0 X ⟨A,D,(jl C fl bn)⟩
 rintro CM ⟨a,c,b⟩ ss ⟨hy,x,u⟩;let T2:=bT.mk ({bi.zero with aD:=T0,all:=c}:bi) a Sl.nil Sl.nil;subst hy;refine lr (cQ (v:=.agg (enc T2).toArray) (pv:=[(0,.agg (enc T0).toArray),(1,Sl.v a)]) ⟨X,X,e0⟩ (p6 (places:=#[(0,2),(2,1),(3,1),(4,1)]) Tryz.zeroValue132 (zs:=enc T4) X eo (λw=>by kernel_rfl) (eX (cs:=enc T4) (cs':=enc T3) (vs:=enc T0) X X el ((DF (p:=T4) (y:=T0) bZ).off X) (eX (cs:=enc T3) (cs':=enc T2) (vs:=[Sl.v a]) X X X ((Id (p:=T3) (y:=a) (cm (vs:=[Sl.v a]) X)).off X) kz)))) ?_;refine fQ X X ab X (cs:=enc T2) X (λt=>?_);refine ag X<|ag X<|aa ?_;obtain rfl:=si H;exact aV<|j7 9 1<|j7 9 1<|af 1 X<|af 4 X<|af 4 X<|dC X (aO X) (aO X) ss rl ⟨t,a,b,Sl.nil,Sl.nil,X,X,x,(jl u fl bn)⟩
theorem abq{a0 r}(H:zu a0=some r)(t:M.Sublist L):Ok Tryz.prog W 34 [iv a0] F (L) (Is (.tuple #[.pointer none,iv r]) (L)):=by
 let T4:=bT.mk bi.zero Sl.nil Sl.nil Sl.nil;let T1:=ax.mk bm.zero Sl.nil (aR.mk aw.zero Sl.nil) (am.mk To.zero Sl.nil) (am.mk To.zero Sl.nil);unfold zu at H;refine bR 15 Tryz.func34 X<|ae<|ag X<|ag X<|aa<|ap<|ae<|Z X<|bz H λr1 h2 H=>bW X e0 Tryz.call57 (wb h2 t)<|lr (fD X)<|aa<|iz H (λf H=>?_) λf H=>aS X f<|bc<|aF<|ap<|bz H λn6 h7 H=>?_
 .refine aU X f<|ae<|ag X<|ag X<|aa ?_;obtain rfl:=si H;exact aV<|bt<|dC X (aO X) (aO X) fl rl ⟨X,X⟩
 let T0:=({bh.zero with bx:=((1:BitVec 8)<<<n6)-(1:BitVec 8)}:bh)
 let T3:=bT.mk ({bi.zero with aD:=T0}:bi) Sl.nil Sl.nil Sl.nil;refine bz H λn9 n H=>lz H λz q H=>gO (σ:=Sl×(List bm)×(List ax)) 6 (λ(a,c,b)=>[(10,.agg (enc T0).toArray),(12,Sl.v a)]) (λ(a,c,b)=>(.rows (α:=ay) 80 (List.map ax.row b))::(.own a 157 8 (I b))::L) (λFx(a,c,b)=>c=z/\b.map ax.v=c/\aL dU W Fx [] b) aE aE (gy aE aE aE) aE (λaA av=>?_) ?_
 .refine d8 (λhd w=>SH W F (L) hd w) (λ_ w h=>trivial)<|aB X aA av 0 rl X (ar X) ?_;refine aB X aA av 1 rl X (wl (i:=(1:BitVec 8)) (m:=n6) X (congrArg some (congrArg (Value.int .i64) (qw h7))))<|aB X aA av 2 rl X (wm (i:=(1:BitVec 8)<<<n6) (j:=(1:BitVec 8)) X X)<|aB X aA av 3 rl X (cQ (v:=.agg (enc T0).toArray) (pv:=[(1,.int .u8 (((1:BitVec 8)<<<n6)-(1:BitVec 8)).toNat)]) e0 (λw=>by kernel_rfl))<|aB X aA av 4 rl X (ar X) ?_;refine cP 5 (λinv=>?_);have e:=Bu n;have x:(List.replicate n9 (T1:ax)).map ax.v=(List.replicate n9 bm.zero):=Kr _ _;have u:aL dU W F [] (List.replicate n9 (T1:ax)):=aL.rep ⟨⟨X,j3⟩,⟨X,j3⟩,⟨X,j3⟩⟩;refine a9.make (α:=ax) (z0:=(T1:ax)) (k:=n9) X X ab (congrArg some (congrArg (Value.int .i64) e.1)) (congrArg some (congrArg (Value.int .i64) e.1)) jQ Tryz.typeInfo157 X X X X X e.2 X (λg=>?_);exact a9.nL ay 80 n9<|jK (L':=(.rows (α:=ay) 80 (List.map ax.row (List.replicate n9 (T1:ax))))::(.own g 157 8 (I (List.replicate n9 (T1:ax))))::L) (by dsimp+zetaDelta only;rw[List.map_replicate]<;>rfl)<|cW inv (aZ rl)<|eM aE<|eK (g,(List.replicate n9 bm.zero),(List.replicate n9 (T1:ax))) fl e0 X ⟨q,x,(jl u fl bn)⟩
 rintro CM ⟨a,c,b⟩ ss ⟨hy,C,B⟩;let T2:=bT.mk ({bi.zero with aD:=T0,all:=c}:bi) a Sl.nil Sl.nil;subst hy;refine lr (cQ (v:=.agg (enc T2).toArray) (pv:=[(0,.agg (enc T0).toArray),(1,Sl.v a)]) ⟨X,X,e0⟩ (p6 (places:=#[(0,2),(2,1),(3,1),(4,1)]) Tryz.zeroValue132 (zs:=enc T4) X eo (λw=>by kernel_rfl) (eX (cs:=enc T4) (cs':=enc T3) (vs:=enc T0) X X el ((DF (p:=T4) (y:=T0) bZ).off X) (eX (cs:=enc T3) (cs':=enc T2) (vs:=[Sl.v a]) X X X ((Id (p:=T3) (y:=a) (cm (vs:=[Sl.v a]) X)).off X) kz)))) ?_;refine fQ X X ab X (cs:=enc T2) X (λA=>?_);refine ag X<|ag X<|aa ?_;cases H
theorem Cv{a0 a1 f b c e r}{a:List ax}(H:rI a0 a1=some r)(j:M.Sublist L)(k:a.map ax.v=a0.all)(n:aL dU W F [] a):Ok Tryz.prog W 85 [pv f 0,iv a1] F ((.rows (α:=ay) 80 (List.map ax.row a))::(.own b 157 8 (I a))::(.own c 9 1 (I a0.aQ))::(.own e 9 1 (I a0.ah))::(.blk f (enc (bT.mk a0 b c e)) 132)::L) (Is (iv r) ((.rows (α:=ay) 80 (List.map ax.row a))::(.own b 157 8 (I a))::(.own c 9 1 (I a0.aQ))::(.own e 9 1 (I a0.ah))::(.blk f (enc (bT.mk a0 b c e)) 132)::L)):=by
 unfold rI at H;refine bR 14 Tryz.func85 X<|ae<|ag X<|aa<|ap<|ae<|Z X<|Z X<|lr (bP X)<|lr (az 2 X eo X kx X X)<|lr (aI (i:=4) X X kw (v:=Sl.v b) ((qp ak).off X))<|lr (nF (eO k) (cw (α:=ax) (xs:=a) ab X X jQ (aY 1 X X X)))<|lr (fg X X)<|bz H λr7 h8 H=>bW X e0 Tryz.call57 (wb h8 (cg (ai j)))<|lr (fD X)<|aa<|iz H (λg H=>?_) λg H=>aS X g<|bc<|aF<|ae<|ag X<|aa ?_
 .refine aU X g<|ae<|ag X<|aa ?_;obtain rfl:=si H;exact aV<|bt<|bp X (aO X) fl rl ⟨X,X⟩
 obtain rfl:=si H;exact aV<|bp X (aO X) fl rl ⟨X,X⟩
theorem zC{a0 a1 k e f g r}{c:List ax}(H:qe a0 a1=some r)(A:M.Sublist L)(t:c.map ax.v=a0.all)(B:aL dU W F [] c):Ok Tryz.prog W 83 [pv k 0,iv a1] F ((.rows (α:=ay) 80 (List.map ax.row c))::(.own e 157 8 (I c))::(.own f 9 1 (I a0.aQ))::(.own g 9 1 (I a0.ah))::(.blk k (enc (bT.mk a0 e f g)) 132)::L) (Is (.bool r) ((.rows (α:=ay) 80 (List.map ax.row c))::(.own e 157 8 (I c))::(.own f 9 1 (I a0.aQ))::(.own g 9 1 (I a0.ah))::(.blk k (enc (bT.mk a0 e f g)) 132)::L)):=by
 unfold qe at H;refine bR 35 Tryz.func83 X<|ae<|ag X<|bq<|Z X<|Z X<|lr (bP X)<|lr (az 2 X eo X kx X X)<|lr (aI (i:=4) X X kw (v:=Sl.v e) ((qp ak).off X))<|lr (nF (eO t) (cw (α:=ax) (xs:=c) ab X X jQ (aY 1 X X X)))<|lr (fg X X)<|bz H λr7 h8 H=>bW X e0 Tryz.call57 (wb h8 (cg (ai A)))<|Z X ?_;obtain⟨C,H,CZ⟩:=bs H;refine dh (σ:=Bool) 10 (λn=>[(0,pv k 0),(1,iv a1),(23,.bool n)]) (λn=>(.rows (α:=ay) 80 (List.map ax.row c))::(.own e 157 8 (I c))::(.own f 9 1 (I a0.aQ))::(.own g 9 1 (I a0.ah))::(.blk k (enc (bT.mk a0 e f g)) 132)::L) (λ_ n=>n=C) ?_ ?_
 .refine iy H (λa H=>?_) λa H=>lg a (ar X)<|lg a (bP X)<|lg a (az 0 X eo X dz X X)<|lg a (az 1 X gx X Z5 X X)<|lg a (aI (i:=4) X X I5 (v:=.int .u8 a0.aD.bx.toNat) ((Ah (kq ak)).off X))<|lg a (ar X)<|bz H λu y H=>?_
  .exact aH X a<|aH X a<|aH X a<|aH X a<|aH X a<|aH X a<|aH X a<|aH X a<|aH X a<|lr (cx X a X)<|aC<|aT false fl e0 X (si H)
  refine lg a (zP (i:=a0.aD.bx) (m:=u) X (congrArg some (congrArg (Value.int .i64) (qw y))))<|lg a (va (i:=a0.aD.bx>>>u) (j:=(1:BitVec 8)) X X)<|lg a (cN X X)<|lr (cD X a X)<|aC ?_;exact aT ((((a0.aD.bx>>>u)&&&(1:BitVec 8)).toNat:Int)==((1:BitVec 8).toNat:Int)) fl e0 X (si H)
 rintro wp n ib hy;subst hy;replace H:=CZ;refine Z X ?_;obtain⟨D,H,C4⟩:=bs H;refine dh (σ:=Bool) 10 (λq=>[(34,.bool q)]) (λq=>(.rows (α:=ay) 80 (List.map ax.row c))::(.own e 157 8 (I c))::(.own f 9 1 (I a0.aQ))::(.own g 9 1 (I a0.ah))::(.blk k (enc (bT.mk a0 e f g)) 132)::L) (λ_ q=>q=D) ?_ ?_
 .refine iy H (λb H=>?_) λb H=>lg b (ar X)<|lg b (bP X)<|lg b (az 2 X eo X kx X X)<|lg b (aI (i:=4) X X kw (v:=Sl.v e) ((qp ak).off X))<|lg b (ar X)<|bz H λx z H=>have w:=cd z;?_
  .exact aH X b<|aH X b<|aH X b<|aH X b<|aH X b<|aH X b<|aH X b<|aH X b<|aH X b<|lr (cx X b X)<|aC<|aT false fl e0 X (si H)
  obtain⟨adW,adR,adT,adV,FN,-,adQ,adS,adU⟩:=jw t B w.2.2;have adX:=jg ax.row FN;exact lg b (cp (α:=ax) (xs:=c) X X jQ mZ X ab (aY 1 X X X) w.1 (by have:=eO t;omega))<|lg b (eL (α:=ax) (f':=a1.toNat*8+0) X (aY 1 X X X) ((bK (s:=8) X FN ak).off O) X im X Z4 X X X)<|lg b (dR (α:=ax) X (aY 1 X X X) I4 (v:=.bool x.ea) ((bK (s:=8) X FN (Qq ak)).off O))<|lg b (fD X)<|lr (cD X b X)<|aC<|aT (!x.ea) fl e0 X (si H)
 rintro zT q wZ hy;subst hy;replace H:=C4;refine ag X<|aa ?_;obtain rfl:=si H;exact aV<|bp X (aO X) (ft ib wZ) rl ⟨X,X⟩
theorem M6{a0 a1 f b c e r}{a:List ax}(H:wa a0 a1=some r)(j:M.Sublist L)(k:a.map ax.v=a0.all)(n:aL dU W F [] a):Ok Tryz.prog W 76 [pv f 0,iv a1] F ((.rows (α:=ay) 80 (List.map ax.row a))::(.own b 157 8 (I a))::(.own c 9 1 (I a0.aQ))::(.own e 9 1 (I a0.ah))::(.blk f (enc (bT.mk a0 b c e)) 132)::L) (Is (iv r) ((.rows (α:=ay) 80 (List.map ax.row a))::(.own b 157 8 (I a))::(.own c 9 1 (I a0.aQ))::(.own e 9 1 (I a0.ah))::(.blk f (enc (bT.mk a0 b c e)) 132)::L)):=by
 unfold wa at H;refine bR 16 Tryz.func76 X<|ae<|ag X<|aa<|ap<|ae<|Z X<|Z X<|bz H λr6 h7 H=>bW X e0 Tryz.call85 (Cv h7 j k (jl n fl bn))<|ag X<|bq<|Z X<|lr (eU X X)<|aa<|iz H (λg H=>?_) λg H=>aS X g<|bc<|aF<|ap<|ae<|Z X<|Z X<|bz H λt q H=>bW X e0 Tryz.call83 (zC q j k (jl n fl bn))<|lr (fD X)<|aa<|iz H (λi H=>?_) λi H=>aS X i<|bc<|aF<|ae<|ag X<|aa ?_
 .refine aU X g<|ae<|Z X<|ag X<|aa ?_;obtain rfl:=si H;exact aV<|bt<|bp X (aO X) fl rl ⟨X,X⟩
 .refine aU X i<|ae<|ag X<|aa ?_;obtain rfl:=si H;exact aV<|bt<|bp X (aO X) fl rl ⟨X,X⟩
 obtain rfl:=si H;exact aV<|bp X (aO X) fl rl ⟨X,X⟩
theorem Fi{a0 a1 a2 r}(H:sU a0 a1 a2=some r)(b:M.Sublist L):Ok Tryz.prog W 115 [iv a0,iv a1,iv a2] F (L) (Is (.bool r) (L)):=by
 unfold sU at H;refine bR 15 Tryz.func115 X<|ae<|ag X<|bq<|Z X<|Z X<|lr (gY X X)<|Z X ?_;obtain⟨o1,H,kT⟩:=bs H;refine dh (σ:=Bool) 4 (λy2=>[(14,.bool y2)]) (λy2=>L) (λ_ y2=>y2=o1) ?_ ?_
 .refine iy H (λa H=>?_) λa H=>lg a (ar X)<|lg a (ar X)<|lg a (Ev.leq X X)<|lr (cD X a X)<|aC ?_
  .exact aH X a<|aH X a<|aH X a<|lr (cx X a X)<|aC<|aT false fl e0 X (si H)
  exact aT (decide (a0<=a2)) fl e0 X (si H)
 rintro F4 y2 gI hy;subst hy;replace H:=kT;refine ag X<|aa ?_;obtain rfl:=si H;exact aV<|bp X (aO X) gI rl ⟨X,X⟩
theorem Bj{a0 r}(H:oz a0=some r)(a:M.Sublist L):Ok Tryz.prog W 95 [Y.v a0] F (L) (Is (.bool r) (L)):=by unfold oz at H;refine bR 6 Tryz.func95 X<|ae<|ag X<|bq<|Z X<|lr (fK X X U9)<|lr (ef X X)<|ag X<|aa ?_;obtain rfl:=si H;exact aV<|bp X (aO X) fl rl ⟨X,X⟩
theorem aao{a0 f r}(H:yU a0=some r)(a:M.Sublist L)(b:Rd W F M f a0):Ok Tryz.prog W 135 [Sl.v f,.func (.func 95) #[] #[]] F (L) (Is (iv r) (L)):=by
 unfold yU at H;refine bR 19 Tryz.func135 X<|ae<|ag X<|aa<|ap<|ae<|Z X<|lr (cw (α:=Y) (xs:=a0) ab X X cf (b.mono fl a))<|Z X<|aa<|bI ?_;refine fC (fT (α:=Y) (xs:=a0) ab (b.mono fl a)) (λJx=>?_);obtain⟨j,H,mX⟩:=gR H;refine dH (σ:=Nat×Nat×Unit) (λ(i1,k1,_u)=>[(0,Sl.v f),(1,.func (.func 95) #[] #[]),(7,iv (a0.length:Int)),(8,iv (i1:Int))]) (λ(i1,k1,_u)=>L) (λ_=>(λ(i1,k1,_u)=>dT (B8 a0) k1 i1 ()=some j/\i1+k1=a0.length)) (λ(i1,k1,_u)=>k1) (0,a0.length,()) e0 X ⟨H,by omega⟩ ?_;rintro F2 ⟨i1,k1,_u⟩ nk ⟨H,n⟩;rcases k1 with _|k1
 .have e:decide ((i1:Int)<(a0.length:Int))=false:=cX O;replace H:=oK H;refine ae<|lr (bF X X)<|aa<|ap<|aS X e<|dr<|bQ<|bQ<|dt ?_;subst H;replace H:=mX;refine aF<|ae<|ag X<|aa ?_;obtain rfl:=si H;exact aV<|bp X (aO X) nk rl ⟨X,X⟩
 have e:decide ((i1:Int)<(a0.length:Int))=true:=dl O;obtain⟨c1,H,g,k,i⟩:=oL H;unfold B8 at H
 try dsimp only at H
 refine ae<|lr (bF X X)<|aa<|ap<|aU X e<|bc<|aF<|ap<|bI<|ae<|Z X<|ag X<|bq<|Z X<|Z X<|Z X<|bz H λx4 h5 H=>have g6:=cd h5;lr (cp (α:=Y) (xs:=a0) X X cf Z9 X ab (b.mono nk a) g6.1 g6.2.1)<|lr (dR (α:=Y) X (b.mono nk a) I9 (v:=Y.v x4) ((bK (s:=1) (x:=x4) X g6.2.2 ak).off O))<|bz H λr7 h8 H=>mH X X ab (vs:=[Y.v x4]) (cs:=[]) X e0 Tryz.call95 (Bj h8 a)<|aa<|iz H (λc H=>?_) λc H=>aS X c<|bc<|bY<|aF<|bB<|lr (dG O X X)<|Z X<|aC ?_
 .refine aU X c<|ae<|Z X<|ag X<|aa ?_;have H:=i _ (sj H);subst H;replace H:=mX;obtain rfl:=si H;exact aV<|dm<|bt<|bt<|dm<|bt<|bp X (aO X) nk rl ⟨X,X⟩
 exact aT (i1+1,k1,()) nk e0 X ⟨⟨g _ (sj H),by omega⟩,cL⟩
theorem aai{a0 a r}(H:yO a0=some r)(b:M.Sublist L)(c:Rd W F M a a0):Ok Tryz.prog W 116 [Sl.v a,.func (.func 95) #[] #[]] F (L) (Is (.bool r) (L)):=by unfold yO at H;refine bR 9 Tryz.func116 X<|ae<|ag X<|bq<|Z X<|Z X<|bz H λr1 h2 H=>bW X e0 Tryz.call135 (aao h2 b (c.mono fl rl))<|lr (gY X X)<|ag X<|aa ?_;obtain rfl:=si H;exact aV<|bp X (aO X) fl rl ⟨X,X⟩
theorem Fh{a0 b r}(H:sT a0=some r)(c:M.Sublist L)(g:Rd W F M b a0.aJ):Ok Tryz.prog W 94 [.agg (enc (aR.mk a0 b)).toArray] F (L) (Is (iv r) (L)):=by
 unfold sT at H;refine bR 18 Tryz.func94 X<|ae ?_;refine fQ X X ab X (cs:=enc (aR.mk a0 b)) X (λb1=>?_);refine ag X<|aa<|ap<|bI<|ae<|lr (az 0 X eP X Z3 X X)<|lr (aI (i:=0) X X I3 (v:=iv a0.Base) ((tU ak).off X))<|bz H λr3 h4 H=>bW X e0 Tryz.call115 (Fi h4 (ai c))<|lr (fD X)<|Z X ?_;obtain⟨o7,H,wv⟩:=bs H;refine dh (σ:=Bool) 5 (λy8=>[(1,pv b1 0),(13,.bool y8)]) (λy8=>(.blk b1 (enc (aR.mk a0 b)) 54)::L) (λ_ y8=>y8=o7) ?_ ?_
 .refine iz H (λa H=>?_) λa H=>lg a (az 1 X eP X dL X X)<|lg a (aI (i:=0) X X fh (v:=Sl.v b) ((ql ak).off X))<|lg a (cw (α:=Y) (xs:=a0.aJ) ab X X cf (g.mono fl (ai c)))<|lg a (ef X X)<|lr (cx X a X)<|aC ?_
  .exact aH X a<|aH X a<|aH X a<|aH X a<|lr (cD X a X)<|aC<|aT true fl e0 X (si H)
  exact aT (decide ((a0.aJ.length:Int)>(16:Int))) fl e0 X (si H)
 rintro On y8 qC hy;subst hy;replace H:=wv;refine ag X<|aa<|iz H (λe H=>?_) λe H=>aS X e<|ae<|lr (az 1 X eP X dL X X)<|lr (aI (i:=0) X X fh (v:=Sl.v b) ((ql ak).off X))<|bz H λk j H=>bW X e0 Tryz.call116 (aai j (ai c) (g.mono qC rl))<|ag X<|aa<|iz H (λf H=>?_) λf H=>aS X f<|bc<|bY<|aF<|ae<|ag X<|aa ?_
 .refine aU X e<|ae<|ag X<|aa ?_;obtain rfl:=si H;exact aV<|dm<|bt<|bp X (aO X) qC (ai rl) ⟨X,X⟩
 .refine aU X f<|ae<|ag X<|aa ?_;obtain rfl:=si H;exact aV<|dm<|bt<|bp X (aO X) qC (ai rl) ⟨X,X⟩
 obtain rfl:=si H;exact aV<|bp X (aO X) qC (ai rl) ⟨X,X⟩
theorem yL{a0 b r}(H:rx a0=some r)(c:M.Sublist L)(e:Rd W F M b a0):Ok Tryz.prog W 44 [Sl.v b] F (L) (λ_ L' v=>∃(s1:Sl),v=Sl.v s1/\L'=(.own s1 9 1 (I r))::L):=by
 unfold rx at H;refine bR 8 Tryz.func44 X<|ae<|dx 9 1<|ag X<|aa<|ap<|ae<|Z X<|lr (CD X cf)<|aa ?_;rcases Bool.eq_false_or_eq_true ((Sl.a b).isNone)with a|a
 .refine fC (Dt (α:=Y) ab (e.mono fl (ai c)) a) (λf=>?_);rw[DO f]at H;refine aU X a<|ae<|dx 9 1<|ag X<|aa ?_;obtain rfl:=si H;exact aV<|bt<|bp X (aO X) fl (ca (ai rl)) ⟨Sl.nil,X,X⟩
 refine aS X a<|bc<|aF<|ae ?_;refine Dj X X ab cf Z9 (λs3=>?_);refine Z X<|bz H λu5 h6 H=>?_;refine fk (i:=0) (α:=Y) (xs:=([]:List Y)) (ys:=a0) X X ab X X cf Tryz.typeInfo9 X X X X X X (e.mono fl (aZ c)) X (d9 h6) X (λs7=>?_);refine ag X<|aa ?_;obtain rfl:=si H;exact aV<|bp X (aO X) fl (ca (ai rl)) ⟨s7,X,X⟩
theorem VH{a0 a1 c r}(H:xD a0 a1=some r)(e:M.Sublist L)(g:Rd W F M c a0.aJ):Ok Tryz.prog W 77 [.agg (enc (aR.mk a0 c)).toArray,Y.v a1] F (L) (λ_ L' v=>∃(s1:Sl),v=.tuple #[.agg (enc (aR.mk r.1 s1)).toArray,iv r.2]/\L'=(.own s1 9 1 (I r.1.aJ))::L):=by
 let T4:Item:=.own Sl.nil 9 1 (I ([]:List Y));let T3:=aR.mk ({aw.zero with Base:=a0.Base}:aw) Sl.nil;let T2:=aR.mk ({aw.zero with aJ:=([]:List Y)}:aw) Sl.nil;let T0:=aR.mk aw.zero Sl.nil;unfold xD at H;refine bR 41 Tryz.func77 X<|ae ?_;refine fQ X X ab X (cs:=enc (aR.mk a0 c)) X (λb1=>?_);let T5:Item:=.blk b1 (enc (aR.mk a0 c)) 54;refine dx 9 1 ?_;refine dB (cs:=enc T2) X X ab Tryz.zeroValue54 X (λb4=>?_);refine ag X<|aa<|ap<|ae<|lr (dY (i:=2) X X kU ew (ch:=enc (aR.mk a0 c)) el ak)<|bz H λr6 h7 H=>bW X e0 Tryz.call94 (Fh h7 (aZ (ai e)) (g.mono fl rl))<|ag X<|bq<|Z X<|lr (eU X X)<|aa<|iz H (λn H=>?_) λn H=>aS X n<|bc<|aF<|ap<|bI<|ae<|Z X<|bz H λG A H=>bW X e0 Tryz.call95 (Bj A (aZ (ai e)))<|ag X<|aa<|iz H (λq H=>?_) λq H=>aS X q<|ae<|lr (az 1 X eP X dL X X)<|lr (aI (i:=2) X X fh (v:=Sl.v c) ((ql ak).off X))<|lr (cw (α:=Y) (xs:=a0.aJ) ab X X cf (g.mono fl (aZ (ai e))))<|lr (cN X X)<|Z X ?_
 .refine aU X n<|ae<|lr (cQ (v:=.agg (enc T0).toArray) (pv:=[]) bo (λw=>by kernel_rfl))<|Z X<|bJ 0 X X X ew (vs:=enc T0) X el (an.one _) (cs':=enc T0) bZ X<|ag X<|aa ?_;obtain rfl:=si H;exact aV<|bt<|j7 9 1<|dC X (dQ (i:=1) X X kU ew el) (aO X) fl (ca (ai (aZ rl))) ⟨Sl.nil,X,X⟩
 .refine aU X q<|ae<|lr (cQ (v:=.agg (enc T0).toArray) (pv:=[]) bo (λw=>by kernel_rfl))<|bJ 0 X X X ew (vs:=enc T0) X el (an.one _) (cs':=enc T0) bZ X<|ag X<|aa ?_;obtain rfl:=si H;exact aV<|dm<|bt<|j7 9 1<|dC X (dQ (i:=1) X X kU ew el) (aO X) fl (ca (ai (aZ rl))) ⟨Sl.nil,X,X⟩
 obtain⟨B,H,oP⟩:=bs H;refine dh (σ:=Bool) 8 (λj=>[(1,Y.v a1),(2,pv b1 0),(4,pv b4 0),(30,.bool j)]) (λj=>(.blk b4 (enc T2) 54)::T4::T5::L) (λ_ j=>j=B) ?_ ?_
 .refine iz H (λa H=>?_) λa H=>lg a (az 0 X eP X Z3 X X)<|lg a (aI (i:=2) X X I3 (v:=iv a0.Base) ((tU ak).off X))<|lg a (az 1 X eP X dL X X)<|lg a (aI (i:=2) X X fh (v:=Sl.v c) ((ql ak).off X))<|lg a (cw (α:=Y) (xs:=a0.aJ) ab X X cf (g.mono fl (aZ (ai e))))<|lg a (cM X X)<|lg a (gY X X)<|lr (cx X a X)<|aC ?_
  .exact aH X a<|aH X a<|aH X a<|aH X a<|aH X a<|aH X a<|aH X a<|lr (cD X a X)<|aC<|aT true fl e0 X (si H)
  exact aT (decide ((aq (a0.Base+(a0.aJ.length:Int)))>=(16777215:Int))) fl e0 X (si H)
 rintro mW j ie hy;subst hy;replace H:=oP;refine ag X<|aa<|iz H (λt H=>?_) λt H=>aS X t<|bc<|bY<|aF<|ap<|bz H λk u H=>bz H λQ x H=>lz H λC z H=>gO (σ:=Sl×(List Y)) 8 (λ(b,f)=>[(4,pv b4 0),(33,iv a0.Base),(39,Sl.v b)]) (λ(b,f)=>(.own b 9 1 (I f))::(.blk b4 (enc T2) 54)::T4::T5::L) (λ_(b,f)=>f=C) aE aE (gy aE aE aE) aE (λaA av=>?_) ?_
 .refine aU X t<|ae<|lr (cQ (v:=.agg (enc T0).toArray) (pv:=[]) bo (λw=>by kernel_rfl))<|bJ 0 X X X ew (vs:=enc T0) X el (an.one _) (cs':=enc T0) bZ X<|ag X<|aa ?_;obtain rfl:=si H;exact aV<|dm<|bt<|j7 9 1<|dC X (dQ (i:=1) X X kU ew el) (aO X) ie (ca (ai (aZ rl))) ⟨Sl.nil,X,X⟩
 .refine d8 (λhd w=>SH W mW ((.blk b4 (enc T2) 54)::T4::T5::L) hd w) (λ_ w h=>trivial)<|aB X aA av 0 rl X (az 0 X eP X Z3 X X)<|aB X aA av 1 rl X (aI (i:=2) X X I3 (v:=iv a0.Base) ((tU ak).off X))<|aB X aA av 2 rl X (az 1 X eP X dL X X)<|aB X aA av 3 rl X (aI (i:=2) X X fh (v:=Sl.v c) ((ql ak).off X))<|aB X aA av 5 rl X (ar X)<|mP [4,6] aE X<|iu (λinv=>?_) ?_
  .refine cl X e0 Tryz.call44 (yL u (aZ (ai e)) (g.mono ie rl)) (λCP L' v lx hv=>?_);obtain⟨J,rfl,rfl⟩:=hv;refine aC<|gP inv (λ_ w h=>(h.weaken lx).sublist (ai rl)) ?_;refine cP 6 (λinv=>?_);refine fm (α:=Y) (xs:=([a1]:List Y)) (pv:=[(0,Y.v a1)]) X X ab e0 (fq (α:=Y) (z0:=([]:Y)) (xs:=([a1]:List Y)) cf Z9 Tryz.zeroValue9 X X X ab X (gc X X)) X X ab (λK _=>?_);refine aC<|gP inv (λ_ w h=>(h.weaken lx).sublist (aZ rl)) ?_;refine cP 7 (λinv=>?_);refine fk (i:=1) (α:=Y) (xs:=k) (ys:=([a1]:List Y)) X X ab X X cf Tryz.typeInfo9 X X X X X X (aY 0 X X X) X (d9 x) X (λD=>?_);exact aC<|gP inv (λ_ w h=>(h.weaken lx).sublist (aZ rl))<|eM aE<|dW (ai rl)<|eK (D,k++([a1]:List Y)) lx e0 X z
  refine iu (λinv=>?_) bo;refine fm (α:=Y) (xs:=([a1]:List Y)) (pv:=[(0,Y.v a1)]) X X ab e0 (fq (α:=Y) (z0:=([]:Y)) (xs:=([a1]:List Y)) cf Z9 Tryz.zeroValue9 X X X ab X (gc X X)) X X ab (λN _=>?_);refine cW inv (ai rl) ?_;refine cP 4 (λinv=>?_);refine cl X e0 Tryz.call44 (yL u (cg e) (g.mono ie rl)) (λzX L' v kB hv=>?_);obtain⟨P,rfl,rfl⟩:=hv;refine aC<|gP inv (λ_ w h=>(h.weaken kB).sublist (aZ rl)) ?_;refine cP 7 (λinv=>?_);refine fk (i:=0) (α:=Y) (xs:=k) (ys:=([a1]:List Y)) X X ab X X cf Tryz.typeInfo9 X X X X X X (aY 1 X X X) X (d9 x) X (λE=>?_);exact aC<|gP inv (λ_ w h=>(h.weaken kB).sublist (aZ rl))<|eM aE<|dW (ca (ai rl))<|eK (E,k++([a1]:List Y)) kB e0 X z
 rintro F51 ⟨b,f⟩ SX hy;let T1:=aR.mk ({aw.zero with Base:=a0.Base,aJ:=f}:aw) b;subst hy;refine lr (cQ (v:=.agg (enc T1).toArray) (pv:=[(0,iv a0.Base),(1,Sl.v b)]) ⟨X,X,e0⟩ (p6 (places:=#[(0,1),(1,1)]) Tryz.zeroValue54 (zs:=enc T0) X eP (λw=>by kernel_rfl) (eX (cs:=enc T0) (cs':=enc T3) (vs:=[iv a0.Base]) X X X ((CT (p:=T0) (y:=a0.Base) (cm (vs:=[iv a0.Base]) X)).off X) (eX (cs:=enc T3) (cs':=enc T1) (vs:=[Sl.v b]) X X X ((Hr (p:=T3) (y:=b) (cm (vs:=[Sl.v b]) X)).off X) kz))))<|bJ 1 X X X ew (vs:=enc T1) X el (an.one _) (cs':=enc T1) bZ X<|ag X<|aa ?_;obtain rfl:=si H;exact aV<|dC X (dQ (i:=1) X X kU ew el) (aO X) (ft ie SX) (ca (ai (aZ rl))) ⟨b,X,X⟩
theorem MR{a0 r}(H:rC a0=some r)(a:M.Sublist L):Ok Tryz.prog W 105 [.int .u8 a0.toNat] F (L) (Is (.bool r) (L)):=by unfold rC at H;refine bR 6 Tryz.func105 X<|ae<|ag X<|bq<|Z X<|lr (zP (i:=a0) (m:=6) X X)<|lr (eU X X)<|ag X<|aa ?_;obtain rfl:=si H;exact aV<|bp X (aO X) fl rl ⟨X,X⟩
theorem MQ{a0 r}(H:rA a0=some r)(j:M.Sublist L):Ok Tryz.prog W 104 [.agg (enc a0).toArray] F (L) (Is (iv r) (L)):=by
 unfold rA at H;refine bR 21 Tryz.func104 X<|ae ?_;refine fQ X X ab X (cs:=enc a0) X (λb1=>?_);refine ag X<|aa<|ap<|ae<|lr (az 0 X gx X Z3 X X)<|lr (aI (i:=0) X X I3 (v:=iv a0.bS) ((lL ak).off X))<|lr (bF X X)<|Z X ?_;obtain⟨o3,H,lS⟩:=bs H;refine dh (σ:=Bool) 4 (λy4=>[(1,pv b1 0),(10,.bool y4)]) (λy4=>(.blk b1 (enc a0) 32)::L) (λ_ y4=>y4=o3) ?_ ?_
 .refine iz H (λc H=>?_) λc H=>lg c (az 0 X gx X Z3 X X)<|lg c (aI (i:=0) X X I3 (v:=iv a0.bS) ((lL ak).off X))<|lg c (ef X X)<|lr (cx X c X)<|aC ?_
  .exact aH X c<|aH X c<|aH X c<|lr (cD X c X)<|aC<|aT true fl e0 X (si H)
  exact aT (decide (a0.bS>(16777215:Int))) fl e0 X (si H)
 rintro F6 y4 gl hy;subst hy;replace H:=lS;refine Z X ?_;obtain⟨o8,H,rR⟩:=bs H;refine dh (σ:=Bool) 4 (λy9=>[(1,pv b1 0),(15,.bool y9)]) (λy9=>(.blk b1 (enc a0) 32)::L) (λ_ y9=>y9=o8) ?_ ?_
 .refine iz H (λa H=>?_) λa H=>lg a (az 1 X gx X Z5 X X)<|lg a (aI (i:=0) X X I5 (v:=.int .u8 a0.bx.toNat) ((kq ak).off X))<|lg a (cN X X)<|lr (cx X a X)<|aC ?_
  .exact aH X a<|aH X a<|aH X a<|lr (cD X a X)<|aC<|aT true fl e0 X (si H)
  exact aT ((a0.bx.toNat:Int)==((0:BitVec 8).toNat:Int)) fl e0 X (si H)
 rintro wo y9 jC hy;subst hy;replace H:=rR;refine Z X ?_;obtain⟨k,H,rQ⟩:=bs H;refine dh (σ:=Bool) 4 (λe=>[(20,.bool e)]) (λe=>(.blk b1 (enc a0) 32)::L) (λ_ e=>e=k) ?_ ?_
 .refine iz H (λb H=>?_) λb H=>lg b (az 1 X gx X Z5 X X)<|lg b (aI (i:=0) X X I5 (v:=.int .u8 a0.bx.toNat) ((kq ak).off X))<|bz H λn g H=>rc X X X b X ab e0 Tryz.call105 (MR g (ai j))<|lr (cx X b X)<|aC ?_
  .exact aH X b<|aH X b<|aH X b<|lr (cD X b X)<|aC<|aT true fl e0 X (si H)
  exact aT n fl e0 X (si H)
 rintro OA e AF hy;subst hy;replace H:=rQ;refine aa<|iz H (λf H=>?_) λf H=>aS X f<|bc<|aF<|ae<|ag X<|aa ?_
 .refine aU X f<|ae<|ag X<|aa ?_;obtain rfl:=si H;exact aV<|bt<|bp X (aO X) (ft (ft gl jC) AF) (ai rl) ⟨X,X⟩
 obtain rfl:=si H;exact aV<|bp X (aO X) (ft (ft gl jC) AF) (ai rl) ⟨X,X⟩
theorem V3{a0 r}(H:uX a0=some r)(a:M.Sublist L):Ok Tryz.prog W 118 [.int .u8 a0.toNat] F (L) (Is (iv r) (L)):=by unfold uX at H;refine bR 6 Tryz.func118 X<|ae<|ag X<|bq<|Z X<|bz H λx1 h2 H=>lr (fJ X X U9 h2)<|lr (md (j:=(x1.toBitVec.toNat:Int)) X U5 U3 (bO O O))<|ag X<|aa ?_;obtain rfl:=si H;exact aV<|bp X (aO X) fl rl ⟨X,X⟩
theorem aa9{a0 r}(H:qb a0=some r)(b:M.Sublist L):Ok Tryz.prog W 97 [.agg (enc a0).toArray] F (L) (Is (.tuple #[iv r.1,iv r.2]) (L)):=by
 unfold qb at H;refine bR 13 Tryz.func97 X<|ae ?_;refine fQ X X ab X (cs:=enc a0) X (λb1=>?_);refine ag X<|ag X<|aa<|ap<|ae<|lr (dY (i:=0) X X hK dz (ch:=enc a0) el ak)<|bz H λr3 h4 H=>bW X e0 Tryz.call104 (MQ h4 (ai b))<|ag X<|bq<|Z X<|lr (eU X X)<|aa<|iz H (λa H=>?_) λa H=>aS X a<|bc<|aF<|ae<|lr (az 1 X gx X Z5 X X)<|lr (aI (i:=0) X X I5 (v:=.int .u8 a0.bx.toNat) ((kq ak).off X))<|bz H λr8 h9 H=>bW X e0 Tryz.call118 (V3 h9 (ai b))<|ag X<|ag X<|aa ?_
 .refine aU X a<|ae<|Z X<|ag X<|ag X<|aa ?_;obtain rfl:=si H;exact aV<|bt<|dC X (aO X) (aO X) fl (ai rl) ⟨X,X⟩
 obtain rfl:=si H;exact aV<|dC X (aO X) (aO X) fl (ai rl) ⟨X,X⟩
theorem zG{a0 f b c e r}{a:List ax}(H:qh a0=some r)(g:M.Sublist L)(j:a.map ax.v=a0.all)(k:aL dU W F [] a):Ok Tryz.prog W 79 [pv f 0] F ((.rows (α:=ay) 80 (List.map ax.row a))::(.own b 157 8 (I a))::(.own c 9 1 (I a0.aQ))::(.own e 9 1 (I a0.ah))::(.blk f (enc (bT.mk a0 b c e)) 132)::L) (Is (iv r) ((.rows (α:=ay) 80 (List.map ax.row a))::(.own b 157 8 (I a))::(.own c 9 1 (I a0.aQ))::(.own e 9 1 (I a0.ah))::(.blk f (enc (bT.mk a0 b c e)) 132)::L)):=by unfold qh at H;refine bR 14 Tryz.func79 X<|ae<|ag X<|bq<|Z X<|lr (bP X)<|lr (az 0 X eo X dz X X)<|lr (dY (i:=4) X X hK dz (ch:=enc a0.aD) el ((Ah ak).off X))<|bz H λr6 h7 H=>bW X e0 Tryz.call97 (aa9 h7 (cg (ai g)))<|Z X<|lr (cn X X)<|lr (cn X X)<|ag X<|ag X<|bq<|Z X<|ag X<|aa ?_;obtain rfl:=si H;exact aV<|bp X (aO X) fl rl ⟨X,X⟩
theorem Ct{a0 a1 a2 r}(H:rF a0 a1 a2=some r)(b:M.Sublist L):Ok Tryz.prog W 120 [iv a0,iv a1,iv a2] F (L) (Is (.bool r) (L)):=by
 unfold rF at H;refine bR 15 Tryz.func120 X<|ae<|ag X<|bq<|Z X<|Z X<|lr (gY X X)<|Z X ?_;obtain⟨o1,H,kT⟩:=bs H;refine dh (σ:=Bool) 4 (λy2=>[(14,.bool y2)]) (λy2=>L) (λ_ y2=>y2=o1) ?_ ?_
 .refine iy H (λa H=>?_) λa H=>lg a (ar X)<|lg a (ar X)<|lg a (Ev.leq X X)<|lr (cD X a X)<|aC ?_
  .exact aH X a<|aH X a<|aH X a<|lr (cx X a X)<|aC<|aT false fl e0 X (si H)
  exact aT (decide (a0<=a2)) fl e0 X (si H)
 rintro F4 y2 gI hy;subst hy;replace H:=kT;refine ag X<|aa ?_;obtain rfl:=si H;exact aV<|bp X (aO X) gI rl ⟨X,X⟩
theorem Gt{a0 r}(H:tJ a0=some r)(a:M.Sublist L):Ok Tryz.prog W 119 [iv a0] F (L) (Is (.bool r) (L)):=by unfold tJ at H;refine bR 5 Tryz.func119 X<|ae<|ag X<|bq<|Z X<|bz H λr1 h2 H=>bW X e0 Tryz.call120 (Ct h2 a)<|ag X<|aa ?_;obtain rfl:=si H;exact aV<|bp X (aO X) fl rl ⟨X,X⟩
theorem abe{a0 a r}(H:Cs a0=some r)(b:M.Sublist L):Ok Tryz.prog W 122 [iv a0,pv a 0] F ((.blk a [.func (.func 119) #[] #[]] 116)::L) (Is (.bool r) ((.blk a [.func (.func 119) #[] #[]] 116)::L)):=by unfold Cs at H;refine bR 8 Tryz.func122 X<|ae<|ag X<|bq<|lr (aI (i:=0) X X Dd (v:=.func (.func 119) #[] #[]) ak)<|Z X<|bz H λr2 h3 H=>mH X X ab (vs:=[iv a0]) (cs:=[]) X e0 Tryz.call119 (Gt h3 (ai b))<|lr (fD X)<|ag X<|aa ?_;obtain rfl:=si H;exact aV<|bp X (aO X) fl rl ⟨X,X⟩
theorem aan{a0 f n4 r}(H:yT a0=some r)(a:M.Sublist L)(b:Rd W F M f a0):Ok Tryz.prog W 136 [Sl.v f,.func (.func 122) #[] #[pv n4 0]] F ((.blk n4 [.func (.func 119) #[] #[]] 116)::L) (Is (iv r) ((.blk n4 [.func (.func 119) #[] #[]] 116)::L)):=by
 unfold yT at H;refine bR 19 Tryz.func136 X<|ae<|ag X<|aa<|ap<|ae<|Z X<|lr (cw (α:=Int) (xs:=a0) ab X X lp (b.mono fl (ai a)))<|Z X<|aa<|bI ?_;refine fC (fT (α:=Int) (xs:=a0) ab (b.mono fl (ai a))) (λEw=>?_);obtain⟨j,H,nR⟩:=gR H;refine dH (σ:=Nat×Nat×Unit) (λ(i2,k2,_u)=>[(0,Sl.v f),(1,.func (.func 122) #[] #[pv n4 0]),(7,iv (a0.length:Int)),(8,iv (i2:Int))]) (λ(i2,k2,_u)=>(.blk n4 [.func (.func 119) #[] #[]] 116)::L) (λ_=>(λ(i2,k2,_u)=>dT (B7 a0) k2 i2 ()=some j/\i2+k2=a0.length)) (λ(i2,k2,_u)=>k2) (0,a0.length,()) e0 X ⟨H,by omega⟩ ?_;rintro F3 ⟨i2,k2,_u⟩ ip ⟨H,n⟩;rcases k2 with _|k2
 .have e:decide ((i2:Int)<(a0.length:Int))=false:=cX O;replace H:=oK H;refine ae<|lr (bF X X)<|aa<|ap<|aS X e<|dr<|bQ<|bQ<|dt ?_;subst H;replace H:=nR;refine aF<|ae<|ag X<|aa ?_;obtain rfl:=si H;exact aV<|bp X (aO X) ip rl ⟨X,X⟩
 have e:decide ((i2:Int)<(a0.length:Int))=true:=dl O;obtain⟨c2,H,g,k,i⟩:=oL H;unfold B7 at H
 try dsimp only at H
 refine ae<|lr (bF X X)<|aa<|ap<|aU X e<|bc<|aF<|ap<|bI<|ae<|Z X<|ag X<|bq<|Z X<|Z X<|Z X<|bz H λx5 h6 H=>have g7:=cd h6;lr (cp (α:=Int) (xs:=a0) X X lp Z3 X ab (b.mono ip (ai a)) g7.1 g7.2.1)<|lr (dR (α:=Int) X (b.mono ip (ai a)) I3 (v:=iv x5) ((bK (s:=1) (x:=x5) X g7.2.2 ak).off O))<|bz H λr8 h9 H=>mH X X ab (vs:=[iv x5]) (cs:=[pv n4 0]) X e0 Tryz.call122 (abe h9 a)<|aa<|iz H (λc H=>?_) λc H=>aS X c<|bc<|bY<|aF<|bB<|lr (dG O X X)<|Z X<|aC ?_
 .refine aU X c<|ae<|Z X<|ag X<|aa ?_;have H:=i _ (sj H);subst H;replace H:=nR;obtain rfl:=si H;exact aV<|dm<|bt<|bt<|dm<|bt<|bp X (aO X) ip rl ⟨X,X⟩
 exact aT (i2+1,k2,()) ip e0 X ⟨⟨g _ (sj H),by omega⟩,cL⟩
theorem aah{a0 a n4 r}(H:yN a0=some r)(b:M.Sublist L)(c:Rd W F M a a0):Ok Tryz.prog W 121 [Sl.v a,.func (.func 122) #[] #[pv n4 0]] F ((.blk n4 [.func (.func 119) #[] #[]] 116)::L) (Is (.bool r) ((.blk n4 [.func (.func 119) #[] #[]] 116)::L)):=by unfold yN at H;refine bR 9 Tryz.func121 X<|ae<|ag X<|bq<|Z X<|Z X<|bz H λr2 h3 H=>bW X e0 Tryz.call136 (aan h3 b (c.mono fl rl))<|lr (gY X X)<|ag X<|aa ?_;obtain rfl:=si H;exact aV<|bp X (aO X) fl rl ⟨X,X⟩
theorem MX{a0 r}(H:mV a0=some r)(f:M.Sublist L):Ok Tryz.prog W 101 [.agg (enc a0).toArray] F (L) (Is (iv r) (L)):=by
 unfold mV at H;refine bR 45 Tryz.func101 X<|ae ?_;refine fQ X X ab X (cs:=enc a0) X (λb1=>?_);refine ag X<|bq ?_;refine dB (cs:=[.nilFunc]) X X ab Tryz.zeroValue116 X (λb3=>?_);let T1:Item:=.blk b3 [.func (.func 119) #[] #[]] 116;refine bJ 0 X X X Q5 (vs:=[.func (.func 119) #[] #[]]) X X X (cs':=[.func (.func 119) #[] #[]]) (cm (vs:=[.func (.func 119) #[] #[]]) X) X<|aa<|ap<|bI<|ae<|lr (az 0 X di X Z3 X X)<|lr (aI (i:=1) X X I3 (v:=iv a0.ba) ((uY ak).off X))<|bz H λr5 h6 H=>bW X e0 Tryz.call120 (Ct h6 (aZ f))<|lr (fD X)<|Z X ?_;obtain⟨o9,H,rS⟩:=bs H;refine dh (σ:=Bool) 5 (λg=>[(1,pv b1 0),(3,pv b3 0),(14,.bool g)]) (λg=>T1::(.blk b1 (enc a0) 114)::L) (λ_ g=>g=o9) ?_ ?_
 .refine iz H (λc H=>?_) λc H=>lg c (az 1 X di X Z3 X X)<|lg c (aI (i:=1) X X I3 (v:=iv a0.aw) ((mc ak).off X))<|bz H λE w H=>rc X X X c X ab e0 Tryz.call120 (Ct w (aZ f))<|lg c (fD X)<|lr (cx X c X)<|aC ?_
  .exact aH X c<|aH X c<|aH X c<|aH X c<|lr (cD X c X)<|aC<|aT true fl e0 X (si H)
  exact aT (!E) fl e0 X (si H)
 rintro nQ g dX hy;subst hy;replace H:=rS;refine Z X ?_;obtain⟨B,H,oP⟩:=bs H;refine dh (σ:=Bool) 5 (λj=>[(1,pv b1 0),(3,pv b3 0),(20,.bool j)]) (λj=>T1::(.blk b1 (enc a0) 114)::L) (λ_ j=>j=B) ?_ ?_
 .refine iz H (λe H=>?_) λe H=>lg e (az 2 X di X Z3 X X)<|lg e (aI (i:=1) X X I3 (v:=iv a0.To) ((li ak).off X))<|bz H λG x H=>rc X X X e X ab e0 Tryz.call120 (Ct x (aZ f))<|lg e (fD X)<|lr (cx X e X)<|aC ?_
  .exact aH X e<|aH X e<|aH X e<|aH X e<|lr (cD X e X)<|aC<|aT true fl e0 X (si H)
  exact aT (!G) fl e0 X (si H)
 rintro OD j qH hy;subst hy;replace H:=oP;refine Z X ?_;obtain⟨C,H,Pw⟩:=bs H;refine dh (σ:=Bool) 6 (λk=>[(1,pv b1 0),(3,pv b3 0),(27,.bool k)]) (λk=>T1::(.blk b1 (enc a0) 114)::L) (λ_ k=>k=C) ?_ ?_
 .refine iz H (λa H=>?_) λa H=>lg a (aI (i:=0) X X Dd (v:=.func (.func 119) #[] #[]) ak)<|lg a (az 3 X di X Z3 X X)<|lg a (aI (i:=1) X X I3 (v:=iv a0.bh) ((uZ ak).off X))<|bz H λJ y H=>Dk X X X a X ab (vs:=[iv a0.bh]) (cs:=[]) X e0 Tryz.call119 (Gt y (aZ f))<|lg a (fD X)<|lr (cx X a X)<|aC ?_
  .exact aH X a<|aH X a<|aH X a<|aH X a<|aH X a<|lr (cD X a X)<|aC<|aT true fl e0 X (si H)
  exact aT (!J) fl e0 X (si H)
 rintro zV k lZ hy;subst hy;replace H:=Pw;refine Z X ?_;obtain⟨D,H,PB⟩:=bs H;refine dh (σ:=Bool) 6 (λn=>[(1,pv b1 0),(3,pv b3 0),(34,.bool n)]) (λn=>T1::(.blk b1 (enc a0) 114)::L) (λ_ n=>n=D) ?_ ?_
 .refine iz H (λb H=>?_) λb H=>lg b (aI (i:=0) X X Dd (v:=.func (.func 119) #[] #[]) ak)<|lg b (az 4 X di X Z3 X X)<|lg b (aI (i:=1) X X I3 (v:=iv a0.ao) ((mJ ak).off X))<|bz H λK z H=>Dk X X X b X ab (vs:=[iv a0.ao]) (cs:=[]) X e0 Tryz.call119 (Gt z (aZ f))<|lg b (fD X)<|lr (cx X b X)<|aC ?_
  .exact aH X b<|aH X b<|aH X b<|aH X b<|aH X b<|lr (cD X b X)<|aC<|aT true fl e0 X (si H)
  exact aT (!K) fl e0 X (si H)
 rintro OF n En hy;let T0:=ft (ft (ft dX qH) lZ) En;subst hy;replace H:=PB;refine ag X<|aa<|iz H (λq H=>?_) λq H=>aS X q<|ae<|lr (az 5 X di X wE X X)<|lr (zQ X wA Z3)<|lr (Ev.makeFunc (us:=[]) (vs:=[pv b3 0]) bo e0)<|bz H λN A H=>bW X e0 Tryz.call121 (aah A rl (Rd.blk (i:=0) (xs:=a0.At.toList) X ((Aa ak).off X) (by simp) ab))<|ag X<|aa<|iz H (λt H=>?_) λt H=>aS X t<|ae<|lr (az 11 X di X Z9 X X)<|lr (aI (i:=1) X X I9 (v:=Y.v a0.aM) ((sX ak).off X))<|lr (fK X X U9)<|lr (ef X X)<|ag X<|aa<|iz H (λu H=>?_) λu H=>aS X u<|bc<|bY<|aF<|ae<|ag X<|aa ?_
 .refine aU X q<|ae<|ag X<|aa ?_;obtain rfl:=si H;exact aV<|dm<|bt<|bp X (aO X) T0 (aZ rl) ⟨X,X⟩
 .refine aU X t<|ae<|ag X<|aa ?_;obtain rfl:=si H;exact aV<|dm<|bt<|bp X (aO X) T0 (aZ rl) ⟨X,X⟩
 .refine aU X u<|ae<|ag X<|aa ?_;obtain rfl:=si H;exact aV<|dm<|bt<|bp X (aO X) T0 (aZ rl) ⟨X,X⟩
 obtain rfl:=si H;exact aV<|bp X (aO X) T0 (aZ rl) ⟨X,X⟩
theorem M0{a0 r}(H:vV a0=some r)(a:M.Sublist L):Ok Tryz.prog W 117 [iv a0] F (L) (λ_ L' v=>∃(s1:Sl),v=Sl.v s1/\L'=(.own s1 5 1 (I r))::L):=by unfold vV at H;refine bR 12 Tryz.func117 X<|ae<|dx 5 1<|ag X<|bq<|Z X<|lr (pO X U3 U5)<|Z X<|lr (CG (i:=a0) (m:=8) X X)<|lr (pO X U3 U5)<|Z X<|lr (CG (i:=a0) (m:=16) X X)<|lr (pO X U3 U5) ?_;refine fm (α:=BitVec 8) (xs:=([BitVec.ofInt 8 a0,BitVec.ofInt 8 (a0.fdiv (2^(min 8 64)):Int),BitVec.ofInt 8 (a0.fdiv (2^(min 16 64)):Int)]:List (BitVec 8))) (pv:=[(0,.int .u8 (BitVec.ofInt 8 a0).toNat),(1,.int .u8 (BitVec.ofInt 8 (a0.fdiv (2^(min 8 64)):Int)).toNat),(2,.int .u8 (BitVec.ofInt 8 (a0.fdiv (2^(min 16 64)):Int)).toNat)]) X X ab ⟨X,X,⟨X,X,e0⟩⟩ (fq (α:=BitVec 8) (z0:=(0:BitVec 8)) (xs:=([BitVec.ofInt 8 a0,BitVec.ofInt 8 (a0.fdiv (2^(min 8 64)):Int),BitVec.ofInt 8 (a0.fdiv (2^(min 16 64)):Int)]:List (BitVec 8))) fY Z5 Tryz.zeroValue5 X X X ab X (eX (cs:=I (List.replicate 3 (0:BitVec 8))) (cs':=I ((List.replicate 3 (0:BitVec 8)).set 0 (BitVec.ofInt 8 a0))) (vs:=[.int .u8 (BitVec.ofInt 8 a0).toNat]) X X X ((d5 (s:=1) (i:=0) (x:=(0:BitVec 8)) (y:=(BitVec.ofInt 8 a0)) X X (cm (vs:=[.int .u8 (BitVec.ofInt 8 a0).toNat]) X)).off X) (eX (cs:=I ((List.replicate 3 (0:BitVec 8)).set 0 (BitVec.ofInt 8 a0))) (cs':=I (((List.replicate 3 (0:BitVec 8)).set 0 (BitVec.ofInt 8 a0)).set 1 (BitVec.ofInt 8 (a0.fdiv (2^(min 8 64)):Int)))) (vs:=[.int .u8 (BitVec.ofInt 8 (a0.fdiv (2^(min 8 64)):Int)).toNat]) X X X ((d5 (s:=1) (i:=1) (x:=(0:BitVec 8)) (y:=(BitVec.ofInt 8 (a0.fdiv (2^(min 8 64)):Int))) X X (cm (vs:=[.int .u8 (BitVec.ofInt 8 (a0.fdiv (2^(min 8 64)):Int)).toNat]) X)).off X) (eX (cs:=I (((List.replicate 3 (0:BitVec 8)).set 0 (BitVec.ofInt 8 a0)).set 1 (BitVec.ofInt 8 (a0.fdiv (2^(min 8 64)):Int)))) (cs':=I ((((List.replicate 3 (0:BitVec 8)).set 0 (BitVec.ofInt 8 a0)).set 1 (BitVec.ofInt 8 (a0.fdiv (2^(min 8 64)):Int))).set 2 (BitVec.ofInt 8 (a0.fdiv (2^(min 16 64)):Int)))) (vs:=[.int .u8 (BitVec.ofInt 8 (a0.fdiv (2^(min 16 64)):Int)).toNat]) X X X ((d5 (s:=1) (i:=2) (x:=(0:BitVec 8)) (y:=(BitVec.ofInt 8 (a0.fdiv (2^(min 16 64)):Int))) X X (cm (vs:=[.int .u8 (BitVec.ofInt 8 (a0.fdiv (2^(min 16 64)):Int)).toNat]) X)).off X) kz)))) X X ab (λs2 _=>?_);refine ag X<|aa ?_;obtain rfl:=si H;exact aV<|bp X (aO X) fl (ca (ai rl)) ⟨s2,X,X⟩
theorem MY{a0 r}(H:rE a0=some r)(q:M.Sublist L):Ok Tryz.prog W 99 [Y.v a0] F (L) (Is (.int .u32 r.toNat) (L)):=by
 unfold rE at H;refine bR 31 Tryz.func99 X<|ae<|ag X<|bq<|ag X<|aa<|ap<|ae<|Z X<|lr (fK X X U9)<|Z X<|aa<|bI<|bz H λf Ew H=>?_;replace Ew:=tH Ew;obtain⟨k,H,mX⟩:=bs H;refine dH (σ:=Nat×Nat×(BitVec 32)) (λ(i1,k1,y2)=>[(0,Y.v a0),(3,.int .u32 y2.toNat),(7,iv (a0.length:Int)),(8,iv (i1:Int))]) (λ(i1,k1,y2)=>L) (λ_=>(λ(i1,k1,y2)=>bE (zq a0) k1 i1 y2=some k/\i1+k1=f)) (λ(i1,k1,y2)=>k1) (0,f,(4294967295:BitVec 32)) e0 X ⟨H,by omega⟩ ?_;rintro F3 ⟨i1,k1,y2⟩ ip ⟨H,t⟩;rcases k1 with _|k1
 .have b:decide ((i1:Int)<(a0.length:Int))=false:=cX O;replace H:=fU H;refine ae<|lr (bF X X)<|aa<|ap<|aS X b<|dr<|bQ<|bQ<|dt ?_;subst H;replace H:=mX;refine aF<|ae<|Z X<|lr (NF (i:=y2) X)<|ag X<|aa ?_;obtain rfl:=si H;exact aV<|bp X (aO X) ip rl ⟨X,X⟩
 have b:decide ((i1:Int)<(a0.length:Int))=true:=dl O;obtain⟨c1,H,g⟩:=fV H;unfold zq at H
 try dsimp only at H
 refine ae<|lr (bF X X)<|aa<|ap<|aU X b<|bc<|aF<|ap<|bI<|ae<|Z X<|ag X<|bq<|Z X<|Z X<|Z X<|bz H λx6 h7 H=>lr (fJ X X U9 h7)<|lr (CC X U5 t9)<|lr (Ha (i:=y2) (j:=BitVec.ofInt 32 (x6.toBitVec.toNat:Int)) X X)<|ag X<|bq<|Z X<|aa<|bI ?_;obtain⟨n,H,Ph⟩:=bs H;refine dH (σ:=Nat×Nat×(BitVec 32)) (λ(i8,k8,y9)=>[(0,Y.v a0),(3,.int .u32 y9.toNat),(7,iv (a0.length:Int)),(8,iv (i1:Int)),(17,iv (i8:Int))]) (λ(i8,k8,y9)=>L) (λ_=>(λ(i8,k8,y9)=>bE (zr) k8 i8 y9=some n/\i8+k8=8)) (λ(i8,k8,y9)=>k8) (0,8,y2^^^(BitVec.ofInt 32 (x6.toBitVec.toNat:Int))) e0 X ⟨H,by omega⟩ ?_;rintro On ⟨i8,k8,y9⟩ qC ⟨H,u⟩;rcases k8 with _|k8
 .have c:decide ((i8:Int)<(8:Int))=false:=cX O;replace H:=fU H;refine ae<|lr (bF X X)<|aa<|ap<|aS X c<|dr<|bQ<|bQ<|dt ?_;subst H;replace H:=Ph;exact bY<|aF<|bB<|lr (dG O X X)<|Z X<|aC<|aT (i1+1,k1,y9) (ft ip qC) e0 X ⟨⟨g _ (sj H),by omega⟩,cL⟩
 have c:decide ((i8:Int)<(8:Int))=true:=dl O;obtain⟨c8,H,e⟩:=fV H;unfold zr at H
 try dsimp only at H
 refine ae<|lr (bF X X)<|aa<|ap<|aU X c<|bc<|aF<|ap<|bI<|ae<|Z X<|lr (NB (i:=y9) (j:=(1:BitVec 32)) X X)<|ag X<|bq<|Z X<|lr (G6 (i:=y9) (m:=1) X X)<|ag X<|bq<|Z X<|lr (cN X X)<|aa<|iy H (λa H=>?_) λa H=>aU X a<|bB<|Z X<|lr (Ha (i:=y9>>>1) (j:=(2197175160:BitVec 32)) X X)<|ag X<|aC<|bY<|aF<|bB<|lr (dG O X X)<|Z X<|aC ?_
 .exact aS X a<|bc<|bY<|aF<|bB<|lr (dG O X X)<|Z X<|aC<|aT (i8+1,k8,y9>>>1) qC e0 X ⟨⟨e _ (sj H),by omega⟩,cL⟩
 exact aT (i8+1,k8,(y9>>>1)^^^(2197175160:BitVec 32)) qC e0 X ⟨⟨e _ (sj H),by omega⟩,cL⟩
theorem MZ{a0 r}(H:vU a0=some r)(b:M.Sublist L):Ok Tryz.prog W 98 [.int .u32 a0.toNat] F (L) (λ_ L' v=>∃(s1:Sl),v=Sl.v s1/\L'=(.own s1 5 1 (I r))::L):=by unfold vU at H;refine bR 11 Tryz.func98 X<|ae<|dx 5 1<|ag X<|bq<|Z X<|lr (md (j:=(a0.toNat:Int)) X t9 U3 (bO O O))<|bz H λr2 h3 H=>?_;refine cl X e0 Tryz.call117 (M0 h3 (ai b)) (λF6 L' v gl hv=>?_);obtain⟨s4,rfl,rfl⟩:=hv;refine Z X<|lr (G6 (i:=a0) (m:=24) X X)<|lr (pO X t9 U5) ?_;refine fm (α:=BitVec 8) (xs:=([BitVec.ofInt 8 ((a0>>>24).toNat:Int)]:List (BitVec 8))) (pv:=[(0,.int .u8 (BitVec.ofInt 8 ((a0>>>24).toNat:Int)).toNat)]) X X ab e0 (fq (α:=BitVec 8) (z0:=(0:BitVec 8)) (xs:=([BitVec.ofInt 8 ((a0>>>24).toNat:Int)]:List (BitVec 8))) fY Z5 Tryz.zeroValue5 X X X ab X (gc X X)) X X ab (λs8 _=>?_);obtain⟨e,a,H⟩:=bs H;refine fk (i:=1) (α:=BitVec 8) (xs:=r2) (ys:=([BitVec.ofInt 8 ((a0>>>24).toNat:Int)]:List (BitVec 8))) X X ab X X fY Tryz.typeInfo5 X X X X X X (aY 0 X X X) X (d9 a) X (λc=>?_);refine ag X<|aa ?_;obtain rfl:=si H;exact aV<|bp X (aO X) gl (ai (ca (ai rl))) ⟨c,X,X⟩
theorem abf{a0 r}(H:tK a0=some r)(g:M.Sublist L):Ok Tryz.prog W 96 [.agg (enc a0).toArray] F (L) (Is (.tuple #[Y.v r.1,iv r.2]) (L)):=by
 unfold tK at H;refine bR 52 Tryz.func96 X<|ae ?_;refine fQ X X ab X (cs:=enc a0) X (λb1=>?_);refine ag X<|ag X<|aa<|ap<|ae<|lr (dY (i:=0) X X kv fG (ch:=enc a0) el ak)<|bz H λr3 h4 H=>bW X e0 Tryz.call101 (MX h4 (ai g))<|ag X<|bq<|Z X<|lr (eU X X)<|aa<|iz H (λk H=>?_) λk H=>aS X k<|bc<|aF<|ae<|lr (az 0 X di X Z3 X X)<|lr (aI (i:=0) X X I3 (v:=iv a0.ba) ((uY ak).off X))<|lr (pO X U3 U5)<|lr (az 1 X di X Z3 X X)<|lr (aI (i:=0) X X I3 (v:=iv a0.aw) ((mc ak).off X))<|lr (pO X U3 U5)<|lr (az 2 X di X Z3 X X)<|lr (aI (i:=0) X X I3 (v:=iv a0.To) ((li ak).off X))<|lr (pO X U3 U5) ?_
 .refine aU X k<|ae<|Z X<|ag X<|ag X<|aa ?_;obtain rfl:=si H;exact aV<|bt<|dC X (aO X) (aO X) fl (ai rl) ⟨X,X⟩
 refine fm (α:=BitVec 8) (xs:=([BitVec.ofInt 8 a0.ba,BitVec.ofInt 8 a0.aw,BitVec.ofInt 8 a0.To]:List (BitVec 8))) (pv:=[(0,.int .u8 (BitVec.ofInt 8 a0.ba).toNat),(1,.int .u8 (BitVec.ofInt 8 a0.aw).toNat),(2,.int .u8 (BitVec.ofInt 8 a0.To).toNat)]) X X ab ⟨X,X,⟨X,X,e0⟩⟩ (fq (α:=BitVec 8) (z0:=(0:BitVec 8)) (xs:=([BitVec.ofInt 8 a0.ba,BitVec.ofInt 8 a0.aw,BitVec.ofInt 8 a0.To]:List (BitVec 8))) fY Z5 Tryz.zeroValue5 X X X ab X (eX (cs:=I (List.replicate 3 (0:BitVec 8))) (cs':=I ((List.replicate 3 (0:BitVec 8)).set 0 (BitVec.ofInt 8 a0.ba))) (vs:=[.int .u8 (BitVec.ofInt 8 a0.ba).toNat]) X X X ((d5 (s:=1) (i:=0) (x:=(0:BitVec 8)) (y:=(BitVec.ofInt 8 a0.ba)) X X (cm (vs:=[.int .u8 (BitVec.ofInt 8 a0.ba).toNat]) X)).off X) (eX (cs:=I ((List.replicate 3 (0:BitVec 8)).set 0 (BitVec.ofInt 8 a0.ba))) (cs':=I (((List.replicate 3 (0:BitVec 8)).set 0 (BitVec.ofInt 8 a0.ba)).set 1 (BitVec.ofInt 8 a0.aw))) (vs:=[.int .u8 (BitVec.ofInt 8 a0.aw).toNat]) X X X ((d5 (s:=1) (i:=1) (x:=(0:BitVec 8)) (y:=(BitVec.ofInt 8 a0.aw)) X X (cm (vs:=[.int .u8 (BitVec.ofInt 8 a0.aw).toNat]) X)).off X) (eX (cs:=I (((List.replicate 3 (0:BitVec 8)).set 0 (BitVec.ofInt 8 a0.ba)).set 1 (BitVec.ofInt 8 a0.aw))) (cs':=I ((((List.replicate 3 (0:BitVec 8)).set 0 (BitVec.ofInt 8 a0.ba)).set 1 (BitVec.ofInt 8 a0.aw)).set 2 (BitVec.ofInt 8 a0.To))) (vs:=[.int .u8 (BitVec.ofInt 8 a0.To).toNat]) X X X ((d5 (s:=1) (i:=2) (x:=(0:BitVec 8)) (y:=(BitVec.ofInt 8 a0.To)) X X (cm (vs:=[.int .u8 (BitVec.ofInt 8 a0.To).toNat]) X)).off X) kz)))) X X ab (λs8 _=>?_);let T0:Item:=.own s8 5 1 (I ([BitVec.ofInt 8 a0.ba,BitVec.ofInt 8 a0.aw,BitVec.ofInt 8 a0.To]:List (BitVec 8)));refine ag X<|aa<|ap<|ap<|bz H λan B H=>lz H λR C H=>gO (σ:=Sl×(List Int)) 10 (λ(e,c)=>[(1,pv b1 0),(5,Sl.v s8),(30,Sl.v e),(31,iv ((([a0.bh,a0.ao]:List Int)++a0.At.toList).length:Int)),(32,iv (0:Int))]) (λ(e,c)=>(.own e 3 1 (I c))::T0::(.blk b1 (enc a0) 114)::L) (λ_(e,c)=>c=R) aE aE (RA X) aE (λaA av=>?_) ?_
 .refine d8 (λhd w=>SH W F (T0::(.blk b1 (enc a0) 114)::L) hd w) (λ_ w h=>trivial)<|aB X aA av 0 rl X (az 3 X di X Z3 X X)<|aB X aA av 1 rl X (aI (i:=1) X X I3 (v:=iv a0.bh) ((uZ ak).off X))<|aB X aA av 2 rl X (az 4 X di X Z3 X X)<|aB X aA av 3 rl X (aI (i:=1) X X I3 (v:=iv a0.ao) ((mJ ak).off X))<|aB X aA av 5 rl X (az 5 X di X wE X X)<|aB X aA av 6 rl X (zQ X wA Z3)<|aB X aA av 9 rl X (ar X) ?_;refine cP 4 (λinv=>?_);refine fm (α:=Int) (xs:=([a0.bh,a0.ao]:List Int)) (pv:=[(0,iv a0.bh),(1,iv a0.ao)]) X X ab ⟨X,X,e0⟩ (fq (α:=Int) (z0:=(0:Int)) (xs:=([a0.bh,a0.ao]:List Int)) lp Z3 Tryz.zeroValue3 X X X ab X (eX (cs:=I (List.replicate 2 (0:Int))) (cs':=I ((List.replicate 2 (0:Int)).set 0 a0.bh)) (vs:=[iv a0.bh]) X X X ((d5 (s:=1) (i:=0) (x:=(0:Int)) (y:=a0.bh) X X (cm (vs:=[iv a0.bh]) X)).off X) (eX (cs:=I ((List.replicate 2 (0:Int)).set 0 a0.bh)) (cs':=I (((List.replicate 2 (0:Int)).set 0 a0.bh).set 1 a0.ao)) (vs:=[iv a0.ao]) X X X ((d5 (s:=1) (i:=1) (x:=(0:Int)) (y:=a0.ao) X X (cm (vs:=[iv a0.ao]) X)).off X) kz))) X X ab (λaf _=>?_);refine cW inv (ai rl) ?_;refine cP 7 (λinv=>?_);refine fk (i:=0) (α:=Int) (xs:=([a0.bh,a0.ao]:List Int)) (ys:=a0.At.toList) X X ab X X lp Tryz.typeInfo3 X X X X X X (Rd.blk (i:=2) (xs:=a0.At.toList) X ((Aa ak).off X) (by simp) ab) X (d9 B) X (λz=>?_);exact cW inv (ai rl)<|d8 (λhd w=>SH W F ((.own z 3 1 (I (([a0.bh,a0.ao]:List Int)++a0.At.toList)))::T0::(.blk b1 (enc a0) 114)::L) hd w) (λ_ w h=>(h.weaken fl).sublist (ai rl))<|aB X aA av 8 rl X (cw (α:=Int) (xs:=(([a0.bh,a0.ao]:List Int)++a0.At.toList)) ab X X lp (aY 0 X X X))<|eM aE<|eK (z,([a0.bh,a0.ao]:List Int)++a0.At.toList) fl e0 X C
 rintro zS ⟨e,c⟩ nj hy;subst hy;refine aa<|bI<|bz H λq JD H=>?_;replace JD:=tH JD;obtain⟨S,H,O7⟩:=bs H;refine dH (σ:=Nat×Nat×Sl×(List (BitVec 8))) (λ(i24,b,f,a)=>[(1,pv b1 0),(5,Sl.v f),(30,Sl.v e),(31,iv ((([a0.bh,a0.ao]:List Int)++a0.At.toList).length:Int)),(32,iv (i24:Int))]) (λ(i24,b,f,a)=>(.own e 3 1 (I c))::(.own f 5 1 (I a))::(.blk b1 (enc a0) 114)::L) (λ_=>(λ(i24,b,f,a)=>bE (tL c) b i24 a=some S/\i24+b=q)) (λ(i24,b,f,a)=>b) (0,q,s8,([BitVec.ofInt 8 a0.ba,BitVec.ofInt 8 a0.aw,BitVec.ofInt 8 a0.To]:List (BitVec 8))) e0 X ⟨H,by omega⟩ ?_;rintro tQ ⟨i24,b,f,a⟩ gk ⟨H,V⟩;rcases b with _|b
 .have n:decide ((i24:Int)<((([a0.bh,a0.ao]:List Int)++a0.At.toList).length:Int))=false:=cX O;replace H:=fU H;refine ae<|lr (bF X X)<|aa<|ap<|aS X n<|dr<|bQ<|bQ<|dt ?_;subst H;replace H:=O7;refine aF<|ae<|Z X<|lr (az 11 X di X Z9 X X)<|lr (aI (i:=2) X X I9 (v:=Y.v a0.aM) ((sX ak).off X))<|bz H λaq J H=>?_;refine PU (i:=1) (xs:=a) (m:=a0.aM) X X ab X X fY U9 Tryz.typeInfo5 X X X X X (d9 J) X (λaj=>?_);refine ag X<|bq<|Z X<|Z X<|lr (zL (ys:=(a++(Y.bytes a0.aM))) X fY U5 U9 (aY 1 X X X))<|bz H λad K H=>bW X e0 Tryz.call99 (MY K (aZ (ai g)))<|bz H λu N H=>?_;refine cl X e0 Tryz.call98 (MZ N (aZ (ai g))) (λHo L' v w7 hv=>?_);obtain⟨al,rfl,rfl⟩:=hv;obtain⟨au,P,H⟩:=bs H;refine fk (i:=2) (α:=BitVec 8) (xs:=(a++(Y.bytes a0.aM))) (ys:=u) X X ab X X fY Tryz.typeInfo5 X X X X X X (aY 0 X X X) X (d9 P) X (λam=>?_);refine lr (zL (ys:=((a++(Y.bytes a0.aM))++u)) X fY U5 U9 (aY 2 X X X))<|ag X<|ag X<|aa ?_;obtain rfl:=si H;exact aV<|dC X (aO X) (aO X) (ft (ft nj gk) w7) (cg rl) ⟨X,X⟩
 have n:decide ((i24:Int)<((([a0.bh,a0.ao]:List Int)++a0.At.toList).length:Int))=true:=dl O;obtain⟨U,H,Q⟩:=fV H;unfold tL at H
 try dsimp only at H
 refine ae<|lr (bF X X)<|aa<|ap<|aU X n<|bc<|aF<|ap<|bI<|ae<|bz H λA D H=>have j:=cd D;lr (cp (α:=Int) (xs:=c) X X lp Z3 X ab (aY 0 X X X) j.1 j.2.1)<|lr (dR (α:=Int) X (aY 0 X X X) I3 (v:=iv A) ((bK (s:=1) (x:=A) X j.2.2 ak).off O))<|ag X<|aa<|bB<|Z X<|Z X<|bz H λt E H=>?_
 refine cl X e0 Tryz.call117 (M0 E (aZ (ai g))) (λHk L' v oZ hv=>?_);obtain⟨ah,rfl,rfl⟩:=hv;obtain⟨ao,G,H⟩:=bs H;refine fk (i:=2) (α:=BitVec 8) (xs:=a) (ys:=t) X X ab X X fY Tryz.typeInfo5 X X X X X X (aY 0 X X X) X (d9 G) X (λT=>?_);exact ag X<|aC<|bY<|aF<|bB<|lr (dG O X X)<|Z X<|aC<|dW (ai rl)<|aT (i24+1,b,T,a++t) (ft gk oZ) e0 X ⟨⟨Q _ (sj H),by omega⟩,cL⟩
theorem zF{a0 a1 a2 a3 a4 a5 g c e f r}{b:List ax}(H:qf a0 a1 a2 a3 a4 a5=some r)(t:M.Sublist L)(x:b.map ax.v=a0.all)(y:aL dU W F [] b):Ok Tryz.prog W 78 [pv g 0,iv a1,iv a2,iv a3,iv a4,Y.v a5] F ((.rows (α:=ay) 80 (List.map ax.row b))::(.own c 157 8 (I b))::(.own e 9 1 (I a0.aQ))::(.own f 9 1 (I a0.ah))::(.blk g (enc (bT.mk a0 c e f)) 132)::L) (λ_ L' v=>∃(s6:Sl),v=.tuple #[]/\L'=(.rows (α:=ay) 80 (List.map ax.row b))::(.own c 157 8 (I b))::(.own e 9 1 (I a0.aQ))::(.own s6 9 1 (I r.1))::(.blk g (enc (bT.mk ({r.2 with all:=a0.all,aQ:=a0.aQ,ah:=r.1}:bi) c e s6)) 132)::L):=by
 let T0:=({aK.zero with ba:=a1,aw:=a2,To:=a3,bh:=a0.aD.bS,ao:=a4,aM:=a5}:aK)
 unfold qf at H;refine bR 49 Tryz.func78 X<|ae<|Z X<|Z X<|Z X<|Z X<|lr (bP X)<|lr (az 0 X eo X dz X X)<|lr (az 0 X gx X Z3 X X)<|lr (aI (i:=4) X X I3 (v:=iv a0.aD.bS) ((Ah (lL ak)).off X))<|Z X<|Z X<|lr (cQ (v:=.agg (enc T0).toArray) (pv:=[(0,iv a1),(1,iv a2),(2,iv a3),(3,iv a0.aD.bS),(4,iv a4),(6,Y.v a5)]) ⟨X,X,⟨X,X,⟨X,X,⟨X,X,⟨X,X,e0⟩⟩⟩⟩⟩ (λw=>by kernel_rfl))<|bz H λr6 h7 H=>bW X e0 Tryz.call96 (abf h7 (cg (ai t)))<|Z X<|lr (cn X X)<|lr (cn X X)<|ag X<|ag X<|bq<|Z X<|lr (cN X X)<|Z X ?_;obtain⟨u,H,rP⟩:=bs H;refine dh (σ:=Bool) 7 (λj=>[(0,pv g 0),(12,Y.v r6.1),(38,.bool j)]) (λj=>(.rows (α:=ay) 80 (List.map ax.row b))::(.own c 157 8 (I b))::(.own e 9 1 (I a0.aQ))::(.own f 9 1 (I a0.ah))::(.blk g (enc (bT.mk a0 c e f)) 132)::L) (λ_ j=>j=u) ?_ ?_
 .refine iy H (λa H=>?_) λa H=>lg a (ar X)<|lg a (bP X)<|lg a (az 4 X eo X dL X X)<|lg a (aI (i:=4) X X fh (v:=Sl.v f) ((Ai ak).off X))<|lg a (cw (α:=Y) (xs:=a0.ah) ab X X cf (aY 3 X X X))<|lg a (bF X X)<|lr (cD X a X)<|aC ?_
  .exact aH X a<|aH X a<|aH X a<|aH X a<|aH X a<|aH X a<|lr (cx X a X)<|aC<|aT false fl e0 X (si H)
  exact aT (decide ((a0.ah.length:Int)<(60:Int))) fl e0 X (si H)
 rintro CJ j jD hy;subst hy;replace H:=rP;refine aa<|iy H (λn H=>?_) λn H=>aU X n<|bB<|Z X<|Z X<|lr (bP X)<|lr (az 4 X eo X dL X X)<|lr (aI (i:=4) X X fh (v:=Sl.v f) ((Ai ak).off X))<|Z X ?_
 .refine aS X n<|bc ?_;obtain rfl:=si H;exact ij (.inr X) X jD rl ⟨f,X,X⟩
 refine fm (α:=Y) (xs:=([r6.1]:List Y)) (pv:=[(0,Y.v r6.1)]) X X ab e0 (fq (α:=Y) (z0:=([]:Y)) (xs:=([r6.1]:List Y)) cf Z9 Tryz.zeroValue9 X X X ab X (gc X X)) X X ab (λz _=>?_);obtain⟨A,q,H⟩:=bs H;refine fk (i:=4) (α:=Y) (xs:=a0.ah) (ys:=([r6.1]:List Y)) X X ab X X cf Tryz.typeInfo9 X X X X X X (aY 0 X X X) X (d9 q) X (λk=>?_);refine lr (bP X)<|lr (az 4 X eo X dL X X)<|bJ 5 X X X dL (vs:=[Sl.v k]) X X X (cs':=enc (bT.mk ({a0 with ah:=a0.ah++([r6.1]:List Y)}:bi) c e k)) ((DG (cm (vs:=[Sl.v k]) X)).off X) X<|aC ?_;obtain rfl:=si H;exact ij (.inr X) X jD (ai rl) ⟨k,X,X⟩
theorem abx{a0 a1 a2 q g k e r}{a:List ax}(H:zA a0 a1 a2=some r)(t:M.Sublist L)(c:a.map ax.v=a0.all)(j:aL dU W F [] a):Ok Tryz.prog W 58 [pv q 0,iv a1,Y.v a2] F ((.rows (α:=ay) 80 (List.map ax.row a))::(.own g 157 8 (I a))::(.own k 9 1 (I a0.aQ))::(.own e 9 1 (I a0.ah))::(.blk q (enc (bT.mk a0 g k e)) 132)::L) (λFx L' v=>∃(u:List ax)(s9:Sl),v=iv r.2.2.2/\L'=(.rows (α:=ay) 80 (List.map ax.row u))::(.own g 157 8 (I u))::(.own k 9 1 (I a0.aQ))::(.own s9 9 1 (I r.2.1))::(.blk q (enc (bT.mk ({r.2.2.1 with all:=r.1,aQ:=a0.aQ,ah:=r.2.1}:bi) g k s9)) 132)::L/\u.map ax.v=r.1/\aL dU W Fx [] u):=by
 unfold zA at H;refine bR 64 Tryz.func58 X<|ae<|ag X<|aa<|ap<|ae<|Z X<|Z X<|bz H λr6 h7 H=>bW X e0 Tryz.call76 (M6 h7 t c (jl j fl bn))<|ag X<|bq<|Z X<|lr (eU X X)<|aa<|iz H (λz H=>?_) λz H=>aS X z<|bc<|aF<|ap<|bI<|ae<|Z X<|lr (fK X X U9)<|lr (ef X X)<|ag X<|aa<|iz H (λA H=>?_) λA H=>aS X A<|ae<|Z X<|lr (bP X)<|lr (az 4 X eo X dL X X)<|lr (aI (i:=4) X X fh (v:=Sl.v e) ((Ai ak).off X))<|lr (cw (α:=Y) (xs:=a0.ah) ab X X cf (aY 3 X X X))<|lr (cN X X)<|ag X<|aa<|iz H (λB H=>?_) λB H=>aS X B<|bc<|bY<|aF<|ae<|Z X<|lr (bP X)<|lr (az 2 X eo X kx X X)<|lr (aI (i:=4) X X kw (v:=Sl.v g) ((qp ak).off X))<|Z X<|bz H λaf P H=>have G:=cd P;?_
 .refine aU X z<|ae<|Z X<|ag X<|aa ?_;obtain rfl:=si H;exact aV<|bt<|bp X (aO X) fl rl ⟨a,e,X,X,c,(jl j fl bn)⟩
 .refine aU X A<|ae<|ag X<|aa ?_;obtain rfl:=si H;exact aV<|dm<|bt<|bp X (aO X) fl rl ⟨a,e,X,X,c,(jl j fl bn)⟩
 .refine aU X B<|ae<|ag X<|aa ?_;obtain rfl:=si H;exact aV<|dm<|bt<|bp X (aO X) fl rl ⟨a,e,X,X,c,(jl j fl bn)⟩
 obtain⟨Li,Lh,XK,XM,tu,-,Lg,XJ,XL⟩:=jw c j G.2.2;have Lj:=jg ax.row tu;refine lr (cp (α:=ax) (xs:=a) X X jQ mZ X ab (aY 1 X X X) G.1 (by have:=eO c;omega))<|lr (eL (α:=ax) (f':=a1.toNat*8+2) X (aY 1 X X X) ((bK (s:=8) X tu ak).off O) X im X ew X X X)<|lr (ik (α:=ax) X (aY 1 X X X) kU ew (ch:=enc (aR.mk af.au Lh)) el ab ((bK (s:=8) X tu (Dn ak)).off O))<|Z X<|bz H λb Q H=>?_;refine cl X e0 Tryz.call77 (VH Q (cg (ai t)) (Lg.mono fl bn)) (λmW L' v ie hv=>?_);obtain⟨f,rfl,rfl⟩:=hv;refine Z X<|lr (cn X X)<|lr (cn X X)<|dx 9 1 ?_;refine dB (cs:=enc (aR.mk ({aw.zero with aJ:=([]:List Y)}:aw) Sl.nil)) X X ab Tryz.zeroValue54 X (λE=>?_);refine bJ 0 X X X ew (vs:=enc (aR.mk b.1 f)) X el (an.one _) (cs':=enc (aR.mk b.1 f)) bZ X<|ag X<|aa<|ap<|ae<|Z X<|lr (eU X X)<|aa<|iz H (λC H=>?_) λC H=>aS X C<|bc<|aF<|ap<|jM 8 aE aE<|qr (ar X)<|qr (bP X)<|qr (az 2 X eo X kx X X)<|qr (aI (i:=7) X X kw (v:=Sl.v g) ((qp ak).off X))<|qr (ar X)<|qr (dY (i:=0) X X kU ew (ch:=enc (aR.mk b.1 f)) el ak)<|bz H λn R H=>have J:=cd R;?_
 .refine aU X C<|ae<|Z X<|ag X<|aa ?_;obtain rfl:=si H;exact aV<|bt<|bp X (aO X) ie (ai (aZ rl)) ⟨a,e,X,X,c,(jl j ie bn)⟩
 obtain⟨Ly,Yp,Lv,Lw,vA,-,ad5,Yq,Yr⟩:=jw c j J.2.2;let T1:=ax.mk n Ly (aR.mk n.au Yp) (am.mk n.to Lv) (am.mk n.bw Lw);let T0:=ax.mk ({n with au:=b.1}:bm) Ly (aR.mk b.1 f) (am.mk n.to Lv) (am.mk n.bw Lw);have ad7:=jg ax.row vA;refine qr (cp (α:=ax) (xs:=a) X X jQ mZ X ab (aY 4 X X X) J.1 (by have:=eO c;omega))<|qr (eL (α:=ax) (f':=a1.toNat*8+2) X (aY 4 X X X) ((bK (s:=8) X vA ak).off O) X im X ew X X X)<|jL<|lz H λN S H=>?_;let T2:Item:=.blk q (enc (bT.mk ({a0 with all:=N}:bi) g k e)) 132;have D:(a.set a1.toNat T0).map ax.v=N:=(map_set c _ _).trans S;refine pH (i:=2) X (λCN od V=>?_);have K:Rd W CN [] f b.1.aJ:=oF V X X;have w:aL dU W CN [] (a.set a1.toNat T0):=nE (jl j (ft ie od) bn) (⟨⟨X,(K.mono fl bn)⟩,⟨X,(Yq.mono (ft ie od) bn)⟩,⟨X,(Yr.mono (ft ie od) bn)⟩⟩);refine gN (i:=3) X X X X X ew (vs:=enc (aR.mk b.1 f)) X el ab (an.one _) (xs':=I (a.set a1.toNat T0)) ((d5 (s:=8) (x:=T1) (y:=T0) X vA (Dp (p:=T1) (l:=b.1) bZ)).off O) (L':=(.blk E (enc (aR.mk b.1 f)) 54)::(.own Sl.nil 9 1 (I ([]:List Y)))::(.rows (α:=ay) 80 (List.map ax.row a))::(.own g 157 8 (I (a.set a1.toNat T0)))::(.own k 9 1 (I a0.aQ))::(.own e 9 1 (I a0.ah))::T2::L) X<|jK (L':=(.blk E (enc (aR.mk b.1 f)) 54)::(.own Sl.nil 9 1 (I ([]:List Y)))::(.rows (α:=ay) 80 (List.map ax.row (a.set a1.toNat T0)))::(.own g 157 8 (I (a.set a1.toNat T0)))::(.own k 9 1 (I a0.aQ))::(.own e 9 1 (I a0.ah))::T2::L) (by dsimp+zetaDelta only;rw[nx (y:=T0) vA X]<;>rfl)<|aa<|ap<|jM 12 aE aE<|qr (ar X)<|qr (ar X)<|qr (ar X)<|bz H λaj T H=>kL X X ab e0 Tryz.call79 (u0 (List.Perm.trans (fH (i:=6) X) (List.Perm.trans (fH (i:=6) X) (List.Perm.trans (fH (i:=6) X) (List.Perm.trans (fH (i:=6) X) (fH (i:=6) X))))) (zG T (aZ t) D (jl w fl bn):))<|qr (az 0 X eP X Z3 X X)<|qr (aI (i:=0) X X I3 (v:=iv b.1.Base) ((tU ak).off X))<|qr (az 1 X eP X dL X X)<|qr (aI (i:=0) X X fh (v:=Sl.v f) ((ql ak).off X))<|qr (cw (α:=Y) (xs:=b.1.aJ) ab X X cf (K.mono fl bn))<|qr (cM X X)<|qr (fg X X)<|qr (ar X)<|jL<|bz H λal U H=>lf 6 X<|lf 6 X<|lf 6 X<|lf 6 X<|lf 6 X ?_;refine cl X e0 Tryz.call78 (zF U (aZ t) D (jl w fl bn):) (λHm L' v ug hv=>?_);obtain⟨ad,rfl,rfl⟩:=hv;refine aa<|ap<|CA (e':=[]) bo X<|bB<|ag X<|aa ?_;obtain rfl:=si H;exact aV<|bp X (aO X) (ft (ft ie od) ug) (ca (cE (aZ rl))) ⟨(a.set a1.toNat T0),ad,X,X,D,(jl w ug bn)⟩
theorem VI{a0 a1 e r}(H:xE a0 a1=some r)(f:M.Sublist L)(g:Rd W F M e a0.aJ):Ok Tryz.prog W 80 [.agg (enc (aR.mk a0 e)).toArray,iv a1] F (L) (λ_ L' v=>∃(s1:Sl),v=.tuple #[Sl.v s1,iv r.2]/\L'=(.own s1 142 2 (I r.1))::L):=by
 unfold xE at H;refine bR 37 Tryz.func80 X<|ae ?_;refine fQ X X ab X (cs:=enc (aR.mk a0 e)) X (λb1=>?_);refine dx 142 2<|ag X<|ag X<|aa<|ap<|ae<|lr (dY (i:=1) X X kU ew (ch:=enc (aR.mk a0 e)) el ak)<|bz H λr4 h5 H=>bW X e0 Tryz.call94 (Fh h5 (aZ f) (g.mono fl rl))<|ag X<|bq<|Z X<|lr (eU X X)<|aa<|iz H (λq H=>?_) λq H=>aS X q<|bc<|aF<|ae<|dx 142 2<|ag X<|aa<|ap<|ae<|lr (az 1 X eP X dL X X)<|lr (aI (i:=2) X X fh (v:=Sl.v e) ((ql ak).off X))<|lr (cw (α:=Y) (xs:=a0.aJ) ab X X cf (g.mono fl (aZ (ai f))))<|Z X<|aa<|bI ?_
 .refine aU X q<|ae<|Z X<|dx 142 2<|ag X<|ag X<|aa ?_;obtain rfl:=si H;exact aV<|bt<|dC X (aO X) (aO X) fl (ca (aZ rl)) ⟨Sl.nil,X,X⟩
 refine fC (fT (α:=Y) (xs:=a0.aJ) ab (g.mono fl (aZ (ai f)))) (λacM=>?_);obtain⟨A,H,CU⟩:=bs H;refine dH (σ:=Nat×Nat×Sl×(List aP)) (λ(i11,a,c,b)=>[(1,iv a1),(2,pv b1 0),(7,Sl.v c),(16,Sl.v e),(17,iv (a0.aJ.length:Int)),(18,iv (i11:Int))]) (λ(i11,a,c,b)=>(.own c 142 2 (I b))::(.own Sl.nil 142 2 (I ([]:List aP)))::(.blk b1 (enc (aR.mk a0 e)) 54)::L) (λ_=>(λ(i11,a,c,b)=>bE (q8 a0 a1) a i11 b=some A/\i11+a=a0.aJ.length)) (λ(i11,a,c,b)=>a) (0,a0.aJ.length,Sl.nil,([]:List aP)) e0 X ⟨H,by omega⟩ ?_;rintro Ov ⟨i11,a,c,b⟩ lv ⟨H,D⟩;rcases a with _|a
 .have t:decide ((i11:Int)<(a0.aJ.length:Int))=false:=cX O;replace H:=fU H;refine ae<|lr (bF X X)<|aa<|ap<|aS X t<|dr<|bQ<|bQ<|dt ?_;subst H;replace H:=CU;refine aF<|ae<|Z X<|ag X<|ag X<|aa ?_;obtain rfl:=si H;exact aV<|dC X (aO X) (aO X) lv (ca (aZ rl)) ⟨c,X,X⟩
 have t:decide ((i11:Int)<(a0.aJ.length:Int))=true:=dl O;obtain⟨C,H,u⟩:=fV H;unfold q8 at H
 try dsimp only at H
 refine ae<|lr (bF X X)<|aa<|ap<|aU X t<|bc<|aF<|ap<|bI<|ae<|Z X<|bz H λj y H=>?_;let T0:=({aP.zero with ao:=aq (a0.Base+(i11:Int)),aM:=j}:aP)
 refine have k:=cd y;lr (cp (α:=Y) (xs:=a0.aJ) X X cf Z9 X ab (g.mono lv (aZ (ai f))) k.1 k.2.1)<|lr (dR (α:=Y) X (g.mono lv (aZ (ai f))) I9 (v:=Y.v j) ((bK (s:=1) (x:=j) X k.2.2 ak).off O))<|ag X<|ag X<|bq<|Z X<|Z X<|lr (bF X X)<|aa<|iy H (λn H=>?_) λn H=>aU X n<|bB<|Z X<|lr (az 0 X eP X Z3 X X)<|lr (aI (i:=2) X X I3 (v:=iv a0.Base) ((tU ak).off X))<|Z X<|lr (cM X X)<|Z X<|lr (cQ (v:=.agg (enc T0).toArray) (pv:=[(0,iv (aq (a0.Base+(i11:Int)))),(1,Y.v j)]) ⟨X,X,e0⟩ (λw=>by kernel_rfl)) ?_
 .exact aS X n<|bc<|bY<|aF<|bB<|lr (dG O X X)<|Z X<|aC<|aT (i11+1,a,c,b) lv e0 X ⟨⟨u _ (sj H),by omega⟩,cL⟩
 refine fm (α:=aP) (xs:=([T0]:List aP)) (pv:=[(0,.agg (enc T0).toArray)]) X X ab e0 (fq (α:=aP) (z0:=aP.zero) (xs:=([T0]:List aP)) eB fc Tryz.zeroValue142 X X X ab X (gc X X)) X X ab (λE _=>?_);obtain⟨G,z,H⟩:=bs H;refine fk (i:=1) (α:=aP) (xs:=b) (ys:=([T0]:List aP)) X X ab X X eB Tryz.typeInfo142 X X X X X X (aY 0 X X X) X (d9 z) X (λB=>?_);exact ag X<|aC<|bY<|aF<|bB<|lr (dG O X X)<|Z X<|aC<|dW (ai rl)<|aT (i11+1,a,B,b++([T0]:List aP)) lv e0 X ⟨⟨u _ (sj H),by omega⟩,cL⟩
theorem abs{a0 a1 w f q y r}{c:List ax}(H:zv a0 a1=some r)(k:M.Sublist L)(e:c.map ax.v=a0.all)(j:aL dU W F [] c):Ok Tryz.prog W 59 [pv w 0,iv a1] F ((.rows (α:=ay) 80 (List.map ax.row c))::(.own f 157 8 (I c))::(.own q 9 1 (I a0.aQ))::(.own y 9 1 (I a0.ah))::(.blk w (enc (bT.mk a0 f q y)) 132)::L) (λ_ L' v=>∃(s6:Sl),v=iv r.2.2/\L'=(.rows (α:=ay) 80 (List.map ax.row c))::(.own f 157 8 (I c))::(.own q 9 1 (I a0.aQ))::(.own s6 9 1 (I r.1))::(.blk w (enc (bT.mk ({r.2.1 with all:=a0.all,aQ:=a0.aQ,ah:=r.1}:bi) f q s6)) 132)::L):=by
 unfold zv at H;refine bR 58 Tryz.func59 X<|ae<|ag X<|aa<|ap<|ae<|Z X<|Z X<|bz H λr6 h7 H=>bW X e0 Tryz.call76 (M6 h7 k e (jl j fl bn))<|ag X<|bq<|Z X<|lr (eU X X)<|aa<|iz H (λA H=>?_) λA H=>aS X A<|bc<|aF<|ae<|Z X<|lr (bP X)<|lr (az 2 X eo X kx X X)<|lr (aI (i:=4) X X kw (v:=Sl.v f) ((qp ak).off X))<|Z X<|bz H λal J H=>have D:=cd J;?_
 .refine aU X A<|ae<|Z X<|ag X<|aa ?_;obtain rfl:=si H;exact aV<|bt<|bp X (aO X) fl rl ⟨y,X,X⟩
 obtain⟨vy,BR,FH,FI,oJ,-,FG,Lb,Lc⟩:=jw e j D.2.2;have XF:=jg ax.row oJ;refine lr (cp (α:=ax) (xs:=c) X X jQ mZ X ab (aY 1 X X X) D.1 (by have:=eO e;omega))<|lr (eL (α:=ax) (f':=a1.toNat*8+2) X (aY 1 X X X) ((bK (s:=8) X oJ ak).off O) X im X ew X X X)<|lr (ik (α:=ax) X (aY 1 X X X) kU ew (ch:=enc (aR.mk al.au BR)) el ab ((bK (s:=8) X oJ (Dn ak)).off O))<|bz H λb K H=>?_;refine cl X e0 Tryz.call80 (VI K (cg (ai k)) (FG.mono fl bn)) (λzR L' v iH hv=>?_);obtain⟨G,rfl,rfl⟩:=hv;refine Z X<|lr (cn X X)<|lr (cn X X)<|ag X<|ag X<|aa<|ap<|ae<|Z X<|lr (cw (α:=aP) (xs:=b.1) ab X X eB (aY 0 X X X))<|Z X<|aa<|bI ?_;refine fC (fT (α:=aP) (xs:=b.1) ab (aY 0 X X X)) (λacV=>?_);obtain⟨V,H,O6⟩:=bs H;refine dH (σ:=Nat×Nat×bi×Sl×(List Y)) (λ(i21,a,u,n,g)=>[(0,pv w 0),(1,iv a1),(28,Sl.v G),(29,iv (b.1.length:Int)),(30,iv (i21:Int))]) (λ(i21,a,u,n,g)=>(.own G 142 2 (I b.1))::(.rows (α:=ay) 80 (List.map ax.row c))::(.own f 157 8 (I c))::(.own q 9 1 (I a0.aQ))::(.own n 9 1 (I g))::(.blk w (enc (bT.mk ({u with all:=a0.all,aQ:=a0.aQ,ah:=g}:bi) f q n)) 132)::L) (λ_=>(λ(i21,a,u,n,g)=>bE (vW a0 a1 b) a i21 (u,g)=some V/\i21+a=b.1.length)) (λ(i21,a,u,n,g)=>a) (0,b.1.length,a0,y,a0.ah) e0 X ⟨H,by omega⟩ ?_;rintro OD ⟨i21,a,u,n,g⟩ qH ⟨H,au⟩;rcases a with _|a
 .have B:decide ((i21:Int)<(b.1.length:Int))=false:=cX O;replace H:=fU H;refine ae<|lr (bF X X)<|aa<|ap<|aS X B<|dr<|bQ<|bQ<|dt ?_;subst H;replace H:=O6
  try dsimp only[Sum.elim_inl]at H
  refine aF<|ap<|jM 13 aE aE<|qr (ar X)<|qr (ar X)<|qr (ar X)<|bz H λaw R H=>kL X X ab e0 Tryz.call79 (u0 (List.Perm.trans (fH (i:=5) X) (List.Perm.trans (fH (i:=5) X) (List.Perm.trans (fH (i:=5) X) (List.Perm.trans (fH (i:=5) X) (fH (i:=5) X))))) (zG R (ai k) e (jl j (ft iH qH) bn)))<|qr (ar X)<|qr (bP X)<|qr (az 2 X eo X kx X X)<|qr (aI (i:=5) X X kw (v:=Sl.v f) ((qp ak).off X))<|qr (ar X)<|bz H λam S H=>have E:=cd S;?_
  obtain⟨aej,aee,aeg,aei,BV,-,aed,aef,aeh⟩:=jw e j E.2.2;have aek:=jg ax.row BV;refine qr (cp (α:=ax) (xs:=c) X X jQ mZ X ab (aY 2 X X X) E.1 (by have:=eO e;omega))<|qr (eL (α:=ax) (f':=a1.toNat*8+4) X (aY 2 X X X) ((bK (s:=8) X BV ak).off O) X im X dw X X X)<|qr (eL (α:=ax) (f':=a1.toNat*8+4+0) X (aY 2 X X X) ((bK (s:=8) X BV (Do ak)).off O) X er X Z3 X X X)<|qr (dR (α:=ax) X (aY 2 X X X) I3 (v:=iv am.to.Next) ((bK (s:=8) X BV (Do (wy ak))).off O))<|jL<|bz H λa2 T H=>lf 5 X<|lf 5 X<|lf 5 X<|lf 5 X<|lf 5 X ?_;refine cl X e0 Tryz.call78 (zF T (ai k) e (jl j (ft iH qH) bn)) (λF52 L' v SY hv=>?_);obtain⟨aj,rfl,rfl⟩:=hv;refine bq<|ag X<|aa ?_;obtain rfl:=si H;exact aV<|bp X (aO X) (ft (ft iH qH) SY) (ca (cE (ai rl))) ⟨aj,X,X⟩
 have B:decide ((i21:Int)<(b.1.length:Int))=true:=dl O;obtain⟨aq,H,U⟩:=fV H;unfold vW at H
 try dsimp only at H
 refine ae<|lr (bF X X)<|aa<|ap<|aU X B<|bc<|aF<|ap<|bI<|ae<|bz H λt N H=>have z:=cd N;lr (cp (α:=aP) (xs:=b.1) X X eB fc X ab (aY 0 X X X) z.1 z.2.1)<|lr (ik (α:=aP) X (aY 0 X X X) tV fc (ch:=enc t) el ab ((bK (s:=2) (x:=t) X z.2.2 ak).off O)) ?_
 refine dB (cs:=enc aP.zero) X X ab Tryz.zeroValue142 X (λao=>?_);refine bJ 0 X X X fc (vs:=enc t) X el (an.one _) (cs':=enc t) bZ X<|aa<|jM 8 aE aE<|qr (ar X)<|qr (ar X)<|qr (ar X)<|bz H λav P H=>kL X X ab e0 Tryz.call79 (u0 (List.Perm.trans (fH (i:=6) X) (List.Perm.trans (fH (i:=6) X) (List.Perm.trans (fH (i:=6) X) (List.Perm.trans (fH (i:=6) X) (fH (i:=6) X))))) (zG P (aZ k) e (jl j (ft iH qH) bn)))<|qr (az 0 X iC X Z3 X X)<|qr (aI (i:=0) X X I3 (v:=iv t.ao) ((kJ ak).off X))<|qr (az 1 X iC X Z9 X X)<|qr (aI (i:=0) X X I9 (v:=Y.v t.aM) ((sY ak).off X))<|jL<|bz H λC Q H=>lf 6 X<|lf 6 X<|lf 6 X<|lf 6 X<|lf 6 X ?_;refine cl X e0 Tryz.call78 (zF Q (aZ k) e (jl j (ft iH qH) bn)) (λtS L' v pa hv=>?_);obtain⟨ad,rfl,rfl⟩:=hv;exact aC<|bY<|aF<|bB<|lr (dG O X X)<|Z X<|aC<|af 6 X<|dW (dc (cE (ai rl)))<|aT (i21+1,a,({C.2 with all:=a0.all,aQ:=a0.aQ,ah:=C.1}:bi),ad,C.1) (ft qH pa) e0 X ⟨⟨U _ (sj H),by omega⟩,cL⟩
theorem aaj{a0 a1 a2 a r}(H:yP a0 a1 a2=some r)(w:M.Sublist L):Ok Tryz.prog W 81 [Sl.v a,iv a1,iv a2] F ((.own a 9 1 (I a0))::L) (λ_ L' v=>∃(s2:Sl),v=Sl.v s2/\L'=(.own s2 9 1 (I r))::L):=by
 unfold yP at H;refine bR 33 Tryz.func81 X<|ae<|dx 9 1<|ag X<|bq<|Z X<|Z X<|Z X<|Z X<|lr (cw (α:=Y) (xs:=a0) ab X X cf (aY 1 X X X))<|bz H λm3 h4 H=>?_;have g5:=ky h4;refine z9 (α:=Y) (i:=1) (xs:=a0) X X X ab (λy q=>?_);refine lr (NJ (i:=a1) (j:=a2) (k:=(a0.length:Int)) X X X X cf Z9 g5.1.1 g5.1.2.1 g5.1.2.2 (Int.ofNat_le.2 q))<|aa<|ap<|ae<|Z X<|Z X<|lr (cN X X)<|aa<|iz H (λe H=>?_) λe H=>aS X e<|bc<|aF<|ae<|Z X<|lr (cw (α:=Y) (xs:=a0) ab X X cf (aY 1 X X X))<|ag X<|aa<|ap<|jM 6 aE aE<|qr (ar X)<|qr (ar X)<|bz H λm9 g H=>?_
 .refine aU X e<|ae<|Z X<|ag X<|aa ?_;obtain rfl:=si H;exact aV<|bt<|bp X (aO X) fl (ai rl) ⟨a,X,X⟩
 obtain⟨b,t⟩:=ky g
 try dsimp only at b
 refine qr (j6 (α:=Y) (xs:=a0) (i:=0) (j:=a1) X X X cf Z9 X ab (aY 1 X X X) b.1 b.2.1 b.2.2)<|qr (ar X)<|qr (ar X)<|bz H λz n H=>?_;obtain⟨c,u⟩:=ky n
 try dsimp only at c
 refine qr (j6 (α:=Y) (xs:=a0) (i:=a2) (j:=(a0.length:Int)) X X X cf Z9 X ab (aY 1 X X X) c.1 c.2.1 c.2.2)<|jL ?_;refine z9 (α:=Y) (i:=1) (xs:=a0) X X X ab (λx f=>?_);refine a9.shift (α:=Y) (k:=1) (i:=(a1:Int).toNat) (j:=(a2:Int).toNat) (xs:=a0) X X ab X X cf Tryz.typeInfo9 X X ab X X O O<|ag X<|bq<|Z X<|Z X<|lr (cw (α:=Y) (xs:=(a0.take ((a1:Int).toNat)++a0.drop ((a2:Int).toNat))) ab X X cf (aY 1 X X X))<|Z X<|lr (NK (i:=((a0.take ((a1:Int).toNat)++a0.drop ((a2:Int).toNat)).length:Int)) (j:=(a0.length:Int)) X X X cf Z9 (Int.natCast_nonneg _) (Int.ofNat_le.2 (aab O O)) (Int.ofNat_le.2 f))<|P3 (α:=Y) (k:=1) (xs:=(a0.take ((a1:Int).toNat)++a0.drop ((a2:Int).toNat))) X X X cf Tryz.zeroValue9 ([]:Y) X X ab X X (dO _) f<|bq<|Z X<|ag X<|aa ?_;obtain rfl:=si H;exact aV<|bp X (aO X) fl (ai rl) ⟨(Sl.mk (Sl.a a) ((a1:Int).toNat+(a0.length-(a2:Int).toNat)) (Sl.cap a)),X,X⟩
theorem vS{a0 a1 a r}(H:oM a0 a1=some r)(b:M.Sublist L):Ok Tryz.prog W 100 [iv a0,pv a 0] F ((.blk a (enc a1) 9)::L) (Is (iv r) ((.blk a (enc a1) 9)::L)):=by unfold oM at H;refine bR 26 Tryz.func100 X<|ae<|ag X<|bq<|Z X<|lr (pQ X X)<|lr (cM X X)<|ag X<|aa<|ap<|ju aE aE<|qr (aI (i:=0) X X I9 (v:=Y.v a1) ak)<|qr (ar X)<|bz H λx2 h3 H=>qr (fJ X X U9 h3)<|qr (md (j:=(x2.toBitVec.toNat:Int)) X U5 U3 (bO O O))<|qr (aI (i:=0) X X I9 (v:=Y.v a1) ak)<|qr (ar X)<|qr (cM X X)<|bz H λx4 h5 H=>qr (fJ X X U9 h5)<|qr (md (j:=(x4.toBitVec.toNat:Int)) X U5 U3 (bO O O))<|qr (G5 (i:=(x4.toBitVec.toNat:Int)) (m:=8) X X)<|qr (G2 (i:=(x2.toBitVec.toNat:Int)) (j:=aq ((x4.toBitVec.toNat:Int)*2^(min 8 64))) X X)<|qr (aI (i:=0) X X I9 (v:=Y.v a1) ak)<|qr (ar X)<|qr (cM X X)<|bz H λx6 h7 H=>qr (fJ X X U9 h7)<|qr (md (j:=(x6.toBitVec.toNat:Int)) X U5 U3 (bO O O))<|qr (G5 (i:=(x6.toBitVec.toNat:Int)) (m:=16) X X)<|qr (G2 (i:=aq ((BitVec.ofInt 64 (x2.toBitVec.toNat:Int)|||BitVec.ofInt 64 (aq ((x4.toBitVec.toNat:Int)*2^(min 8 64)))).toNat:Int)) (j:=aq ((x6.toBitVec.toNat:Int)*2^(min 16 64))) X X)<|qr (it X)<|jt<|aF ?_;obtain rfl:=si H;exact aV<|bp X (aO X) fl rl ⟨X,X⟩
theorem abg{a0 r}(H:zp a0=some r)(e:M.Sublist L):Ok Tryz.prog W 82 [Y.v a0] F (L) (Is (.tuple #[.agg (enc r.1).toArray,iv r.2]) (L)):=by
 unfold zp at H;refine bR 72 Tryz.func82 X<|ae ?_;refine dB (cs:=enc aK.zero) X X ab Tryz.zeroValue114 X (λb1=>?_);let T1:Item:=.blk b1 (enc aK.zero) 114;refine ag X<|aa<|ap<|bI<|ae<|Z X<|lr (fK X X U9)<|lr (ef X X)<|ag X<|aa<|iz H (λB H=>?_) λB H=>aS X B<|ae<|Z X<|lr (fK X X U9)<|lr (bF X X)<|ag X<|aa<|iz H (λC H=>?_) λC H=>aS X C<|bc<|bY<|aF<|ap<|bz H λm5 h6 H=>bz H λm7 h8 H=>gO (σ:=Nat) 12 (λa=>[(2,pv b1 0),(4,pv a 0),(29,Y.v m7)]) (λa=>(.blk a (enc m5) 9)::T1::L) (λ_ a=>True) aE aE (gy aE aE aE) aE (λaA av=>?_) ?_
 .refine aU X B<|ae<|lr (cQ (v:=.agg (enc aK.zero).toArray) (pv:=[]) bo (λw=>by kernel_rfl))<|bJ 0 X X X fG (vs:=enc aK.zero) X el (an.one _) (cs':=enc aK.zero) bZ X<|ag X<|aa ?_;obtain rfl:=si H;exact aV<|dm<|bt<|dC X (dQ (i:=0) X X kv fG el) (aO X) fl (ai rl) ⟨X,X⟩
 .refine aU X C<|ae<|lr (cQ (v:=.agg (enc aK.zero).toArray) (pv:=[]) bo (λw=>by kernel_rfl))<|bJ 0 X X X fG (vs:=enc aK.zero) X el (an.one _) (cs':=enc aK.zero) bZ X<|ag X<|aa ?_;obtain rfl:=si H;exact aV<|dm<|bt<|dC X (dQ (i:=0) X X kv fG el) (aO X) fl (ai rl) ⟨X,X⟩
 .refine d8 (λhd w=>SH W F (T1::L) hd w) (λ_ w h=>trivial)<|aB X aA av 0 rl X (ar X)<|aB X aA av 1 rl X (ar X)<|aB X aA av 2 rl X (fK X X U9)<|aB X aA av 3 rl X (fg X X)<|aB X aA av 4 rl X (xW X X  U9 h6)<|aB X aA av 5 rl X (ar X)<|aB X aA av 6 rl X (ar X)<|aB X aA av 7 rl X (fK X X U9)<|aB X aA av 8 rl X (fg X X)<|aB X aA av 9 rl X (pR X X  U9 h8) ?_;refine cP 10 (λinv=>?_);refine dB (cs:=enc ([]:Y)) X X ab Tryz.zeroValue9 X (λR=>?_);refine cW inv (ai rl) ?_;refine cP 11 (λinv=>?_);exact bJ 0 X X X Z9 (vs:=[Y.v m5]) X X X (cs':=enc m5) (cm (vs:=[Y.v m5]) X) X<|cW inv (ai rl)<|eM aE<|eK R fl e0 X bo
 rintro nQ a dX hy;refine ag X<|aa<|ap<|ae<|lr (aI (i:=0) X X I9 (v:=Y.v m5) ak)<|bz H λa6 T H=>bW X e0 Tryz.call99 (MY T (aZ e))<|bz H λG U H=>?_;refine cl X e0 Tryz.call98 (MZ U (aZ e)) (λzT L' v wZ hv=>?_);obtain⟨a2,rfl,rfl⟩:=hv;let T2:Item:=.own a2 5 1 (I G);refine lr (zL (ys:=G) X fY U5 U9 (aY 0 X X X))<|Z X<|lr (G1 (s:=fx G) (m:=m7) X X)<|aa<|iz H (λA H=>?_) λA H=>aS X A<|bc<|aF<|ae<|lr (Ev.makeFunc (us:=[]) (vs:=[pv a 0]) bo e0)<|ag X<|aa<|ap<|bz H λg V H=>bz H λk ad H=>bz H λn ah H=>bz H λt N H=>bz H λu z H=>bz H λq aj H=>?_
 .refine aU X A<|ae<|lr (cQ (v:=.agg (enc aK.zero).toArray) (pv:=[]) bo (λw=>by kernel_rfl))<|bJ 2 X X X fG (vs:=enc aK.zero) X el (an.one _) (cs':=enc aK.zero) bZ X<|ag X<|aa ?_;obtain rfl:=si H;exact aV<|bt<|dC X (dQ (i:=2) X X kv fG el) (aO X) (ft dX wZ) (ai (aZ rl)) ⟨X,X⟩
 let T0:=({aK.zero with ba:=(g.toBitVec.toNat:Int),aw:=(k.toBitVec.toNat:Int),To:=(n.toBitVec.toNat:Int),bh:=t,ao:=u,aM:=q}:aK)
 refine gO (σ:=Nat) 17 (λf=>[(2,pv b1 0),(6,.func (.func 100) #[] #[pv a 0]),(7,pv f 0),(53,.agg (enc T0).toArray)]) (λf=>(.blk f (enc aK.zero) 114)::T2::(.blk a (enc m5) 9)::T1::L) (λ_ f=>True) aE aE (gy aE aE aE) aE (λaA av=>?_) ?_
 .refine d8 (λhd w=>SH W zT (T2::(.blk a (enc m5) 9)::T1::L) hd w) (λ_ w h=>trivial)<|aB X aA av 0 rl X (aI (i:=1) X X I9 (v:=Y.v m5) ak)<|aB X aA av 1 rl X (fJ X X U9 V)<|aB X aA av 2 rl X (md (j:=(g.toBitVec.toNat:Int)) X U5 U3 (bO O O))<|aB X aA av 3 rl X (aI (i:=1) X X I9 (v:=Y.v m5) ak)<|aB X aA av 4 rl X (fJ X X U9 ad)<|aB X aA av 5 rl X (md (j:=(k.toBitVec.toNat:Int)) X U5 U3 (bO O O))<|aB X aA av 6 rl X (aI (i:=1) X X I9 (v:=Y.v m5) ak)<|aB X aA av 7 rl X (fJ X X U9 ah)<|aB X aA av 8 rl X (md (j:=(n.toBitVec.toNat:Int)) X U5 U3 (bO O O))<|aB X aA av 9 rl X (ar X)<|aB X aA av 11 rl X (ar X)<|aB X aA av 13 rl X (aI (i:=1) X X I9 (v:=Y.v m5) ak)<|aB X aA av 14 rl X (pR X X  U9 aj)<|mP [10,16] aE X<|iu (λinv=>?_) ?_
  .refine lf 1 X<|mH X X ab (vs:=[iv (0:Int)]) (cs:=[pv a 0]) X e0 Tryz.call100 (vS N (aZ e))<|lf 2 X<|lf 1 X<|lf 2 X<|cW inv rl<|mP [12,16] aE X<|iu (λinv=>?_) ?_
   .refine lf 1 X<|mH X X ab (vs:=[iv (1:Int)]) (cs:=[pv a 0]) X e0 Tryz.call100 (vS z (aZ e))<|lf 2 X<|lf 1 X<|lf 2 X<|cW inv rl<|aB X aA av 15 rl X (cQ (v:=.agg (enc T0).toArray) (pv:=[(0,iv (g.toBitVec.toNat:Int)),(1,iv (k.toBitVec.toNat:Int)),(2,iv (n.toBitVec.toNat:Int)),(3,iv t),(4,iv u),(6,Y.v q)]) ⟨X,X,⟨X,X,⟨X,X,⟨X,X,⟨X,X,e0⟩⟩⟩⟩⟩ (λw=>by kernel_rfl)) ?_;refine cP 16 (λinv=>?_);refine dB (cs:=enc aK.zero) X X ab Tryz.zeroValue114 X (λS=>?_);exact cW inv (ai rl)<|eM aE<|eK S fl e0 X bo
   refine iu (λinv=>?_) bo;refine dB (cs:=enc aK.zero) X X ab Tryz.zeroValue114 X (λJ=>?_);refine cW inv (ai rl) ?_;refine cP 12 (λinv=>?_);exact lf 2 X<|mH X X ab (vs:=[iv (1:Int)]) (cs:=[pv a 0]) X e0 Tryz.call100 (vS z (aZ (ai e)))<|lf 3 X<|lf 1 X<|lf 3 X<|lf 3 X<|cW inv (ai rl)<|d8 (λhd w=>SH W zT ((.blk J (enc aK.zero) 114)::T2::(.blk a (enc m5) 9)::T1::L) hd w) (λ_ w h=>(h.weaken fl).sublist (ai rl))<|aB X aA av 15 rl X (cQ (v:=.agg (enc T0).toArray) (pv:=[(0,iv (g.toBitVec.toNat:Int)),(1,iv (k.toBitVec.toNat:Int)),(2,iv (n.toBitVec.toNat:Int)),(3,iv t),(4,iv u),(6,Y.v q)]) ⟨X,X,⟨X,X,⟨X,X,⟨X,X,⟨X,X,e0⟩⟩⟩⟩⟩ (λw=>by kernel_rfl))<|eM aE<|eK J fl e0 X bo
  refine iu (λinv=>?_) bo;refine dB (cs:=enc aK.zero) X X ab Tryz.zeroValue114 X (λK=>?_);refine cW inv (ai rl) ?_;refine cP 10 (λinv=>?_);refine lf 2 X<|mH X X ab (vs:=[iv (0:Int)]) (cs:=[pv a 0]) X e0 Tryz.call100 (vS N (aZ (ai e)))<|lf 3 X<|lf 1 X<|lf 3 X<|lf 3 X<|cW inv (ai rl) ?_;refine cP 12 (λinv=>?_);exact lf 2 X<|mH X X ab (vs:=[iv (1:Int)]) (cs:=[pv a 0]) X e0 Tryz.call100 (vS z (aZ (ai e)))<|lf 3 X<|lf 1 X<|lf 3 X<|lf 3 X<|cW inv (ai rl)<|d8 (λhd w=>SH W zT ((.blk K (enc aK.zero) 114)::T2::(.blk a (enc m5) 9)::T1::L) hd w) (λ_ w h=>(h.weaken fl).sublist (ai rl))<|aB X aA av 15 rl X (cQ (v:=.agg (enc T0).toArray) (pv:=[(0,iv (g.toBitVec.toNat:Int)),(1,iv (k.toBitVec.toNat:Int)),(2,iv (n.toBitVec.toNat:Int)),(3,iv t),(4,iv u),(6,Y.v q)]) ⟨X,X,⟨X,X,⟨X,X,⟨X,X,⟨X,X,e0⟩⟩⟩⟩⟩ (λw=>by kernel_rfl))<|eM aE<|eK K fl e0 X bo
 rintro OJ f AH hy;refine bJ 0 X X X fG (vs:=enc T0) X el (an.one _) (cs':=enc T0) bZ X<|aa<|ap<|ae<|Z X<|aa<|bI ?_;obtain⟨a1,H,Pd⟩:=bs H;refine dH (σ:=Nat×Nat×aK) (λ(i66,b,c)=>[(2,pv b1 0),(6,.func (.func 100) #[] #[pv a 0]),(7,pv f 0),(54,iv (i66:Int))]) (λ(i66,b,c)=>(.blk f (enc c) 114)::T2::(.blk a (enc m5) 9)::T1::L) (λ_=>(λ(i66,b,c)=>bE (vT m5) b i66 c=some a1/\i66+b=6)) (λ(i66,b,c)=>b) (0,6,T0) e0 X ⟨H,by omega⟩ ?_;rintro F68 ⟨i66,b,c⟩ Es ⟨H,a5⟩;rcases b with _|b
 .have E:decide ((i66:Int)<(6:Int))=false:=cX O;replace H:=fU H;refine ae<|lr (bF X X)<|aa<|ap<|aS X E<|dr<|bQ<|bQ<|dt ?_;subst H;replace H:=Pd;refine aF<|ap<|ae<|lr (dY (i:=0) X X kv fG (ch:=enc c) el ak)<|bz H λa7 ax H=>bW X e0 Tryz.call101 (MX ax (cg e))<|ag X<|bq<|Z X<|lr (eU X X)<|aa<|iz H (λD H=>?_) λD H=>aS X D<|bc<|aF<|ae<|lr (dY (i:=0) X X kv fG (ch:=enc c) el ak)<|bJ 3 X X X fG (vs:=enc c) X el (an.one _) (cs':=enc c) bZ X<|ag X<|aa ?_
  .refine aU X D<|ae<|lr (cQ (v:=.agg (enc aK.zero).toArray) (pv:=[]) bo (λw=>by kernel_rfl))<|Z X<|bJ 3 X X X fG (vs:=enc aK.zero) X el (an.one _) (cs':=enc aK.zero) bZ X<|ag X<|aa ?_;obtain rfl:=si H;exact aV<|bt<|dC X (dQ (i:=3) X X kv fG el) (aO X) (ft (ft (ft dX wZ) AH) Es) (cg rl) ⟨X,X⟩
  obtain rfl:=si H;exact aV<|dC X (dQ (i:=3) X X kv fG el) (aO X) (ft (ft (ft dX wZ) AH) Es) (cg rl) ⟨X,X⟩
 have E:decide ((i66:Int)<(6:Int))=true:=dl O;obtain⟨a4,H,ay⟩:=fV H;unfold vT at H
 try dsimp only at H
 exact ae<|lr (bF X X)<|aa<|ap<|aU X E<|bc<|aF<|ap<|bI<|ae<|Z X<|ag X<|aa<|bB<|Z X<|Z X<|Z X<|lr (cM X X)<|bz H λQ al H=>lf 2 X<|mH X X ab (vs:=[iv (aq ((2:Int)+(i66:Int)))]) (cs:=[pv a 0]) X e0 Tryz.call100 (vS al (aZ (ai e)))<|lr (az 5 X di X wE X X)<|bz H λa3 am H=>have y:=fL am;lr (gp (off':=5+(i66:Int).toNat*1) X X wA Z3 y.1 y.2.1 X)<|lz H λP au H=>bJ 1 X X X Z3 (vs:=[iv Q]) X X X (cs':=enc P) (by(try dsimp+zetaDelta only);rw[<-au];exact(Ql (kK (s:=1) (x:=a3) X y.2.2 (cm (vs:=[iv Q]) X))).off O) X<|aC<|bY<|aF<|bB<|lr (dG O X X)<|Z X<|aC<|af 2 X<|af 2 X<|aT (i66+1,b,P) Es e0 X ⟨⟨ay _ (sj H),by omega⟩,cL⟩
theorem VF{a0 c r}(H:xB a0=some r)(g:M.Sublist L)(j:Rd W F M c a0.bg):Ok Tryz.prog W 137 [.agg (enc (am.mk a0 c)).toArray] F (L) (Is (iv r) (L)):=by
 unfold xB at H;refine bR 45 Tryz.func137 X<|ae ?_;refine fQ X X ab X (cs:=enc (am.mk a0 c)) X (λb1=>?_);refine ag X<|aa<|ap<|bI<|ae<|lr (az 0 X er X Z3 X X)<|lr (aI (i:=0) X X I3 (v:=iv a0.Next) ((wy ak).off X))<|bz H λr3 h4 H=>bW X e0 Tryz.call115 (Fi h4 (ai g))<|lr (fD X)<|ag X<|aa<|iz H (λw H=>?_) λw H=>aS X w<|ae<|lr (az 1 X er X jo X X)<|lr (aI (i:=0) X X mj (v:=Sl.v c) ((Dv ak).off X))<|lr (cw (α:=aP) (xs:=a0.bg) ab X X eB (j.mono fl (ai g)))<|lr (ef X X)<|ag X<|aa<|iz H (λy H=>?_) λy H=>aS X y<|bc<|bY<|aF<|ae<|lr (az 0 X er X Z3 X X)<|lr (aI (i:=0) X X I3 (v:=iv a0.Next) ((wy ak).off X))<|ag X<|aa<|ap<|ae<|lr (az 1 X er X jo X X)<|lr (aI (i:=0) X X mj (v:=Sl.v c) ((Dv ak).off X))<|lr (cw (α:=aP) (xs:=a0.bg) ab X X eB (j.mono fl (ai g)))<|Z X<|aa<|bI ?_
 .refine aU X w<|ae<|ag X<|aa ?_;obtain rfl:=si H;exact aV<|dm<|bt<|bp X (aO X) fl (ai rl) ⟨X,X⟩
 .refine aU X y<|ae<|ag X<|aa ?_;obtain rfl:=si H;exact aV<|dm<|bt<|bp X (aO X) fl (ai rl) ⟨X,X⟩
 refine fC (fT (α:=aP) (xs:=a0.bg) ab (j.mono fl (ai g))) (λacO=>?_);obtain⟨J,H,z4⟩:=gR H;refine dH (σ:=Nat×Nat×Int) (λ(i9,k9,f)=>[(1,pv b1 0),(3,iv f),(19,Sl.v c),(20,iv (a0.bg.length:Int)),(21,iv (i9:Int))]) (λ(i9,k9,f)=>(.blk b1 (enc (am.mk a0 c)) 50)::L) (λ_=>(λ(i9,k9,f)=>dT (uR a0) k9 i9 f=some J/\i9+k9=a0.bg.length)) (λ(i9,k9,f)=>k9) (0,a0.bg.length,a0.Next) e0 X ⟨H,by omega⟩ ?_;rintro wo ⟨i9,k9,f⟩ jC ⟨H,P⟩;rcases k9 with _|k9
 .have z:decide ((i9:Int)<(a0.bg.length:Int))=false:=cX O;replace H:=oK H;refine ae<|lr (bF X X)<|aa<|ap<|aS X z<|dr<|bQ<|bQ<|dt ?_;subst H;replace H:=z4;refine aF<|ae<|ag X<|aa ?_;obtain rfl:=si H;exact aV<|bp X (aO X) jC (ai rl) ⟨X,X⟩
 have z:decide ((i9:Int)<(a0.bg.length:Int))=true:=dl O;obtain⟨c9,H,C,N,D⟩:=oL H;unfold uR at H
 try dsimp only at H
 refine ae<|lr (bF X X)<|aa<|ap<|aU X z<|bc<|aF<|ap<|bI<|ae<|bz H λb A H=>have t:=cd A;lr (cp (α:=aP) (xs:=a0.bg) X X eB fc X ab (j.mono jC (ai g)) t.1 t.2.1)<|lr (ik (α:=aP) X (j.mono jC (ai g)) tV fc (ch:=enc b) el ab ((bK (s:=2) (x:=b) X t.2.2 ak).off O)) ?_
 refine dB (cs:=enc aP.zero) X X ab Tryz.zeroValue142 X (λq=>?_);refine bJ 0 X X X fc (vs:=enc b) X el (an.one _) (cs':=enc b) bZ X<|aa<|ap<|ae<|lr (az 0 X iC X Z3 X X)<|lr (aI (i:=0) X X I3 (v:=iv b.ao) ((kJ ak).off X))<|Z X<|lr (Ev.leq X X)<|Z X ?_;obtain⟨E,H,oP⟩:=bs H;refine dh (σ:=Bool) 7 (λk=>[(1,pv b1 0),(3,iv f),(5,pv q 0),(19,Sl.v c),(20,iv (a0.bg.length:Int)),(21,iv (i9:Int)),(36,.bool k)]) (λk=>(.blk q (enc b) 142)::(.blk b1 (enc (am.mk a0 c)) 50)::L) (λ_ k=>k=E) ?_ ?_
 .refine iz H (λa H=>?_) λa H=>lg a (az 0 X iC X Z3 X X)<|lg a (aI (i:=0) X X I3 (v:=iv b.ao) ((kJ ak).off X))<|lg a (az 0 X er X Z3 X X)<|lg a (aI (i:=1) X X I3 (v:=iv a0.Next) ((wy ak).off X))<|lg a (cM X X)<|lg a (gY X X)<|lr (cx X a X)<|aC ?_
  .exact aH X a<|aH X a<|aH X a<|aH X a<|aH X a<|aH X a<|lr (cD X a X)<|aC<|aT true fl e0 X (si H)
  exact aT (decide (b.ao>=(aq (a0.Next+(16:Int))))) fl e0 X (si H)
 rintro mW k ie hy;subst hy;replace H:=oP;refine Z X ?_;obtain⟨G,H,C6⟩:=bs H;refine dh (σ:=Bool) 4 (λn=>[(1,pv b1 0),(3,iv f),(5,pv q 0),(19,Sl.v c),(20,iv (a0.bg.length:Int)),(21,iv (i9:Int)),(41,.bool n)]) (λn=>(.blk q (enc b) 142)::(.blk b1 (enc (am.mk a0 c)) 50)::L) (λ_ n=>n=G) ?_ ?_
 .refine iz H (λe H=>?_) λe H=>lg e (az 1 X iC X Z9 X X)<|lg e (aI (i:=0) X X I9 (v:=Y.v b.aM) ((sY ak).off X))<|bz H λK B H=>rc X X X e X ab e0 Tryz.call95 (Bj B (aZ g))<|lr (cx X e X)<|aC ?_
  .exact aH X e<|aH X e<|aH X e<|lr (cD X e X)<|aC<|aT true fl e0 X (si H)
  exact aT K fl e0 X (si H)
 rintro CM n ss hy;subst hy;replace H:=C6;refine aa<|iz H (λu H=>?_) λu H=>aS X u<|bc<|aF<|bB<|lr (az 0 X iC X Z3 X X)<|lr (aI (i:=0) X X I3 (v:=iv b.ao) ((kJ ak).off X))<|ag X<|aC<|bY<|aF<|bB<|lr (dG O X X)<|Z X<|aC<|dW (ai rl) ?_
 .refine aU X u<|ae<|ag X<|aa ?_;have H:=D _ (sj H);subst H;replace H:=z4;obtain rfl:=si H;exact aV<|bt<|dm<|bt<|bt<|dm<|bt<|bp X (aO X) (ft (ft jC ie) ss) (aZ rl) ⟨X,X⟩
 exact aT (i9+1,k9,b.ao) (ft (ft jC ie) ss) e0 X ⟨⟨C _ (sj H),by omega⟩,cL⟩
theorem Gh{a0 b r}(H:vE a0=some r)(c:M.Sublist L)(e:Rd W F M b a0):Ok Tryz.prog W 138 [Sl.v b] F (L) (λ_ L' v=>∃(s1:Sl),v=Sl.v s1/\L'=(.own s1 142 2 (I r))::L):=by
 unfold vE at H;refine bR 8 Tryz.func138 X<|ae<|dx 142 2<|ag X<|aa<|ap<|ae<|Z X<|lr (CD X eB)<|aa ?_;rcases Bool.eq_false_or_eq_true ((Sl.a b).isNone)with a|a
 .refine fC (Dt (α:=aP) ab (e.mono fl (ai c)) a) (λf=>?_);rw[DO f]at H;refine aU X a<|ae<|dx 142 2<|ag X<|aa ?_;obtain rfl:=si H;exact aV<|bt<|bp X (aO X) fl (ca (ai rl)) ⟨Sl.nil,X,X⟩
 refine aS X a<|bc<|aF<|ae ?_;refine Dj X X ab eB fc (λs3=>?_);refine Z X<|bz H λu5 h6 H=>?_;refine fk (i:=0) (α:=aP) (xs:=([]:List aP)) (ys:=a0) X X ab X X eB Tryz.typeInfo142 X X X X X X (e.mono fl (aZ c)) X (d9 h6) X (λs7=>?_);refine ag X<|aa ?_;obtain rfl:=si H;exact aV<|bp X (aO X) fl (ca (ai rl)) ⟨s7,X,X⟩
theorem Kh{a0 a1 r}(H:uS a0 a1=some r)(a:M.Sublist L):Ok Tryz.prog W 140 [.agg (enc a0).toArray,iv a1] F (L) (Is (iv r) (L)):=by unfold uS at H;refine bR 9 Tryz.func140 X<|ae ?_;refine fQ X X ab X (cs:=enc a0) X (λb1=>?_);refine ag X<|bq<|lr (az 0 X iC X Z3 X X)<|lr (aI (i:=0) X X I3 (v:=iv a0.ao) ((kJ ak).off X))<|Z X<|lr (fg X X)<|ag X<|aa ?_;obtain rfl:=si H;exact aV<|bp X (aO X) fl (ai rl) ⟨X,X⟩
theorem aaf{fu a0 a1 k r}(H:yJ fu a0 a1=some r)(b:M.Sublist L)(c:Rd W F M k a0):Ok Tryz.prog W 139 [Sl.v k,iv a1,.func (.func 140) #[] #[]] F (L) (Is (.tuple #[iv r.1,.bool r.2]) (L)):=by
 unfold yJ at H;refine bR 49 Tryz.func139 X<|ae<|ag X<|ag X<|bq<|Z X<|lr (cw (α:=aP) (xs:=a0) ab X X eB (c.mono fl b))<|ag X<|bq<|Z X<|ag X<|ag X<|aa<|ap<|bI ?_;obtain⟨A,H,mX⟩:=gR H;refine dH (σ:=Nat×Int×Int) (λ(k1,y2,y3)=>[(0,Sl.v k),(1,iv a1),(2,.func (.func 140) #[] #[]),(8,iv (a0.length:Int)),(9,iv y2),(10,iv y3)]) (λ(k1,y2,y3)=>L) (λ_=>(λ(k1,y2,y3)=>df (yK a0 a1) k1 (y2,y3)=some A)) (λ(k1,y2,y3)=>k1) (fu,(0:Int),(a0.length:Int)) e0 X H ?_;rintro F4 ⟨k1,y2,y3⟩ gI H;rcases k1 with _|k1
 .cases H
 obtain⟨c1,H,t,z,C⟩:=lk H;unfold yK at H
 try dsimp only at H
 refine ap<|ae<|Z X<|Z X<|lr (bF X X)<|aa<|iy H (λj H=>?_) λj H=>aU X j<|bc<|aF<|bI<|ae<|Z X<|Z X<|lr (cM X X)<|lr (GW X U3 Ic)<|lr (zO (i:=BitVec.ofInt 64 (aq (y2+y3))) (m:=1) X X)<|lr (NG X Ic U3)<|ag X<|bq<|Z X<|Z X<|Z X<|bz H λq w H=>have f:=cd w;lr (cp (α:=aP) (xs:=a0) X X eB fc X ab (c.mono gI b) f.1 f.2.1)<|lr (ik (α:=aP) X (c.mono gI b) tV fc (ch:=enc q) el ab ((bK (s:=2) (x:=q) X f.2.2 ak).off O))<|Z X<|bz H λD y H=>mH X X ab (vs:=[.agg (enc q).toArray,iv a1]) (cs:=[]) X e0 Tryz.call140 (Kh y b)<|lr (bF X X)<|aa<|iy H (λg H=>?_) λg H=>aU X g<|bB<|Z X<|lr (cM X X)<|ag X<|aC<|bY ?_
 .refine aS X j<|dr<|bQ<|bQ<|dt ?_;have H:=z _ (sj H);subst H;replace H:=mX;refine aF<|ae<|Z X<|Z X<|Z X<|lr (bF X X)<|Z X ?_;obtain⟨o7,H,wv⟩:=bs H;refine dh (σ:=Bool) 9 (λy8=>[(35,iv y2),(48,.bool y8)]) (λy8=>L) (λ_ y8=>y8=o7) ?_ ?_
  .refine iy H (λa H=>?_) λa H=>lg a (ar X)<|lg a (ar X)<|lg a (ar X)<|bz H λn u H=>have e:=cd u;lg a (cp (α:=aP) (xs:=a0) X X eB fc X ab (c.mono gI b) e.1 e.2.1)<|lg a (ik (α:=aP) X (c.mono gI b) tV fc (ch:=enc n) el ab ((bK (s:=2) (x:=n) X e.2.2 ak).off O))<|lg a (ar X)<|bz H λB v H=>Dk X X X a X ab (vs:=[.agg (enc n).toArray,iv a1]) (cs:=[]) X e0 Tryz.call140 (Kh v b)<|lg a (cN X X)<|lr (cD X a X)<|aC ?_
   .exact aH X a<|aH X a<|aH X a<|aH X a<|aH X a<|aH X a<|aH X a<|aH X a<|lr (cx X a X)<|aC<|aT false fl e0 X (si H)
   exact aT (B==(0:Int)) fl e0 X (si H)
  rintro wp y8 ib hy;subst hy;replace H:=wv;refine ag X<|ag X<|aa ?_;obtain rfl:=si H;exact aV<|dC X (aO X) (aO X) (ft gI ib) rl ⟨X,X⟩
 .exact aS X g<|bB<|Z X<|ag X<|aC<|bY<|aT (k1,y2,aq (((BitVec.ofInt 64 (aq (y2+y3)))>>>1).toNat:Int)) gI e0 X ⟨t _ (sj H),cL⟩
 exact aT (k1,aq ((aq (((BitVec.ofInt 64 (aq (y2+y3)))>>>1).toNat:Int))+(1:Int)),y3) gI e0 X ⟨t _ (sj H),cL⟩
theorem aap{a0 a1 a2 s0 s2 r}(H:tE a0 a1 a2=some r)(f:M.Sublist L):Ok Tryz.prog W 141 [Sl.v s0,iv a1,Sl.v s2] F ((.own s0 142 2 (I a0))::(.own s2 142 2 (I a2))::L) (λ_ L' v=>∃(s1:Sl),v=Sl.v s1/\L'=(.own s1 142 2 (I r))::L):=by
 unfold tE at H;refine bz H λm1 h1 H=>bz H λu1 h2 H=>?_;replace H:=si H;have g:=(ky h1).1;have UE:=d9 h2;obtain⟨i,rfl⟩:=E9 g.1;have hi:i<=a0.length:=by omega
 rw[jZ]at H;refine bR 95 Tryz.func141 X<|ap<|bB ?_;refine z9 (α:=aP) (i:=0) (xs:=a0) X X X ab (λw n=>?_);refine z9 (α:=aP) (i:=1) (xs:=a2) X X X ab (λy u=>?_);refine ag X<|aC<|aF<|ap<|bB<|lr (ar X)<|lr (ar X)<|lr (j6 (α:=aP) (xs:=a0) (i:=(i:Int)) (j:=(a0.length:Int)) X X X eB fc X ab (nB (i:=0) X X X) g.1 g.2.1 g.2.2)<|aC<|aF<|ap<|bB<|lr (ar X)<|lr (cw (α:=aP) (xs:=a2) ab X X eB (nB (i:=1) X X X))<|ag X<|aC<|aF<|ap<|ap<|bB<|lr (ar X)<|lr (cN X X)<|aC<|aF ?_;rcases Bool.eq_false_or_eq_true ((a2.length:Int)==(0:Int))with hb|hb
 .refine aU X hb<|ap<|bB<|lr (ar X)<|ag X<|aC<|aF<|aV ?_
  repeat refine bt ?_
  have e0:r=a0:=by have:a2=[]:=sR.1 (by simpa using hb);rw[<-H,this];simp
  exact bp (L':=(.own s0 142 2 (I a0))::L) X (aO X) (cS.refl _) (ca (ai rl)) ⟨s0,X,by rw[e0]⟩
 refine aS X hb<|bc<|aF ?_;have hm:0<a2.length:=Nat.pos_of_ne_zero λh=>by rw[h]at hb;cases hb
 refine ap<|bB<|lr (ar X)<|lr (cw (α:=aP) (xs:=a0) ab X X eB (nB (i:=0) X X X))<|ag X<|aC<|aF<|ap<|ap<|bB<|lr (ar X)<|lr (ar X)<|lr (cN X X)<|aC<|aF ?_;rcases Bool.eq_false_or_eq_true ((i:Int)==(a0.length:Int))with b|b
 .refine aU X b<|ap<|bB<|lr (ar X)<|lr (ar X) ?_;refine fk (i:=0) (α:=aP) (xs:=a0) (ys:=a2) X X ab X X eB Tryz.typeInfo142 X X X X X X (nB (i:=1) X X X) X UE X (λs'=>?_);refine jK (L':=(.own s' 142 2 (I (a0++a2)))::(.own s2 142 2 (I a2))::L) X<|ag X<|aC<|aF<|aV ?_
  repeat refine bt ?_
  have e0:r=a0++a2:=by
   have:i=a0.length:=by have:=jW.1 b;omega
   rw[<-H,this];simp
  exact bp (L':=(.own s' 142 2 (I (a0++a2)))::L) X (aO X) (cS.refl _) (ca (ai rl)) ⟨s',X,by rw[e0]⟩
 refine aS X b<|bc<|aF ?_;have up:i<a0.length:=by
  have:i≠a0.length:=λh=>by rw[h]at b;simp at b
  omega
 refine ap<|ap<|bB<|lr (ar X)<|lr (ar X)<|lr (cM X X)<|lr (ar X)<|lr (ND X X eB)<|lr (ef X X)<|aC<|aF ?_;have ws:aq ((a0.length:Int)+(a2.length:Int))=((a0.length+a2.length:Nat):Int):=by rw[bO O O];rfl
 have zo:aq ((i:Int)+(a2.length:Int))=((i+a2.length:Nat):Int):=by rw[bO O O];rfl
 rcases Bool.eq_false_or_eq_true (decide (aq ((a0.length:Int)+(a2.length:Int))>(s0.cap:Int)))with a|a
 .refine aU X a ?_;have EC:s0.cap<a0.length+a2.length:=by rw[ws]at a;have:=om a;omega
  have wk:aq (aq ((a0.length:Int)+(a2.length:Int))-(i:Int))=((a0.length+a2.length-i:Nat):Int):=by rw[ws,bO O O];omega
  refine ap<|bB<|lr (ar X)<|lr (ar X)<|lr (j6 (α:=aP) (xs:=a0) (i:=0) (j:=(i:Int)) X X X eB fc X ab (nB (i:=0) X X X) O O O)<|lr (ar X)<|lr (ar X)<|lr (cM X X)<|lr (ar X)<|lr (fg X X) ?_;refine PT (α:=aP) (j:=0) (i:=i) (k:=a0.length+a2.length-i) (xs:=a0) aP.zero X X ab X (congrArg some (congrArg (Value.int .i64) wk)) eB U3 Tryz.typeInfo142 X X X X X O X X X hi O (λs'=>?_);have EB:=Vl (ys:=a2) (z:=aP.zero) hi;have Tg:(a0.take i++List.replicate (a0.length+a2.length-i) aP.zero).length=a0.length+a2.length:=by simp;omega
  generalize hX1:a0.take i++List.replicate (a0.length+a2.length-i) aP.zero=X1 at EB Tg ⊢;refine ag X<|aC<|aF<|ap<|bB<|lr (ar X)<|lr (ar X)<|lr (j6 (α:=aP) (xs:=X1) (i:=(i:Int)) (j:=(X1.length:Int)) X X X eB fc X ab (nB (i:=0) X X X) O O O)<|lr (ar X)<|a9.copy (i:=0) (α:=aP) (lo:=i) (hi:=X1.length) (xs:=X1) (ys:=a2) X X ab X X eB fc X ab X X (nB (i:=2) X X X) O O ?_;have Th:=RX (xs:=X1) (ys:=a2) (lo:=i) (hi:=X1.length) O (dO _);generalize hX2:iP X1 i X1.length a2=X2 at EB Th ⊢;refine jK (L':=(.own s' 142 2 (I X2))::(.own s0 142 2 (I a0))::(.own s2 142 2 (I a2))::L) X<|aC<|aF<|ap<|jM 8 aE aE<|qr (ar X)<|qr (ar X)<|qr (ar X)<|qr (cM X X)<|qr (j6 (α:=aP) (xs:=X2) (i:=(aq ((i:Int)+(a2.length:Int)))) (j:=(X2.length:Int)) X X X eB fc X ab (nB (i:=0) X X X) (by rw[zo];omega) (by rw[zo];omega) O)<|qr (ar X)<|qr (ar X)<|qr (j6 (α:=aP) (xs:=a0) (i:=(i:Int)) (j:=(a0.length:Int)) X X X eB fc X ab (nB (i:=1) X X X) O O O)<|jL ?_;have EI:(aq ((i:Int)+(a2.length:Int))).toNat=i+a2.length:=by rw[zo];rfl
  refine a9.copy (i:=0) (α:=aP) (lo:=(aq ((i:Int)+(a2.length:Int))).toNat) (hi:=X2.length) (xs:=X2) (ys:=a0.drop i) X X ab X X eB fc X ab X X (QT ab (nB (i:=1) X X X) hi) O O<|jK (L':=(.own s' 142 2 (I (iP X2 (i+a2.length) X2.length (a0.drop i))))::(.own s0 142 2 (I a0))::(.own s2 142 2 (I a2))::L) (by rw[EI];rfl)<|aC<|aF<|ap<|bB<|lr (ar X)<|ag X<|aC<|aF<|aV ?_
  repeat refine bt ?_
  have e0:r=iP X2 (i+a2.length) X2.length (a0.drop i):=by rw[EB,<-H]
  exact bp (L':=(.own s' 142 2 (I (iP X2 (i+a2.length) X2.length (a0.drop i))))::L) X (aO X) (cS.refl _) (ca (ai (ai rl))) ⟨s',X,by rw[e0]⟩
 refine aS X a<|bc<|aF ?_;have qJ:a0.length+a2.length<=s0.cap:=by rw[ws]at a;have:=E7 a;omega
 refine ap<|bB<|lr (ar X)<|lr (ar X)<|lr (ar X)<|lr (cM X X)<|lr (NM X X ws eB fc qJ) ?_;refine P4 (α:=aP) (j:=0) (q:=a2.length) (xs:=a0) X X X ab qJ O (λjs TT=>?_);refine ag X<|aC<|aF ?_;obtain⟨s1,e⟩:∃s1:Sl,s1=⟨s0.a,a0.length+a2.length,s0.cap⟩:=⟨_,X⟩
 rw[<-e];have x:s1.len=a0.length+a2.length:=by rw[e]
 refine CA (e':=[(0,Sl.v s1),(1,iv (i:Int)),(2,Sl.v s2),(7,iv (a2.length:Int)),(8,iv (a0.length:Int))]) (L':=(.own s1 142 2 (I a0++js))::(.own s2 142 2 (I a2))::L) e0 X<|ap<|ap<|bB<|lr (ar X)<|lr (ar X)<|lr (ar X)<|lr (ar X)<|lr (cM X X)<|lr (zM X X zo eB fc O)<|P7 (t:=48) (r:=4) (i:=0) (j:=1) X X ab X X aE fc Tryz.func162 aE aE aE aE X X ab O O ab<|lr (fD X)<|aC<|aF<|aU X X ?_;have TC:(I a0++js).drop (i*2)=I (a0.drop i)++js:=by rw[List.drop_append_of_le_length (by rw[d7];exact oh _ hi),show i*2=i*sz aP from X,<-wM]
 refine ap<|jM 8 aE aE<|qr (ar X)<|qr (ar X)<|qr (ar X)<|qr (cM X X)<|qr (zM X X zo eB fc O)<|qr (ar X)<|qr (ar X)<|qr (zM (q:=i) X X X eB fc O)<|jL<|HA (α:=aP) (i:=0) (lo:=i+a2.length) (hi:=s1.len) (ys:=a0.drop i) X X ab X X eB fc X ab X (Zv (i:=0) (rest:=js) X O TC X) (by have:(s1.cut i s1.len 2).len=s1.len-i:=X;rw[this,gM];omega) O (dO _)<|aC<|aF<|ap<|bB<|lr (ar X)<|lr (ar X)<|lr (zM (q:=i) X X X eB fc O)<|lr (ar X)<|HA (α:=aP) (i:=0) (lo:=i) (hi:=s1.len) (ys:=a2) X X ab X X eB fc X ab X (Zx (nB (i:=1) X X X) X) O O (dO _) ?_;have Tt:((I a0++js).take ((i+a2.length)*2)++(I (a0.drop i)++(I a0++js).drop ((i+a2.length+(a0.drop i).length)*2))).take (i*2)++(I a2++((I a0++js).take ((i+a2.length)*2)++(I (a0.drop i)++(I a0++js).drop ((i+a2.length+(a0.drop i).length)*2))).drop ((i+a2.length)*2))=I r:=by
  have eA:I a0=I (a0.take i)++I (a0.drop i):=by rw[<-iG,eD]
  have lA:(I (a0.take i)).length=i*2:=by rw[d7,gn,iV hi];rfl
  have lV:(I a2).length=a2.length*2:=d7 _;have lB:(I (a0.drop i)).length=(a0.drop i).length*2:=d7 _;have:=Vk (V:=I a2) (J:=js) (A:=I (a0.take i)) (B:=I (a0.drop i)) (by rw[lV,TT]);rw[lA,lV,lB,<-eA,<-mz,<-mz]at this;rw[<-H,iG,iG];exact this
 refine jK (L':=(.own s1 142 2 (I r))::(.own s2 142 2 (I a2))::L) (congrArg (λc=>Item.own s1 142 2 c::(.own s2 142 2 (I a2))::L) Tt)<|aC<|aF<|ap<|bB<|lr (ar X)<|ag X<|aC<|aF<|aV ?_
 repeat refine bt ?_
 exact bp (L':=(.own s1 142 2 (I r))::L) X (aO X) (cS.refl _) (ca (ai rl)) ⟨s1,X,X⟩
abbrev cz:=@GG
abbrev db:=@jl
abbrev br:=@Cz
abbrev ri:=@tU
abbrev nG:=@ql
abbrev xX:=@Hr
abbrev ve:=@PQ
abbrev xN:=@Dn
abbrev Bz:=@Qr
abbrev Fq:=@Qs
abbrev mM:=@QE
abbrev xO:=@QF
abbrev u2:=@QG
abbrev nA:=@QH
abbrev xP:=@QI
abbrev xQ:=@QJ
abbrev xR:=@QK
abbrev BA:=@QL
abbrev Fr:=@QM
abbrev oG:=@Dv
abbrev j4:=@wy
abbrev u3:=@QZ
abbrev xS:=@Q0
abbrev pN:=@qp
abbrev BB:=@Q4
abbrev BC:=@Ah
abbrev xV:=@Ai
