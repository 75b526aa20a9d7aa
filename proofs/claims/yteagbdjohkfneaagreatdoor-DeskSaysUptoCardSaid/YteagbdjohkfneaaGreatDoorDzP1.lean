/-
  The functions compute their specs; printed by a program.
-/
import Derived.Test.YteagbdjohkfneaaGreatDoorDzSp
import Derived.Test.YteagbdjohkfneaaGreatDoorGoHd
namespace Go.Proofs.YteagbdjohkfneaaGreatDoor
open Go.RowKit an
set_option linter.unusedVariables false
set_option linter.unusedSimpArgs false
set_option maxRecDepth 20000
structure bb where
 v:aJ
 h1:Sl
instance :an bb:=⟨λp=>enc p.v.bI++(enc p.h1),2,λp=>by simp only[cH,an.len];rfl,λp=>by simp only[jf,an.one,je]⟩
abbrev U3:=@Tryz.runUnderlying3
abbrev U4:=@Tryz.runUnderlying4
abbrev U5:=@Tryz.runUnderlying5
abbrev U9:=@Tryz.runUnderlying9
abbrev bO:=@Tryz.runUnderlying22
abbrev ru:=@Tryz.runUnderlying23
abbrev ko:=@Tryz.runUnderlying42
abbrev eJ:=@Tryz.runUnderlying44
abbrev cS:=@Tryz.runUnderlying71
abbrev gn:=@Tryz.runUnderlying74
abbrev p7:=@Tryz.runUnderlying78
abbrev JP:=@Tryz.runUnderlying81
abbrev k0:=@Tryz.runUnderlying82
abbrev l9:=@Tryz.runUnderlying86
abbrev u4:=@Tryz.runUnderlying90
abbrev dS:=@Tryz.runUnderlying98
abbrev kZ:=@Tryz.runUnderlying112
abbrev uZ:=@Tryz.runUnderlying122
abbrev JI:=@Tryz.runUnderlying128
abbrev JJ:=@Tryz.runUnderlying133
abbrev JK:=@Tryz.runUnderlying134
abbrev jw:=@Tryz.runUnderlying136
abbrev xR:=@Tryz.runUnderlying171
abbrev JL:=@Tryz.runUnderlying179
abbrev JM:=@Tryz.runUnderlying180
abbrev u2:=@Tryz.runUnderlying182
abbrev JN:=@Tryz.runUnderlying202
abbrev Z3:=@Tryz.sizeOf3
abbrev Z4:=@Tryz.sizeOf4
abbrev Z5:=@Tryz.sizeOf5
abbrev Z9:=@Tryz.sizeOf9
abbrev dP:=@Tryz.sizeOf22
abbrev d2:=@Tryz.sizeOf41
abbrev gy:=@Tryz.sizeOf82
abbrev rA:=@Tryz.sizeOf90
abbrev eL:=@Tryz.sizeOf98
abbrev BG:=@Tryz.sizeOf122
abbrev JU:=@Tryz.sizeOf179
abbrev JV:=@Tryz.sizeOf180
abbrev td:=@Tryz.sizeOf202
abbrev I3:=@Tryz.isAgg3
abbrev I4:=@Tryz.isAgg4
abbrev I5:=@Tryz.isAgg5
abbrev I9:=@Tryz.isAgg9
abbrev fd:=@Tryz.isAgg22
abbrev jF:=@Tryz.isAgg41
abbrev ni:=@Tryz.isAgg71
abbrev p5:=@Tryz.isAgg82
abbrev o0:=@Tryz.isAgg90
abbrev jV:=@Tryz.isAgg98
abbrev Bw:=@Tryz.isAgg202
theorem QO{p:bb}{k:Nat}{ch:List Value}(h:bS (enc p.v.bI) k ch):bS (enc p) (0+k) ch:=d8 (fi h) O
theorem Ey{p:bb}{k:Nat}{vs:List Value}{y:Int}(h:bQ (enc p.v.bI) k vs (enc y)):bQ (enc p) (0+k) vs (enc ({p with v:={p.v with bI:=y}}:bb)):=d7 (cs':=enc ({p with v:={p.v with bI:=y}}:bb)) (eS h) O
theorem QP{p:bb}{k:Nat}{ch:List Value}(h:bS (enc p.h1) k ch):bS (enc p) (1+k) ch:=d8 (cz (m:=1) el h) O
theorem QQ{p:bb}{k:Nat}{vs:List Value}{y:Sl}{l:List Y}(h:bQ (enc p.h1) k vs (enc y)):bQ (enc p) (1+k) vs (enc ({p with v:={p.v with aR:=l},h1:=y}:bb)):=d7 (cs':=enc ({p with v:={p.v with aR:=l},h1:=y}:bb)) (cr (m:=1) el h) O
def bb.rel(w0:World)(F:bM)(L:List Item)(x:bb):Prop:=Rd w0 F L x.h1 x.v.aR
theorem bb.mono{w0:World}{F F':bM}{L L':List Item}{x:bb}(h:bb.rel w0 F L x)(hF:dC F F')(hL:L.Sublist L'):bb.rel w0 F' L' x:=
 let h1:=h
 h1.mono hF hL
def bb.row(x:bb):LR Y:=⟨x.v.aR,x.h1⟩
theorem adT{w0:World}{F:bM}{L:List Item}{rs:List bb}(h:aW LR.rel w0 F L (List.map bb.row rs)):aW bb.rel w0 F L rs:=λx hx=>h (bb.row x) (zn hx)
theorem Ij{w0:World}{F F':bM}{L L':List Item}{rs:List bb}(h:aW bb.rel w0 F L rs)(hF:dC F F')(hL:L.Sublist L'):aW bb.rel w0 F' L' rs:=λx hx=>bb.mono (h x hx) hF hL
structure ao where
 v:To
 h1:Sl
instance :an ao:=⟨λp=>enc p.v.aN++(enc p.h1),2,λp=>by simp only[cH,an.len];rfl,λp=>by simp only[jf,an.one,je]⟩
theorem S9{p:ao}{k:Nat}{ch:List Value}(h:bS (enc p.v.aN) k ch):bS (enc p) (0+k) ch:=d8 (fi h) O
theorem Tb{p:ao}{k:Nat}{vs:List Value}{y:Int}(h:bQ (enc p.v.aN) k vs (enc y)):bQ (enc p) (0+k) vs (enc ({p with v:={p.v with aN:=y}}:ao)):=d7 (cs':=enc ({p with v:={p.v with aN:=y}}:ao)) (eS h) O
theorem S8{p:ao}{k:Nat}{ch:List Value}(h:bS (enc p.h1) k ch):bS (enc p) (1+k) ch:=d8 (cz (m:=1) el h) O
theorem Ta{p:ao}{k:Nat}{vs:List Value}{y:Sl}{l:List bc}(h:bQ (enc p.h1) k vs (enc y)):bQ (enc p) (1+k) vs (enc ({p with v:={p.v with bu:=l},h1:=y}:ao)):=d7 (cs':=enc ({p with v:={p.v with bu:=l},h1:=y}:ao)) (cr (m:=1) el h) O
def ao.rel(w0:World)(F:bM)(L:List Item)(x:ao):Prop:=Rd w0 F L x.h1 x.v.bu
theorem ao.mono{w0:World}{F F':bM}{L L':List Item}{x:ao}(h:ao.rel w0 F L x)(hF:dC F F')(hL:L.Sublist L'):ao.rel w0 F' L' x:=
 let h1:=h
 h1.mono hF hL
def ao.row(x:ao):LR bc:=⟨x.v.bu,x.h1⟩
theorem aek{w0:World}{F:bM}{L:List Item}{rs:List ao}(h:aW LR.rel w0 F L (List.map ao.row rs)):aW ao.rel w0 F L rs:=λx hx=>h (ao.row x) (zn hx)
theorem Eg{w0:World}{F F':bM}{L L':List Item}{rs:List ao}(h:aW ao.rel w0 F L rs)(hF:dC F F')(hL:L.Sublist L'):aW ao.rel w0 F' L' rs:=λx hx=>ao.mono (h x hx) hF hL
structure aE where
 v:bw
 h1:Sl
 h2:bb
 h3:ao
 h4:ao
instance :an aE:=⟨λp=>enc p.v.eE++(enc p.h1++(enc p.h2++(enc p.h3++(enc p.h4)))),8,λp=>by simp only[cH,an.len];rfl,λp=>by simp only[jf,an.one,je]⟩
theorem SB{p:aE}{k:Nat}{ch:List Value}(h:bS (enc p.v.eE) k ch):bS (enc p) (0+k) ch:=d8 (fi h) O
theorem SF{p:aE}{k:Nat}{vs:List Value}{y:Bool}(h:bQ (enc p.v.eE) k vs (enc y)):bQ (enc p) (0+k) vs (enc ({p with v:={p.v with eE:=y}}:aE)):=d7 (cs':=enc ({p with v:={p.v with eE:=y}}:aE)) (eS h) O
theorem SD{p:aE}{k:Nat}{ch:List Value}(h:bS (enc p.h1) k ch):bS (enc p) (1+k) ch:=d8 (cz (m:=1) el (fi h)) O
theorem Jn{p:aE}{k:Nat}{vs:List Value}{y:Sl}{l:List aG}(h:bQ (enc p.h1) k vs (enc y)):bQ (enc p) (1+k) vs (enc ({p with v:={p.v with bq:=l},h1:=y}:aE)):=d7 (cs':=enc ({p with v:={p.v with bq:=l},h1:=y}:aE)) (cr (m:=1) el (eS h)) O
theorem SC{p:aE}{k:Nat}{ch:List Value}(h:bS (enc p.h2) k ch):bS (enc p) (2+k) ch:=d8 (cz (m:=1) el (cz (m:=1) el (fi h))) O
theorem SG{p:aE}{k:Nat}{vs:List Value}{y:bb}{l:aJ}(h:bQ (enc p.h2) k vs (enc y)):bQ (enc p) (2+k) vs (enc ({p with v:={p.v with aF:=l},h2:=y}:aE)):=d7 (cs':=enc ({p with v:={p.v with aF:=l},h2:=y}:aE)) (cr (m:=1) el (cr (m:=1) el (eS h))) O
theorem EY{p:aE}{k:Nat}{ch:List Value}(h:bS (enc p.h3) k ch):bS (enc p) (4+k) ch:=d8 (cz (m:=1) el (cz (m:=1) el (cz (m:=2) el (fi h)))) O
theorem Jp{p:aE}{k:Nat}{vs:List Value}{y:ao}{l:To}(h:bQ (enc p.h3) k vs (enc y)):bQ (enc p) (4+k) vs (enc ({p with v:={p.v with to:=l},h3:=y}:aE)):=d7 (cs':=enc ({p with v:={p.v with to:=l},h3:=y}:aE)) (cr (m:=1) el (cr (m:=1) el (cr (m:=2) el (eS h)))) O
theorem SE{p:aE}{k:Nat}{ch:List Value}(h:bS (enc p.h4) k ch):bS (enc p) (6+k) ch:=d8 (cz (m:=1) el (cz (m:=1) el (cz (m:=2) el (cz (m:=2) el h)))) O
theorem Jo{p:aE}{k:Nat}{vs:List Value}{y:ao}{l:To}(h:bQ (enc p.h4) k vs (enc y)):bQ (enc p) (6+k) vs (enc ({p with v:={p.v with bN:=l},h4:=y}:aE)):=d7 (cs':=enc ({p with v:={p.v with bN:=l},h4:=y}:aE)) (cr (m:=1) el (cr (m:=1) el (cr (m:=2) el (cr (m:=2) el h)))) O
def aE.rel(w0:World)(F:bM)(L:List Item)(x:aE):Prop:=Rd w0 F L x.h1 x.v.bq/\(x.h2.v=x.v.aF/\bb.rel w0 F L x.h2)/\(x.h3.v=x.v.to/\ao.rel w0 F L x.h3)/\(x.h4.v=x.v.bN/\ao.rel w0 F L x.h4)
theorem aE.mono{w0:World}{F F':bM}{L L':List Item}{x:aE}(h:aE.rel w0 F L x)(hF:dC F F')(hL:L.Sublist L'):aE.rel w0 F' L' x:=
 let⟨h1,h2,h3,h4⟩:=h
 ⟨h1.mono hF hL,⟨h2.1,bb.mono h2.2 hF hL⟩,⟨h3.1,ao.mono h3.2 hF hL⟩,⟨h4.1,ao.mono h4.2 hF hL⟩⟩
def aE.row(x:aE):LR aG:=⟨x.v.bq,x.h1⟩
def dK(w0:World)(F:bM)(L:List Item)(x:aE):Prop:=(x.h2.v=x.v.aF/\bb.rel w0 F L x.h2)/\(x.h3.v=x.v.to/\ao.rel w0 F L x.h3)/\(x.h4.v=x.v.bN/\ao.rel w0 F L x.h4)
theorem Ef{w0:World}{F F':bM}{L L':List Item}{rs:List aE}(h:aW dK w0 F L rs)(hF:dC F F')(hL:L.Sublist L'):aW dK w0 F' L' rs:=λx hx=>
 let⟨h2,h3,h4⟩:=h x hx
 ⟨⟨h2.1,bb.mono h2.2 hF hL⟩,⟨h3.1,ao.mono h3.2 hF hL⟩,⟨h4.1,ao.mono h4.2 hF hL⟩⟩
theorem aec{w0:World}{F:bM}{L:List Item}{rs:List aE}(h:aW LR.rel w0 F L (List.map aE.row rs))(g:aW dK w0 F L rs):aW aE.rel w0 F L rs:=λx hx=>⟨h (aE.row x) (zn hx),g x hx⟩
theorem OR{w0:World}{F F':bM}{L L':List Item}{rs:List aE}(h:aW aE.rel w0 F L rs)(hF:dC F F')(hL:L.Sublist L'):aW aE.rel w0 F' L' rs:=λx hx=>aE.mono (h x hx) hF hL
structure cj where
 v:aZ
 h1:Sl
 h2:Sl
 h3:Sl
instance :an cj:=⟨λp=>enc p.v.aO++(enc p.h1++(enc p.h2++(enc p.h3))),5,λp=>by simp only[cH,an.len];rfl,λp=>by simp only[jf,an.one,je]⟩
theorem JQ{p:cj}{k:Nat}{ch:List Value}(h:bS (enc p.v.aO) k ch):bS (enc p) (0+k) ch:=d8 (fi h) O
theorem JT{p:cj}{k:Nat}{vs:List Value}{y:bB}(h:bQ (enc p.v.aO) k vs (enc y)):bQ (enc p) (0+k) vs (enc ({p with v:={p.v with aO:=y}}:cj)):=d7 (cs':=enc ({p with v:={p.v with aO:=y}}:cj)) (eS h) O
theorem Ti{p:cj}{k:Nat}{ch:List Value}(h:bS (enc p.h1) k ch):bS (enc p) (2+k) ch:=d8 (cz (m:=2) el (fi h)) O
theorem Tk{p:cj}{k:Nat}{vs:List Value}{y:Sl}{l:List bw}(h:bQ (enc p.h1) k vs (enc y)):bQ (enc p) (2+k) vs (enc ({p with v:={p.v with all:=l},h1:=y}:cj)):=d7 (cs':=enc ({p with v:={p.v with all:=l},h1:=y}:cj)) (cr (m:=2) el (eS h)) O
theorem Tj{p:cj}{k:Nat}{ch:List Value}(h:bS (enc p.h2) k ch):bS (enc p) (3+k) ch:=d8 (cz (m:=2) el (cz (m:=1) el (fi h))) O
theorem JS{p:cj}{k:Nat}{vs:List Value}{y:Sl}{l:List Y}(h:bQ (enc p.h2) k vs (enc y)):bQ (enc p) (3+k) vs (enc ({p with v:={p.v with aK:=l},h2:=y}:cj)):=d7 (cs':=enc ({p with v:={p.v with aK:=l},h2:=y}:cj)) (cr (m:=2) el (cr (m:=1) el (eS h))) O
theorem JR{p:cj}{k:Nat}{ch:List Value}(h:bS (enc p.h3) k ch):bS (enc p) (4+k) ch:=d8 (cz (m:=2) el (cz (m:=1) el (cz (m:=1) el h))) O
theorem E5{p:cj}{k:Nat}{vs:List Value}{y:Sl}{l:List Y}(h:bQ (enc p.h3) k vs (enc y)):bQ (enc p) (4+k) vs (enc ({p with v:={p.v with ah:=l},h3:=y}:cj)):=d7 (cs':=enc ({p with v:={p.v with ah:=l},h3:=y}:cj)) (cr (m:=2) el (cr (m:=1) el (cr (m:=1) el h))) O
def cj.rel(w0:World)(F:bM)(L:List Item)(x:cj):Prop:=(∃rs:List aE,rs.map aE.v=x.v.all/\Rd w0 F L x.h1 rs/\aW aE.rel w0 F L rs)/\Rd w0 F L x.h2 x.v.aK/\Rd w0 F L x.h3 x.v.ah
theorem cj.mono{w0:World}{F F':bM}{L L':List Item}{x:cj}(h:cj.rel w0 F L x)(hF:dC F F')(hL:L.Sublist L'):cj.rel w0 F' L' x:=
 let⟨h1,h2,h3⟩:=h
 ⟨(let⟨rs,a,b,c⟩:=h1;⟨rs,a,b.mono hF hL,OR c hF hL⟩),h2.mono hF hL,h3.mono hF hL⟩
theorem adk{w0:World}{F F':bM}{L L':List Item}{rs:List cj}(h:aW cj.rel w0 F L rs)(hF:dC F F')(hL:L.Sublist L'):aW cj.rel w0 F' L' rs:=λx hx=>cj.mono (h x hx) hF hL
structure bZ where
 v:bi
 h2:Option Nat
 h3:Vector (LR aG) 6
 h4:Vector ao 6
 h5:Vector bb 6
 h6:Vector ao 6
 h7:Sl
 h8:Sl
 h9:Sl
instance :an bZ:=⟨λp=>enc p.v.n++(enc p.v.V++(enc p.h2++(enc p.h3++(enc p.h4++(enc p.h5++(enc p.h6++(enc p.h7++(enc p.h8++(enc p.h9))))))))),49,λp=>by simp only[cH,an.len];rfl,λp=>by simp only[jf,an.one,je]⟩
theorem SU{p:bZ}{k:Nat}{ch:List Value}(h:bS (enc p.v.n) k ch):bS (enc p) (0+k) ch:=d8 (fi h) O
theorem SZ{p:bZ}{k:Nat}{vs:List Value}{y:Int}(h:bQ (enc p.v.n) k vs (enc y)):bQ (enc p) (0+k) vs (enc ({p with v:={p.v with n:=y}}:bZ)):=d7 (cs':=enc ({p with v:={p.v with n:=y}}:bZ)) (eS h) O
theorem SR{p:bZ}{k:Nat}{ch:List Value}(h:bS (enc p.v.V) k ch):bS (enc p) (1+k) ch:=d8 (cz (m:=1) el (fi h)) O
theorem Jw{p:bZ}{k:Nat}{vs:List Value}{y:bB}(h:bQ (enc p.v.V) k vs (enc y)):bQ (enc p) (1+k) vs (enc ({p with v:={p.v with V:=y}}:bZ)):=d7 (cs':=enc ({p with v:={p.v with V:=y}}:bZ)) (cr (m:=1) el (eS h)) O
theorem Jt{p:bZ}{k:Nat}{ch:List Value}(h:bS (enc p.h2) k ch):bS (enc p) (3+k) ch:=d8 (cz (m:=1) el (cz (m:=2) el (fi h))) O
theorem SY{p:bZ}{k:Nat}{vs:List Value}{y:Option Nat}{l:List (Int×Int)}(h:bQ (enc p.h2) k vs (enc y)):bQ (enc p) (3+k) vs (enc ({p with v:={p.v with aI:=l},h2:=y}:bZ)):=d7 (cs':=enc ({p with v:={p.v with aI:=l},h2:=y}:bZ)) (cr (m:=1) el (cr (m:=2) el (eS h))) O
theorem SQ{p:bZ}{k:Nat}{ch:List Value}(h:bS (enc p.h3) k ch):bS (enc p) (4+k) ch:=d8 (cz (m:=1) el (cz (m:=2) el (cz (m:=1) el (fi h)))) O
theorem Jv{p:bZ}{k:Nat}{vs:List Value}{y:Vector (LR aG) 6}{l:Vector (List aG) 6}(h:bQ (enc p.h3) k vs (enc y)):bQ (enc p) (4+k) vs (enc ({p with v:={p.v with dr:=l},h3:=y}:bZ)):=d7 (cs':=enc ({p with v:={p.v with dr:=l},h3:=y}:bZ)) (cr (m:=1) el (cr (m:=2) el (cr (m:=1) el (eS h)))) O
theorem EZ{p:bZ}{k:Nat}{ch:List Value}(h:bS (enc p.h4) k ch):bS (enc p) (10+k) ch:=d8 (cz (m:=1) el (cz (m:=2) el (cz (m:=1) el (cz (m:=6) el (fi h))))) O
theorem JA{p:bZ}{k:Nat}{vs:List Value}{y:Vector ao 6}{l:Vector To 6}(h:bQ (enc p.h4) k vs (enc y)):bQ (enc p) (10+k) vs (enc ({p with v:={p.v with dM:=l},h4:=y}:bZ)):=d7 (cs':=enc ({p with v:={p.v with dM:=l},h4:=y}:bZ)) (cr (m:=1) el (cr (m:=2) el (cr (m:=1) el (cr (m:=6) el (eS h))))) O
theorem SP{p:bZ}{k:Nat}{ch:List Value}(h:bS (enc p.h5) k ch):bS (enc p) (22+k) ch:=d8 (cz (m:=1) el (cz (m:=2) el (cz (m:=1) el (cz (m:=6) el (cz (m:=12) el (fi h)))))) O
theorem SW{p:bZ}{k:Nat}{vs:List Value}{y:Vector bb 6}{l:Vector aJ 6}(h:bQ (enc p.h5) k vs (enc y)):bQ (enc p) (22+k) vs (enc ({p with v:={p.v with aR:=l},h5:=y}:bZ)):=d7 (cs':=enc ({p with v:={p.v with aR:=l},h5:=y}:bZ)) (cr (m:=1) el (cr (m:=2) el (cr (m:=1) el (cr (m:=6) el (cr (m:=12) el (eS h)))))) O
theorem Ju{p:bZ}{k:Nat}{ch:List Value}(h:bS (enc p.h6) k ch):bS (enc p) (34+k) ch:=d8 (cz (m:=1) el (cz (m:=2) el (cz (m:=1) el (cz (m:=6) el (cz (m:=12) el (cz (m:=12) el (fi h))))))) O
theorem Jx{p:bZ}{k:Nat}{vs:List Value}{y:Vector ao 6}{l:Vector To 6}(h:bQ (enc p.h6) k vs (enc y)):bQ (enc p) (34+k) vs (enc ({p with v:={p.v with dR:=l},h6:=y}:bZ)):=d7 (cs':=enc ({p with v:={p.v with dR:=l},h6:=y}:bZ)) (cr (m:=1) el (cr (m:=2) el (cr (m:=1) el (cr (m:=6) el (cr (m:=12) el (cr (m:=12) el (eS h))))))) O
theorem SV{p:bZ}{k:Nat}{ch:List Value}(h:bS (enc p.h7) k ch):bS (enc p) (46+k) ch:=d8 (cz (m:=1) el (cz (m:=2) el (cz (m:=1) el (cz (m:=6) el (cz (m:=12) el (cz (m:=12) el (cz (m:=12) el (fi h)))))))) O
theorem Jz{p:bZ}{k:Nat}{vs:List Value}{y:Sl}{l:List Y}(h:bQ (enc p.h7) k vs (enc y)):bQ (enc p) (46+k) vs (enc ({p with v:={p.v with bd:=l},h7:=y}:bZ)):=d7 (cs':=enc ({p with v:={p.v with bd:=l},h7:=y}:bZ)) (cr (m:=1) el (cr (m:=2) el (cr (m:=1) el (cr (m:=6) el (cr (m:=12) el (cr (m:=12) el (cr (m:=12) el (eS h)))))))) O
theorem ST{p:bZ}{k:Nat}{ch:List Value}(h:bS (enc p.h8) k ch):bS (enc p) (47+k) ch:=d8 (cz (m:=1) el (cz (m:=2) el (cz (m:=1) el (cz (m:=6) el (cz (m:=12) el (cz (m:=12) el (cz (m:=12) el (cz (m:=1) el (fi h))))))))) O
theorem Jy{p:bZ}{k:Nat}{vs:List Value}{y:Sl}{l:List cN}(h:bQ (enc p.h8) k vs (enc y)):bQ (enc p) (47+k) vs (enc ({p with v:={p.v with bf:=l},h8:=y}:bZ)):=d7 (cs':=enc ({p with v:={p.v with bf:=l},h8:=y}:bZ)) (cr (m:=1) el (cr (m:=2) el (cr (m:=1) el (cr (m:=6) el (cr (m:=12) el (cr (m:=12) el (cr (m:=12) el (cr (m:=1) el (eS h))))))))) O
theorem SS{p:bZ}{k:Nat}{ch:List Value}(h:bS (enc p.h9) k ch):bS (enc p) (48+k) ch:=d8 (cz (m:=1) el (cz (m:=2) el (cz (m:=1) el (cz (m:=6) el (cz (m:=12) el (cz (m:=12) el (cz (m:=12) el (cz (m:=1) el (cz (m:=1) el h))))))))) O
theorem SX{p:bZ}{k:Nat}{vs:List Value}{y:Sl}{l:List aV}(h:bQ (enc p.h9) k vs (enc y)):bQ (enc p) (48+k) vs (enc ({p with v:={p.v with bj:=l},h9:=y}:bZ)):=d7 (cs':=enc ({p with v:={p.v with bj:=l},h9:=y}:bZ)) (cr (m:=1) el (cr (m:=2) el (cr (m:=1) el (cr (m:=6) el (cr (m:=12) el (cr (m:=12) el (cr (m:=12) el (cr (m:=1) el (cr (m:=1) el h))))))))) O
def bZ.rel(w0:World)(F:bM)(L:List Item)(x:bZ):Prop:=True/\(x.h3.toList.map LR.v=x.v.dr.toList/\aW LR.rel w0 F L x.h3.toList)/\(x.h4.toList.map ao.v=x.v.dM.toList/\aW ao.rel w0 F L x.h4.toList)/\(x.h5.toList.map bb.v=x.v.aR.toList/\aW bb.rel w0 F L x.h5.toList)/\(x.h6.toList.map ao.v=x.v.dR.toList/\aW ao.rel w0 F L x.h6.toList)/\Rd w0 F L x.h7 x.v.bd/\Rd w0 F L x.h8 x.v.bf/\Rd w0 F L x.h9 x.v.bj
theorem bZ.mono{w0:World}{F F':bM}{L L':List Item}{x:bZ}(h:bZ.rel w0 F L x)(hF:dC F F')(hL:L.Sublist L'):bZ.rel w0 F' L' x:=
 let⟨h2,h3,h4,h5,h6,h7,h8,h9⟩:=h
 ⟨cy,⟨h3.1,cB h3.2 hF hL⟩,⟨h4.1,Eg h4.2 hF hL⟩,⟨h5.1,Ij h5.2 hF hL⟩,⟨h6.1,Eg h6.2 hF hL⟩,h7.mono hF hL,h8.mono hF hL,h9.mono hF hL⟩
theorem adj{w0:World}{F F':bM}{L L':List Item}{rs:List bZ}(h:aW bZ.rel w0 F L rs)(hF:dC F F')(hL:L.Sublist L'):aW bZ.rel w0 F' L' rs:=λx hx=>bZ.mono (h x hx) hF hL
theorem UN(x y:aT):∀w,(Op.equal 98 (.agg (enc x).toArray) (.agg (enc y).toArray)).run Tryz.prog w=.ok (decide (x=y)) w:=
 iY.Id (d:=10000) jV eL X X (iY.struct jV eL X dS az (λx y w=>by
 refine Eq.trans (FD (p:=x.cb) (q:=y.cb) X (iY.int I3 U3) X ((jq (ms _)).off X) ((jq (ms _)).off X) (FD (p:=x.aX) (q:=y.aX) X (iY.int I3 U3) X ((mr (ms _)).off X) ((mr (ms _)).off X) (FD (p:=x.cq) (q:=y.cq) X (iY.int I3 U3) X ((jp (ms _)).off X) ((jp (ms _)).off X) X))) ?_;congr 1
 rw[ew];cases x;cases y;simp)) x y
theorem jC{w0:World}{F:bM}{M:List Item}{rs:List aE}{xs:List bw}(ma:rs.map aE.v=xs)(na:aW dK w0 F M rs){i:Nat}{x:bw}(g:xs[i]?=some x):∃a b c d,rs[i]?=some (aE.mk x a (bb.mk x.aF b) (ao.mk x.to c) (ao.mk x.bN d))/\aE.mk x a (bb.mk x.aF b) (ao.mk x.to c) (ao.mk x.bN d)∈rs/\Rd w0 F M b x.aF.aR/\Rd w0 F M c x.to.bu/\Rd w0 F M d x.bN.bu:=by obtain⟨⟨v,a,⟨bv,b⟩,⟨cv,c⟩,⟨dv,d⟩⟩,j,e,m⟩:=qz ma g;obtain⟨⟨e2,q2⟩,⟨e3,q3⟩,⟨e4,q4⟩⟩:=na _ m;simp only at e e2 e3 e4;subst e e2 e3 e4;exact⟨a,b,c,d,j,m,q2,q3,q4⟩
theorem pg{w0:World}{F:bM}{M:List Item}{n:Nat}{rs:Vector bb n}{xs:Vector aJ n}(ma:rs.toList.map bb.v=xs.toList)(na:aW bb.rel w0 F M rs.toList){i:Nat}{x:aJ}(g:xs[i]?=some x):∃b,rs[i]?=some (bb.mk x b)/\bb.mk x b∈rs.toList/\rs.toList[i]?=some (bb.mk x b)/\Rd w0 F M b x.aR:=by obtain⟨⟨v,b⟩,j,e,m,l⟩:=pU ma g;have q:=na _ m;simp only at e;subst e;exact⟨b,j,m,l,q⟩
theorem sx{w0:World}{F:bM}{M:List Item}{n:Nat}{rs:Vector ao n}{xs:Vector To n}(ma:rs.toList.map ao.v=xs.toList)(na:aW ao.rel w0 F M rs.toList){i:Nat}{x:To}(g:xs[i]?=some x):∃b,rs[i]?=some (ao.mk x b)/\ao.mk x b∈rs.toList/\rs.toList[i]?=some (ao.mk x b)/\Rd w0 F M b x.bu:=by obtain⟨⟨v,b⟩,j,e,m,l⟩:=pU ma g;have q:=na _ m;simp only at e;subst e;exact⟨b,j,m,l,q⟩
variable {W:World}{F:bM}{M L:List Item}
theorem LS{a0 a1 r}(H:vt a0 a1=some r)(a:M.Sublist L):Ok Tryz.prog W 112 [Y.v a0,.int .u8 a1.toNat] F (L) (Is (iv r) (L)):=by unfold vt at H;refine bK 8 Tryz.func112 X<|I<|U X<|aU<|Z X<|Z X<|lr (PL (s:=a0) (c:=a1) X X Tryz.func164 az az az az)<|U X<|G ?_;obtain rfl:=si H;exact aM<|be X (ay X) fl rl ⟨X,X⟩
theorem LT{a0 a1 r}(H:rK a0 a1=some r)(f:M.Sublist L):Ok Tryz.prog W 65 [Y.v a0,Y.v a1] F (L) (Is (iv r) (L)):=by
 unfold rK at H;refine bK 143 Tryz.func65 X<|I<|U X<|aU<|Z X<|lr (eZ X X U9)<|U X<|G<|aj<|bn<|I<|Z X<|lr (cx X X)<|Z X ?_;obtain⟨o1,H,gY⟩:=bs H;refine cG (σ:=Bool) 4 (λy2=>[(0,Y.v a0),(1,Y.v a1),(5,iv (a1.length:Int)),(23,.bool y2)]) (λy2=>L) (λ_ y2=>y2=o1) ?_ ?_
 .refine iz H (λa H=>?_) λa H=>lg a (av X)<|lg a (av X)<|lg a (fG (s:=a1) (m:=a0) X X)<|lr (cd X a X)<|al ?_
  .exact aq X a<|aq X a<|aq X a<|lr (cf X a X)<|al<|aw true fl e0 X (si H)
  exact aw (decide (a1=a0)) fl e0 X (si H)
 rintro F4 y2 dI hy;subst hy;replace H:=gY;refine U X<|G<|iz H (λb H=>?_) λb H=>aB X b<|I<|Z X<|lr (cx X X)<|U X<|G<|iz H (λc H=>?_) λc H=>aB X c<|I<|Z X<|Z X<|lr (eZ X X U9)<|lr (fT X X)<|U X<|G<|iz H (λd H=>?_) λd H=>?_
 .refine aD X b<|I<|U X<|G ?_;obtain rfl:=si H;exact aM<|cg<|ba<|be X (ay X) dI rl ⟨X,X⟩
 .refine aD X c<|I<|Z X<|Z X<|bz H λx8 h9 H=>lr (jO X X U9 h9)<|bz H λh e H=>bH X e0 Tryz.call112 (LS e f)<|U X<|G ?_;obtain rfl:=si H;exact aM<|cg<|ba<|be X (ay X) dI rl ⟨X,X⟩
 .refine aD X d<|I<|U X<|G ?_;obtain rfl:=si H;exact aM<|cg<|ba<|be X (ay X) dI rl ⟨X,X⟩
 cases H
theorem Ib{a0 a1 r}(H:qW a0 a1=some r)(a:M.Sublist L):Ok Tryz.prog W 26 [Y.v a0,Y.v a1] F (L) (Is (iv r) (L)):=by unfold qW at H;refine bK 8 Tryz.func26 X<|I<|U X<|aU<|Z X<|Z X<|bz H λr1 h2 H=>bH X e0 Tryz.call65 (LT h2 a)<|U X<|G ?_;obtain rfl:=si H;exact aM<|be X (ay X) fl rl ⟨X,X⟩
theorem acf{fu a0 a1 r}(H:DX fu a0 a1=some r)(h:M.Sublist L):Ok Tryz.prog W 25 [Y.v a0,Y.v a1] F (L) (Is (iv r) (L)):=by
 unfold DX at H;refine bK 34 Tryz.func25 X<|I<|U X<|G<|aj<|I<|Z X<|lr (eZ X X U9)<|lr (cx X X)<|G<|iz H (λd H=>?_) λd H=>aB X d<|aQ<|am<|aj<|I<|Z X<|lr (eZ X X U9)<|lr (cx X X)<|G<|iz H (λb H=>?_) λb H=>aB X b<|aQ<|am<|I<|U X<|G<|bn ?_
 .cases H
 .refine aD X b<|I<|Z X<|Z X<|bz H λx3 h4 H=>lr (jO X X U9 h4)<|lr (Pw (s:=a0) (c:=x3.toBitVec) X X Tryz.func64 az az az az)<|U X<|G ?_;obtain rfl:=si H;exact aM<|ba<|be X (ay X) fl rl ⟨X,X⟩
 obtain⟨k,H,nV⟩:=dT H;refine cF (σ:=Nat×Y×Int) (λ(k5,y6,y7)=>[(0,Y.v y6),(1,Y.v a1),(5,iv y7)]) (λ(k5,y6,y7)=>L) (λ_=>(λ(k5,y6,y7)=>cw (H9 a1) k5 (y6,y7)=some k)) (λ(k5,y6,y7)=>k5) (fu,a0,(0:Int)) e0 X H ?_;rintro F8 ⟨k5,y6,y7⟩ dw H;rcases k5 with _|k5
 .cases H
 obtain⟨c5,H,i,l,j⟩:=ik H;unfold H9 at H
 try dsimp only at H
 refine bn<|I<|Z X<|Z X<|bz H λm e H=>bH X e0 Tryz.call26 (Ib e h)<|U X<|G<|aj<|I<|Z X<|lr (cx X X)<|G<|iz H (λa H=>?_) λa H=>aB X a<|aQ<|am<|I<|Z X<|lr (cp X X)<|U X<|G<|bg<|Z X<|Z X<|Z X<|lr (eZ X X U9)<|lr (cp X X)<|bz H λm15 f H=>lr (nN X X  U9 f)<|U X<|al<|bD ?_
 .refine aD X a<|I<|Z X<|U X<|G ?_;have H:=j _ (sj H);subst H;replace H:=nV;obtain rfl:=si H;exact aM<|ba<|cg<|ba<|cg<|be X (ay X) dw rl ⟨X,X⟩
 exact aw (k5,m15,ap (y7+(1:Int))) dw e0 X ⟨i _ (sj H),bW⟩
theorem acj{fu a0 a1 a2 a3 r}(H:DZ fu a0 a1 a2 a3=some r)(A:M.Sublist L):Ok Tryz.prog W 12 [Y.v a0,Y.v a1,iv a2,iv a3] F (L) (λ_ L' v=>∃(s1:Sl),v=Sl.v s1/\L'=(.own s1 9 1 (aa r))::L):=by
 let T0:Item:=.own Sl.nil 9 1 (aa ([]:List Y));unfold DZ at H;refine bK 66 Tryz.func12 X<|I<|cL 9 1<|U X<|G<|aj<|I<|Z X<|lr (cx X X)<|G<|iz H (λq H=>?_) λq H=>aB X q<|aQ<|am<|aj<|I<|Z X<|lr (fG (s:=a1) (m:=([]:Y)) X X)<|G<|iz H (λB H=>?_) λB H=>aB X B<|aQ<|am ?_
 .refine aD X q<|I<|cL 9 1<|U X<|G ?_;obtain rfl:=si H;exact aM<|ba<|be X (ay X) fl (cn (ai rl)) ⟨Sl.nil,X,X⟩
 .cases H
 obtain⟨o6,H,nZ⟩:=bs H;refine ix (σ:=Int) (λy5=>[(0,Y.v a0),(1,Y.v a1),(2,iv a2),(3,iv y5)]) (λy5=>T0::L) (λ_ y5=>y5=o6) ?_ ?_
 .refine I<|Z X<|lr (bp X X)<|G<|iy H (λw H=>?_) λw H=>aD X w<|bg<|Z X<|Z X<|bz H λr8 h9 H=>bH X e0 Tryz.call25 (acf h9 (ai A))<|lr (cp X X)<|U X<|al ?_
  .exact aB X w<|aQ<|aw a3 fl e0 X (si H)
  exact aw (ap (r8+(1:Int))) fl e0 X (si H)
 rintro ri y5 hJ hy;subst hy;replace H:=nZ;refine I<|Z X<|Z X<|lr (eZ X X U9)<|lr (cp X X)<|lr (ud X X)<|U X<|aU<|Z X<|bz H λn14 J H=>?_;have g16:=pH J;refine qC (α:=Y) (z0:=([]:Y)) (k:=n14) X X ab (congrArg some (congrArg (Value.int .i64) g16.1)) (congrArg some (congrArg (Value.int .i64) g16.1)) bO Tryz.typeInfo9 X X X X X g16.2 X (λe=>?_);refine U X<|aU<|Z X<|lr (jo X X)<|U X<|aU<|U X<|G ?_;obtain⟨ag,H,Rp⟩:=bs H;refine ix (σ:=Y×Int×(List Y)) (λ(h,c,l)=>[(0,Y.v h),(9,Sl.v e),(10,iv c)]) (λ(h,c,l)=>(.own e 9 1 (aa l))::T0::L) (λ_(h,c,l)=>(h,c,l)=ag) ?_ ?_
 .refine bn ?_;obtain⟨ah,H,I7⟩:=dT H;refine cF (σ:=Nat×Y×Int×(List Y)) (λ(a,f,d,b)=>[(0,Y.v f),(1,Y.v a1),(2,iv a2),(3,iv (ap ((min y5 (ap ((a0.length:Int)+(1:Int))))-(1:Int)))),(9,Sl.v e),(10,iv d)]) (λ(a,f,d,b)=>(.own e 9 1 (aa b))::T0::L) (λ_=>(λ(a,f,d,b)=>cw (D0 a0 a1 a2 y5) a (f,d,b)=some ah)) (λ(a,f,d,b)=>a) (fu,a0,(0:Int),(List.replicate n14 ([]:Y))) e0 X H ?_;rintro uQ ⟨a,f,d,b⟩ gr H;rcases a with _|a
  .cases H
  obtain⟨ao,H,ad,C,aq⟩:=ik H;unfold D0 at H
  try dsimp only at H
  refine aj<|I<|Z X<|Z X<|lr (bp X X)<|G<|iy H (λt H=>?_) λt H=>aD X t<|aQ<|am<|bn<|I<|Z X<|Z X<|bz H λar K H=>bH X e0 Tryz.call26 (Ib K (au A))<|U X<|G<|aj<|I<|Z X<|lr (bp X X)<|G<|iz H (λu H=>?_) λu H=>aB X u<|aQ<|am<|I<|Z X<|Z X<|Z X<|Z X<|Z X<|lr (cp X X)<|bz H λD N H=>lr (sb X X  U9 N)<|bz H λak P H=>have o:=bU P;lr (bX (α:=Y) (xs:=b) X X bO Z9 X ab (aC 0 X X X) o.1 o.2.1)<|lz H λy Q H=>jm (i:=0) X X X X X Z9 (vs:=[Y.v D]) X X ab X (xs':=aa y) (by(try dsimp+zetaDelta only);rw[<-Q];exact(er (s:=1) (x:=ak) X o.2.2 (cC (vs:=[Y.v D]) X)).off O) (L':=(.own e 9 1 (aa y))::T0::L) X<|aU<|Z X<|Z X<|Z X<|lr (eZ X X U9)<|lr (cp X X)<|bz H λae R H=>lr (nN X X  U9 R)<|U X<|G<|bg<|Z X<|lr (cp X X)<|U X<|al<|bD ?_
  .refine aB X t<|ct<|bt<|bt<|cu ?_;have H:=C _ (sj H);subst H;replace H:=I7;exact aw (f,d,b) gr e0 X (si H)
  .refine aD X u<|ct<|bt<|Bf X<|bt<|cu ?_;have H:=C _ (sj H);subst H;replace H:=I7;exact aw (f,d,b) gr e0 X (si H)
  exact aw (a,ae,ap (d+(1:Int)),y) gr e0 X ⟨ad _ (sj H),bW⟩
 rintro sT ⟨h,c,l⟩ mG hy;subst hy;replace H:=Rp;refine I<|Z X<|Z X<|Z X<|bz H λan S H=>have p:=bU S;lr (bX (α:=Y) (xs:=l) X X bO Z9 X ab (aC 0 X X X) p.1 p.2.1)<|lz H λz T H=>jm (i:=0) X X X X X Z9 (vs:=[Y.v h]) X X ab X (xs':=aa z) (by(try dsimp+zetaDelta only);rw[<-T];exact(er (s:=1) (x:=an) X p.2.2 (cC (vs:=[Y.v h]) X)).off O) (L':=(.own e 9 1 (aa z))::T0::L) X<|aU<|Z X<|Z X<|lr (cp X X)<|bz H λaf V H=>?_
 obtain⟨n,E⟩:=fQ V
 try dsimp only at n
 refine lr (fF (α:=Y) (xs:=z) (i:=0) (j:=ap (c+(1:Int))) X X X bO Z9 X ab (aC 0 X X X) n.1 n.2.1 n.2.2)<|vP (i:=0) (α:=Y) (lo:=(0:Int).toNat) (hi:=(ap (c+(1:Int)):Int).toNat) X X X ab O O (L':=(.own (e.cut (0:Int).toNat (ap (c+(1:Int)):Int).toNat 1) 9 1 (aa af))::T0::L) (by subst E;rfl)<|U X<|G ?_;obtain rfl:=si H;exact aM<|be X (ay X) (ft hJ mG) (cn (ai rl)) ⟨(e.cut (0:Int).toNat (ap (c+(1:Int)):Int).toNat 1),X,X⟩
theorem w9{fu a0 a1 r}(H:oU fu a0 a1=some r)(a:M.Sublist L):Ok Tryz.prog W 7 [Y.v a0,Y.v a1] F (L) (λ_ L' v=>∃(s1:Sl),v=Sl.v s1/\L'=(.own s1 9 1 (aa r))::L):=by unfold oU at H;refine bK 8 Tryz.func7 X<|I<|cL 9 1<|U X<|aU<|Z X<|Z X<|bz H λr2 h3 H=>?_;refine cl X e0 Tryz.call12 (acj h3 (ai a)) (λF6 L' v d4 hv=>?_);obtain⟨s4,rfl,rfl⟩:=hv;refine U X<|G ?_;obtain rfl:=si H;exact aM<|be X (ay X) d4 (cn (ai rl)) ⟨s4,X,X⟩
theorem Be{a0 a1 a2 r}(H:re a0 a1 a2=some r)(b:M.Sublist L):Ok Tryz.prog W 13 [iv a0,iv a1,iv a2] F (L) (Is (.bool r) (L)):=by
 unfold re at H;refine bK 15 Tryz.func13 X<|I<|U X<|aU<|Z X<|Z X<|lr (fT X X)<|Z X ?_;obtain⟨o1,H,gY⟩:=bs H;refine cG (σ:=Bool) 4 (λy2=>[(14,.bool y2)]) (λy2=>L) (λ_ y2=>y2=o1) ?_ ?_
 .refine iy H (λa H=>?_) λa H=>lg a (av X)<|lg a (av X)<|lg a (Ev.leq X X)<|lr (cf X a X)<|al ?_
  .exact aq X a<|aq X a<|aq X a<|lr (cd X a X)<|al<|aw false fl e0 X (si H)
  exact aw (decide (a0<=a2)) fl e0 X (si H)
 rintro F4 y2 dI hy;subst hy;replace H:=gY;refine U X<|G ?_;obtain rfl:=si H;exact aM<|be X (ay X) dI rl ⟨X,X⟩
theorem acZ{a0 r}(H:A4 a0=some r)(x:M.Sublist L):Ok Tryz.prog W 8 [iv a0] F (L) (λFx L' v=>∃(b1:Nat)(s2:Sl)(d:List aE)(s8:Sl)(l:Sl),v=.tuple #[pv b1 0,iv r.2]/\L'=(.rows (α:=aG) 148 (List.map aE.row d))::(.own s2 143 8 (aa d))::(.own s8 9 1 (aa r.1.aK))::(.own l 9 1 (aa r.1.ah))::(.ak b1 (enc (cj.mk r.1 s2 s8 l)) 44)::L/\d.map aE.v=r.1.all/\aW dK W Fx [] d):=by
 let T4:=cj.mk aZ.zero Sl.nil Sl.nil Sl.nil;let T1:=aE.mk bw.zero Sl.nil (bb.mk aJ.zero Sl.nil) (ao.mk To.zero Sl.nil) (ao.mk To.zero Sl.nil);unfold A4 at H;refine bK 15 Tryz.func8 X<|I<|U X<|U X<|G<|aj<|I<|Z X<|bz H λr1 h2 H=>bH X e0 Tryz.call13 (Be h2 x)<|lr (eG X)<|G<|iz H (λf H=>?_) λf H=>aB X f<|aQ<|am<|aj<|bz H λn6 h7 H=>?_
 .cases H
 let T0:=({bB.zero with bJ:=((1:BitVec 8)<<<n6)-(1:BitVec 8)}:bB)
 let T3:=cj.mk ({aZ.zero with aO:=T0}:aZ) Sl.nil Sl.nil Sl.nil;refine bz H λn9 t H=>lz H λB u H=>ii (σ:=Sl×(List bw)×(List aE)) 6 (λ(a,c,b)=>[(10,.agg (enc T0).toArray),(12,Sl.v a)]) (λ(a,c,b)=>(.rows (α:=aG) 148 (List.map aE.row b))::(.own a 143 8 (aa b))::L) (λFx(a,c,b)=>c=B/\b.map aE.v=c/\aW dK W Fx [] b) az az (gc az az az) az (λaL aH=>?_) ?_
 .refine dV (λw=>St W F (L) w) (λw h=>trivial)<|aP X aL aH 0 rl X (av X) ?_;refine aP X aL aH 1 rl X (Bl (i:=(1:BitVec 8)) (m:=n6) X (congrArg some (congrArg (Value.int .i64) (oh h7))))<|aP X aL aH 2 rl X (xz (i:=(1:BitVec 8)<<<n6) (j:=(1:BitVec 8)) X X)<|aP X aL aH 3 rl X (de (v:=.agg (enc T0).toArray) (pv:=[(1,.int .u8 (((1:BitVec 8)<<<n6)-(1:BitVec 8)).toNat)]) e0 (λw=>by kernel_rfl))<|aP X aL aH 4 rl X (av X) ?_;refine dh 5 (λinv=>?_);have e:=pH t;have A:(List.replicate n9 (T1:aE)).map aE.v=(List.replicate n9 bw.zero):=Mf _ _;have z:aW dK W F [] (List.replicate n9 (T1:aE)):=aW.rep ⟨⟨X,mm⟩,⟨X,mm⟩,⟨X,mm⟩⟩;refine qC (α:=aE) (z0:=(T1:aE)) (k:=n9) X X ab (congrArg some (congrArg (Value.int .i64) e.1)) (congrArg some (congrArg (Value.int .i64) e.1)) ko Tryz.typeInfo143 X X X X X e.2 X (λn=>?_);exact br.qT aG 148 n9<|gj (L':=(.rows (α:=aG) 148 (List.map aE.row (List.replicate n9 (T1:aE))))::(.own n 143 8 (aa (List.replicate n9 (T1:aE))))::L) (by dsimp+zetaDelta only;rw[List.map_replicate]<;>rfl)<|dz inv (au rl)<|e7 az<|eY (n,(List.replicate n9 bw.zero),(List.replicate n9 (T1:aE))) fl e0 X ⟨u,A,(Ef z fl bm)⟩
 rintro IU ⟨a,c,b⟩ vi ⟨hy,s,q⟩;let T2:=cj.mk ({aZ.zero with aO:=T0,all:=c}:aZ) a Sl.nil Sl.nil;subst hy;refine lr (de (v:=.agg (enc T2).toArray) (pv:=[(0,.agg (enc T0).toArray),(1,Sl.v a)]) ⟨X,X,e0⟩ (st (places:=#[(0,2),(2,1),(3,1),(4,1)]) Tryz.zeroValue44 (zs:=enc T4) X eJ (λw=>by kernel_rfl) (eV (cs:=enc T4) (cs':=enc T3) (vs:=enc T0) X X el ((JT (p:=T4) (y:=T0) ci).off X) (eV (cs:=enc T3) (cs':=enc T2) (vs:=[Sl.v a]) X X X ((Tk (p:=T3) (y:=a) (cC (vs:=[Sl.v a]) X)).off X) ku)))) ?_;refine fy X X ab X (cs:=enc T2) X (λo=>?_);refine U X<|U X<|G ?_;obtain rfl:=si H;exact aM<|mq 9 1<|mq 9 1<|af 1 X<|af 4 X<|af 4 X<|da X (ay X) (ay X) vi rl ⟨o,a,b,Sl.nil,Sl.nil,X,X,s,(Ef q fl bm)⟩
theorem KC{a0 r}(H:tj a0=some r)(a:M.Sublist L):Ok Tryz.prog W 17 [Y.v a0] F (L) (Is (.bool r) (L)):=by unfold tj at H;refine bK 5 Tryz.func17 X<|I<|U X<|aU<|Z X<|lr (fG (s:=a0) (m:=([]:Y)) X X)<|U X<|G ?_;obtain rfl:=si H;exact aM<|be X (ay X) fl rl ⟨X,X⟩
theorem abX{a0 e r}(H:AJ a0=some r)(a:M.Sublist L)(b:Rd W F M e a0):Ok Tryz.prog W 28 [Sl.v e,.func (.func 17) #[] #[]] F (L) (Is (iv r) (L)):=by
 unfold AJ at H;refine bK 19 Tryz.func28 X<|I<|U X<|G<|aj<|I<|Z X<|lr (bR (α:=Y) (xs:=a0) ab X X bO (b.mono fl a))<|Z X<|G<|bn ?_;refine dB (dE (α:=Y) (xs:=a0) ab (b.mono fl a)) (λGe=>?_);obtain⟨i,H,f8⟩:=dT H;refine cF (σ:=Nat×Nat×Unit) (λ(i1,k1,_u)=>[(0,Sl.v e),(1,.func (.func 17) #[] #[]),(7,iv (a0.length:Int)),(8,iv (i1:Int))]) (λ(i1,k1,_u)=>L) (λ_=>(λ(i1,k1,_u)=>cM (DI a0) k1 i1 ()=some i/\i1+k1=a0.length)) (λ(i1,k1,_u)=>k1) (0,a0.length,()) e0 X ⟨H,by omega⟩ ?_;rintro F2 ⟨i1,k1,_u⟩ fD ⟨H,k⟩;rcases k1 with _|k1
 .have d:decide ((i1:Int)<(a0.length:Int))=false:=cX O;replace H:=iK H;refine I<|lr (bp X X)<|G<|aj<|aB X d<|ct<|bt<|bt<|cu ?_;subst H;replace H:=f8;refine am<|I<|U X<|G ?_;obtain rfl:=si H;exact aM<|be X (ay X) fD rl ⟨X,X⟩
 have d:decide ((i1:Int)<(a0.length:Int))=true:=dc O;obtain⟨c1,H,f,j,h⟩:=iL H;unfold DI at H
 try dsimp only at H
 refine I<|lr (bp X X)<|G<|aj<|aD X d<|aQ<|am<|aj<|bn<|I<|Z X<|U X<|aU<|Z X<|Z X<|Z X<|bz H λx4 h5 H=>have g6:=bU h5;lr (bX (α:=Y) (xs:=a0) X X bO Z9 X ab (b.mono fD a) g6.1 g6.2.1)<|lr (cE (α:=Y) X (b.mono fD a) I9 (v:=Y.v x4) ((bF (s:=1) (x:=x4) X g6.2.2 ag).off O))<|bz H λr7 h8 H=>kD X X ab (vs:=[Y.v x4]) (cs:=[]) X e0 Tryz.call17 (KC h8 a)<|G<|iz H (λc H=>?_) λc H=>aB X c<|aQ<|bD<|am<|bg<|lr (cD O X X)<|Z X<|al ?_
 .refine aD X c<|I<|Z X<|U X<|G ?_;have H:=h _ (sj H);subst H;replace H:=f8;obtain rfl:=si H;exact aM<|cg<|ba<|ba<|cg<|ba<|be X (ay X) fD rl ⟨X,X⟩
 exact aw (i1+1,k1,()) fD e0 X ⟨⟨f _ (sj H),by omega⟩,bW⟩
theorem abQ{fu a0 b r}(H:AD fu a0=some r)(z:M.Sublist L):Ok Tryz.prog W 16 [Sl.v b,.func (.func 17) #[] #[]] F ((.own b 9 1 (aa a0))::L) (λ_ L' v=>∃(s2:Sl),v=Sl.v s2/\L'=(.own s2 9 1 (aa r))::L):=by
 let T0:Item:=.own Sl.nil 9 1 (aa ([]:List Y));unfold AD at H;refine bK 42 Tryz.func16 X<|I<|cL 9 1<|U X<|aU<|Z X<|Z X<|bz H λr3 h4 H=>bH X e0 Tryz.call28 (abX h4 rl (aC 1 X X X))<|U X<|G<|aj<|I<|Z X<|lr (cx X X)<|G<|iz H (λl H=>?_) λl H=>aB X l<|aQ<|am<|aj<|I<|Z X<|lr (cp X X)<|U X<|G<|bn ?_
 .refine aD X l<|I<|Z X<|U X<|G ?_;obtain rfl:=si H;exact aM<|ba<|be X (ay X) fl (ai rl) ⟨b,X,X⟩
 obtain⟨B,H,xJ⟩:=dT H;refine cF (σ:=Nat×Int×Int×(List Y)) (λ(k8,y9,c,a)=>[(0,Sl.v b),(1,.func (.func 17) #[] #[]),(5,iv y9),(6,iv c)]) (λ(k8,y9,c,a)=>T0::(.own b 9 1 (aa a))::L) (λ_=>(λ(k8,y9,c,a)=>cw (DD) k8 (y9,c,a)=some B)) (λ(k8,y9,c,a)=>k8) (fu,r3,ap (r3+(1:Int)),a0) e0 X H ?_;rintro ri ⟨k8,y9,c,a⟩ hJ H;rcases k8 with _|k8
 .cases H
 obtain⟨c8,H,n,A,E⟩:=ik H;unfold DD at H
 try dsimp only at H
 refine aj<|I<|Z X<|Z X<|lr (bR (α:=Y) (xs:=a) ab X X bO (aC 1 X X X))<|lr (bp X X)<|G<|iy H (λh H=>?_) λh H=>aD X h<|aQ<|am<|aj<|bn<|I<|Z X<|Z X<|bz H λd t H=>have e:=bU t;lr (bX (α:=Y) (xs:=a) X X bO Z9 X ab (aC 1 X X X) e.1 e.2.1)<|lr (cE (α:=Y) X (aC 1 X X X) I9 (v:=Y.v d) ((bF (s:=1) (x:=d) X e.2.2 ag).off O))<|U X<|aU<|Z X<|Z X<|bz H λJ u H=>kD X X ab (vs:=[Y.v d]) (cs:=[]) X e0 Tryz.call17 (KC u (au z))<|lr (eG X)<|G<|iy H (λk H=>?_) λk H=>aD X k<|I<|Z X<|Z X<|Z X<|bz H λC w H=>have f:=bU w;lr (bX (α:=Y) (xs:=a) X X bO Z9 X ab (aC 1 X X X) f.1 f.2.1)<|lz H λm y H=>jm (i:=1) X X X X X Z9 (vs:=[Y.v d]) X X ab X (xs':=aa m) (by(try dsimp+zetaDelta only);rw[<-y];exact(er (s:=1) (x:=C) X f.2.2 (cC (vs:=[Y.v d]) X)).off O) (L':=T0::(.own b 9 1 (aa m))::L) X<|G<|bg<|Z X<|lr (cp X X)<|U X<|al<|bD<|am<|bg<|Z X<|lr (cp X X)<|U X<|al ?_
 .refine aB X h<|ct<|bt<|bt<|cu ?_;have H:=A _ (sj H);subst H;replace H:=xJ;refine am<|I<|Z X<|Z X<|bz H λm15 p H=>?_;obtain⟨g17,D⟩:=fQ p
  try dsimp only at g17
  refine lr (fF (α:=Y) (xs:=a) (i:=y9) (j:=(a.length:Int)) X X X bO Z9 X ab (aC 1 X X X) g17.1 g17.2.1 g17.2.2)<|R5 (α:=Y) (i:=1) (lo:=(y9:Int).toNat) (hi:=((a.length:Int):Int).toNat) (xs:=a) X X X bO Tryz.zeroValue9 ([]:Y) X X ab X X O O<|aU<|Z X<|Z X<|bz H λm19 q H=>?_;obtain⟨g21,o⟩:=fQ q
  try dsimp only at g21
  refine lr (fF (α:=Y) (xs:=(mD a (y9:Int).toNat ((a.length:Int):Int).toNat ([]:Y))) (i:=0) (j:=y9) X X X bO Z9 X ab (aC 1 X X X) g21.1 g21.2.1 g21.2.2)<|vP (i:=1) (α:=Y) (lo:=(0:Int).toNat) (hi:=(y9:Int).toNat) X X X ab O O (L':=T0::(.own (b.cut (0:Int).toNat (y9:Int).toNat 1) 9 1 (aa m19))::L) (by subst o;rfl)<|U X<|G ?_;obtain rfl:=si H;exact aM<|be X (ay X) hJ (ai rl) ⟨(b.cut (0:Int).toNat (y9:Int).toNat 1),X,X⟩
 .exact aB X k<|aQ<|bD<|am<|bg<|Z X<|lr (cp X X)<|U X<|al<|aw (k8,y9,ap (c+(1:Int)),a) hJ e0 X ⟨n _ (sj H),bW⟩
 exact aw (k8,ap (y9+(1:Int)),ap (c+(1:Int)),m) hJ e0 X ⟨n _ (sj H),bW⟩
theorem ach{a0 a1 r}(H:strings_IndexAny a0 a1=some r)(a:M.Sublist L):Ok Tryz.prog W 121 [Y.v a0,Y.v a1] F L (Is (iv r) L):=V6 H
theorem ack{fu a0 r}(H:strings_makeASCIISet fu a0=some r)(n:M.Sublist L):Ok Tryz.prog W 140 [Y.v a0] F (L) (Is (.tuple #[.agg (enc r.1).toArray,.bool r.2]) (L)):=by
 unfold strings_makeASCIISet at H;refine bK 21 Tryz.func140 X<|I ?_;refine cY (z:=.agg (enc (Vector.replicate 256 false)).toArray) (cs:=enc (Vector.replicate 256 false)) X X ab (λ_=>by kernel_rfl) X (λb1=>?_);refine U X<|G<|aj<|I<|U X<|G<|bn ?_;obtain⟨l,H,jU⟩:=dT H;refine cF (σ:=Nat×Int×(Vector Bool 256)) (λ(k3,y4,y5)=>[(0,Y.v a0),(2,pv b1 0),(4,iv y4)]) (λ(k3,y4,y5)=>(.ak b1 (enc y5) 202)::L) (λ_=>(λ(k3,y4,y5)=>cw (D1 a0) k3 (y4,y5)=some l)) (λ(k3,y4,y5)=>k3) (fu,(0:Int),(Vector.replicate 256 false)) e0 X H ?_;rintro F6 ⟨k3,y4,y5⟩ d4 H;rcases k3 with _|k3
 .cases H
 obtain⟨c3,H,j,h,k⟩:=ik H;unfold D1 at H
 try dsimp only at H
 refine aj<|I<|Z X<|Z X<|lr (eZ X X U9)<|lr (bp X X)<|G<|iy H (λb H=>?_) λb H=>aD X b<|aQ<|am<|aj<|bn<|I<|Z X<|Z X<|bz H λx9 d H=>lr (jO X X U9 d)<|U X<|G<|aj<|I<|Z X<|lr (fT X X)<|G<|iz H (λa H=>?_) λa H=>aB X a<|aQ<|am<|bg<|Z X<|bz H λm e H=>have g14:=dH e;lr (Iw (off':=0+(x9.toBitVec.toNat:Int).toNat*1) X X JN Z4 g14.1 g14.2.1 X)<|lz H λc f H=>bL 0 X X X Z4 (vs:=[.bool true]) X X X (cs':=enc c) (by rw[<-f];exact(hU (s:=1) (x:=m) X g14.2.2 (cC (vs:=[.bool true]) X)).off O) X<|al<|bD<|am<|bg<|Z X<|lr (cp X X)<|U X<|al ?_
 .refine aB X b<|ct<|bt<|bt<|cu ?_;have H:=h _ (sj H);subst H;replace H:=jU;refine am<|I<|lr (dN (i:=0) X X Bw td (ch:=enc y5) el ag)<|bL 0 X X X td (vs:=enc y5) X el (an.one _) (cs':=enc y5) ci X<|U X<|G ?_;obtain rfl:=si H;exact aM<|da X (dZ (i:=0) X X Bw td el) (ay X) d4 (ai rl) ⟨X,X⟩
 .refine aD X a<|I<|lr (dN (i:=0) X X Bw td (ch:=enc y5) el ag)<|bL 0 X X X td (vs:=enc y5) X el (an.one _) (cs':=enc y5) ci X<|U X<|G ?_;have H:=k _ (sj H);subst H;replace H:=jU;obtain rfl:=si H;exact aM<|ba<|cg<|ba<|ba<|cg<|ba<|da X (dZ (i:=0) X X Bw td el) (ay X) d4 (ai rl) ⟨X,X⟩
 exact aw (k3,ap (y4+(1:Int)),c) d4 e0 X ⟨j _ (sj H),bW⟩
theorem Od{a0 a1 a r}(H:xb a0 a1=some r)(b:M.Sublist L):Ok Tryz.prog W 174 [pv a 0,.int .u8 a1.toNat] F ((.ak a (enc a0) 202)::L) (Is (.bool r) ((.ak a (enc a0) 202)::L)):=by
 unfold xb at H;refine bK 10 Tryz.func174 X<|I<|U X<|aU<|Z X<|Z X<|lr (bP X)<|bz H λx2 h3 H=>have g4:=dH h3;lr (Iw (off':=0+(a1.toNat:Int).toNat*1) X X JN Z4 g4.1 g4.2.1 X)<|lr (ax (i:=0) X X I4 (v:=.bool x2) ((eH (s:=1) (x:=x2) X g4.2.2 ag).off O))<|U X<|G ?_
 obtain rfl:=si H;exact aM<|be X (ay X) fl rl ⟨X,X⟩
theorem acm{fu a0 a1 a r}(H:AS fu a0 a1=some r)(i:M.Sublist L):Ok Tryz.prog W 142 [Y.v a0,pv a 0] F ((.ak a (enc a1) 202)::L) (Is (Y.v r) ((.ak a (enc a1) 202)::L)):=by
 unfold AS at H;refine bK 22 Tryz.func142 X<|I<|U X<|G ?_;obtain⟨o3,H,nY⟩:=bs H;refine ix (σ:=Y) (λy2=>[(0,Y.v y2)]) (λy2=>(.ak a (enc a1) 202)::L) (λ_ y2=>y2=o3) ?_ ?_
 .refine bn ?_;obtain⟨k,H,oY⟩:=dT H;refine cF (σ:=Nat×Y) (λ(k4,y5)=>[(0,Y.v y5),(1,pv a 0)]) (λ(k4,y5)=>(.ak a (enc a1) 202)::L) (λ_=>(λ(k4,y5)=>cw (D3 a1) k4 y5=some k)) (λ(k4,y5)=>k4) (fu,a0) e0 X H ?_;rintro F6 ⟨k4,y5⟩ d4 H;rcases k4 with _|k4
  .cases H
  obtain⟨c4,H,j,d,l⟩:=ik H;unfold D3 at H
  try dsimp only at H
  refine aj<|I<|Z X<|lr (eZ X X U9)<|lr (dx X X)<|G<|iy H (λc H=>?_) λc H=>aD X c<|aQ<|am<|bn<|aj<|I<|Z X<|Z X<|Z X<|lr (eZ X X U9)<|lr (jo X X)<|bz H λx9 e H=>lr (jO X X U9 e)<|bz H λm f H=>bH X e0 Tryz.call174 (Od f i)<|lr (eG X)<|G<|iz H (λb H=>?_) λb H=>aB X b<|aQ<|am<|bg<|Z X<|Z X<|lr (eZ X X U9)<|lr (jo X X)<|bz H λm16 h H=>lr (sb X X  U9 h)<|U X<|al<|bD ?_
  .refine aB X c<|ct<|bt<|bt<|cu ?_;have H:=d _ (sj H);subst H;replace H:=oY;exact aw y5 d4 e0 X (si H)
  .refine aD X b<|ct<|bt<|Bf X<|bt<|cu ?_;have H:=d _ (sj H);subst H;replace H:=oY;exact aw y5 d4 e0 X (si H)
  exact aw (k4,m16) d4 e0 X ⟨j _ (sj H),bW⟩
 rintro ne y2 dQ hy;subst hy;replace H:=nY;refine I<|Z X<|U X<|G ?_;obtain rfl:=si H;exact aM<|be X (ay X) dQ rl ⟨X,X⟩
theorem acl{fu a0 a1 a r}(H:AR fu a0 a1=some r)(i:M.Sublist L):Ok Tryz.prog W 141 [Y.v a0,pv a 0] F ((.ak a (enc a1) 202)::L) (Is (Y.v r) ((.ak a (enc a1) 202)::L)):=by
 unfold AR at H;refine bK 16 Tryz.func141 X<|I<|U X<|G ?_;obtain⟨o3,H,nY⟩:=bs H;refine ix (σ:=Y) (λy2=>[(0,Y.v y2)]) (λy2=>(.ak a (enc a1) 202)::L) (λ_ y2=>y2=o3) ?_ ?_
 .refine bn ?_;obtain⟨k,H,oY⟩:=dT H;refine cF (σ:=Nat×Y) (λ(k4,y5)=>[(0,Y.v y5),(1,pv a 0)]) (λ(k4,y5)=>(.ak a (enc a1) 202)::L) (λ_=>(λ(k4,y5)=>cw (D2 a1) k4 y5=some k)) (λ(k4,y5)=>k4) (fu,a0) e0 X H ?_;rintro F6 ⟨k4,y5⟩ d4 H;rcases k4 with _|k4
  .cases H
  obtain⟨c4,H,j,d,l⟩:=ik H;unfold D2 at H
  try dsimp only at H
  refine aj<|I<|Z X<|lr (eZ X X U9)<|lr (dx X X)<|G<|iy H (λc H=>?_) λc H=>aD X c<|aQ<|am<|bn<|aj<|I<|Z X<|Z X<|bz H λx9 e H=>lr (jO X X U9 e)<|bz H λm f H=>bH X e0 Tryz.call174 (Od f i)<|lr (eG X)<|G<|iz H (λb H=>?_) λb H=>aB X b<|aQ<|am<|bg<|Z X<|bz H λm16 h H=>lr (nN X X  U9 h)<|U X<|al<|bD ?_
  .refine aB X c<|ct<|bt<|bt<|cu ?_;have H:=d _ (sj H);subst H;replace H:=oY;exact aw y5 d4 e0 X (si H)
  .refine aD X b<|ct<|bt<|Bf X<|bt<|cu ?_;have H:=d _ (sj H);subst H;replace H:=oY;exact aw y5 d4 e0 X (si H)
  exact aw (k4,m16) d4 e0 X ⟨j _ (sj H),bW⟩
 rintro ne y2 dQ hy;subst hy;replace H:=nY;refine I<|Z X<|U X<|G ?_;obtain rfl:=si H;exact aM<|be X (ay X) dQ rl ⟨X,X⟩
theorem Oc{fu a0 a1 r}(H:xa fu a0 a1=some r)(c:M.Sublist L):Ok Tryz.prog W 90 [Y.v a0,Y.v a1] F (L) (Is (Y.v r) (L)):=by
 unfold xa at H;refine bK 43 Tryz.func90 X<|I<|U X<|G<|aj<|I<|Z X<|lr (fG (s:=a0) (m:=([]:Y)) X X)<|Z X ?_;obtain⟨o1,H,gY⟩:=bs H;refine cG (σ:=Bool) 3 (λy2=>[(0,Y.v a0),(1,Y.v a1),(12,.bool y2)]) (λy2=>L) (λ_ y2=>y2=o1) ?_ ?_
 .refine iz H (λb H=>?_) λb H=>lg b (av X)<|lg b (fG (s:=a1) (m:=([]:Y)) X X)<|lr (cd X b X)<|al ?_
  .exact aq X b<|aq X b<|lr (cf X b X)<|al<|aw true fl e0 X (si H)
  exact aw (decide (a1=([]:Y))) fl e0 X (si H)
 rintro F4 y2 dI hy;subst hy;replace H:=gY;refine G<|iz H (λd H=>?_) λd H=>aB X d<|aQ<|am<|aj<|I<|Z X<|lr (eZ X X U9)<|lr (cx X X)<|Z X ?_
 .refine aD X d<|I<|Z X<|U X<|G ?_;obtain rfl:=si H;exact aM<|ba<|be X (ay X) dI rl ⟨X,X⟩
 obtain⟨o7,H,sV⟩:=bs H;refine cG (σ:=Bool) 4 (λy8=>[(0,Y.v a0),(1,Y.v a1),(21,.bool y8)]) (λy8=>L) (λ_ y8=>y8=o7) ?_ ?_
 .refine iy H (λa H=>?_) λa H=>lg a (av X)<|bz H λn i H=>lg a (jO X X U9 i)<|lg a (bp X X)<|lr (cf X a X)<|al ?_
  .exact aq X a<|aq X a<|aq X a<|lr (cd X a X)<|al<|aw false fl e0 X (si H)
  exact aw (decide ((n.toBitVec.toNat:Int)<((128:BitVec 8).toNat:Int))) fl e0 X (si H)
 rintro ri y8 hJ hy;subst hy;replace H:=sV;refine G<|iz H (λe H=>?_) λe H=>aB X e<|aQ<|am<|aj<|I<|Z X<|bz H λh j H=>bH X e0 Tryz.call140 (ack j c)<|Z X<|lr (ck X X)<|lr (ck X X) ?_
 .cases H
 refine cY (z:=.agg (enc (Vector.replicate 256 false)).toArray) (cs:=enc (Vector.replicate 256 false)) X X ab (λ_=>by kernel_rfl) X (λo=>?_);refine bL 0 X X X td (vs:=enc h.1) X el (an.one _) (cs':=enc h.1) ci X<|U X<|aU<|Z X<|G<|iz H (λf H=>?_) λf H=>?_
 .refine aD X f<|I<|Z X<|bz H λp k H=>bH X e0 Tryz.call142 (acm k c)<|bz H λq l H=>bH X e0 Tryz.call141 (acl l c)<|U X<|G ?_;obtain rfl:=si H;exact aM<|ba<|be X (ay X) (ft dI hJ) (ai rl) ⟨X,X⟩
 cases H
theorem Xi{a0 r}(H:yT a0=some r)(Q:M.Sublist L):Ok Tryz.prog W 145 [Y.v a0] F (L) (Is (.tuple #[iv r.1,.nilIface]) (L)):=by
 unfold yT at H;refine bK 77 Tryz.func145 X<|I<|U X<|U X<|aU<|Z X<|lr (eZ X X U9)<|U X<|G<|aj<|I<|Z X<|aq X X<|aq X X<|aq X X<|gI X X X X ab<|gI X X X X ab<|aq X X<|lr (cd X X X)<|Z X<|lg X (av X)<|lg X (av X)<|lg X (bp X X)<|lg X (av X) ?_;obtain⟨o1,H,gY⟩:=bs H;refine cG (σ:=Bool) 3 (λy2=>[(0,Y.v a0),(21,.bool false),(22,.bool true),(28,.bool y2)]) (λy2=>L) (λ_ y2=>y2=o1) ?_ ?_
 .refine iy H (λd H=>?_) λd H=>lg d (av X)<|lg d (bp X X)<|lg X (cf X d X)<|al ?_
  .exact aq X d<|aq X d<|lg X (cd X d X)<|al<|aw false fl e0 X (si H)
  exact aw (decide ((a0.length:Int)<(19:Int))) fl e0 X (si H)
 rintro F4 y2 dI hy;subst hy;replace H:=gY;refine lg X (cf X X X)<|lr (cd X X X)<|G<|iz H (λt H=>?_) λt H=>?_
 .refine aD X t<|I<|Z X<|U X<|G ?_;obtain⟨o8,H,n0⟩:=dT H;refine ix (σ:=Y) (λy7=>[(0,Y.v y7),(5,Y.v a0)]) (λy7=>L) (λ_ y7=>.inl y7=o8) ?_ ?_
  .refine I<|Z X<|bz H λx9 u H=>lr (jO X X U9 u)<|lr (cx X X)<|Z X ?_;obtain⟨D,H,EE⟩:=bs H;refine cG (σ:=Bool) 4 (λf=>[(0,Y.v a0),(5,Y.v a0),(39,.bool f)]) (λf=>L) (λ_ f=>f=D) ?_ ?_
   .refine iz H (λb H=>?_) λb H=>lg b (av X)<|bz H λN w H=>lg b (jO X X U9 w)<|lg b (cx X X)<|lr (cd X b X)<|al ?_
    .exact aq X b<|aq X b<|aq X b<|lr (cf X b X)<|al<|aw true fl e0 X (si H)
    exact aw ((N.toBitVec.toNat:Int)==((43:BitVec 8).toNat:Int)) fl e0 X (si H)
   rintro mB f dA hy;subst hy;replace H:=EE;refine G<|iy H (λm H=>?_) λm H=>aD X m<|I<|Z X<|bz H λm19 y H=>lr (nN X X  U9 y)<|U X<|aU<|Z X<|lr (eZ X X U9)<|lr (bp X X)<|G<|iz H (λp H=>?_) λp H=>aB X p<|aQ ?_
   .exact aB X m<|aQ<|aw a0 dA e0 X (si H)
   .cases H
   exact aw m19 dA e0 X (si H)
  rintro uP y7 kw hy;subst hy;replace H:=n0;refine I<|U X<|G<|aj<|I<|Z X<|bz H λV z H=>?_;refine EU (el:=5) X X ab X az az az (by have:=cZ z;simp at this;omega) (λK uQ gr k=>?_);refine lr (bR (α:=BitVec 8) (xs:=(Y.bytes y7)) ab X X kZ (k.mono fl bm))<|Z X<|G<|bn ?_;refine dB (dE (α:=BitVec 8) (xs:=(Y.bytes y7)) ab (k.mono fl bm)) (λaeH=>?_);obtain⟨J,H,Q2⟩:=dT H;refine cF (σ:=Nat×Nat×Int) (λ(i30,a,c)=>[(5,Y.v a0),(6,iv c),(47,Sl.v K),(48,iv ((Y.bytes y7).length:Int)),(49,iv (i30:Int))]) (λ(i30,a,c)=>L) (λ_=>(λ(i30,a,c)=>cM (yU y7) a i30 c=some J/\i30+a=(Y.bytes y7).length)) (λ(i30,a,c)=>a) (0,(Y.bytes y7).length,(0:Int)) e0 X ⟨H,by omega⟩ ?_;rintro IV ⟨i30,a,c⟩ ou ⟨H,S⟩;rcases a with _|a
  .have o:decide ((i30:Int)<((Y.bytes y7).length:Int))=false:=cX O;replace H:=iK H;refine I<|lr (bp X X)<|G<|aj<|aB X o<|ct<|bt<|bt<|cu ?_;subst H;replace H:=Q2;refine am ?_;obtain⟨E,H,EL⟩:=bs H;refine ix (σ:=Int) (λh=>[(6,iv h)]) (λh=>L) (λ_ h=>h=E) ?_ ?_
   .refine I<|Z X<|bz H λaa B H=>lr (jO X X U9 B)<|lr (cx X X)<|G<|iy H (λn H=>?_) λn H=>aD X n<|bg<|Z X<|lr (Ev.neg X)<|U X<|al ?_
    .exact aB X n<|aQ<|aw c fl e0 X (si H)
    exact aw (ap (0-c)) fl e0 X (si H)
   rintro Es h qh hy;subst hy;replace H:=EL;refine I<|Z X<|U X<|U X<|G ?_;obtain rfl:=si H;exact aM<|ba<|da X (ay X) (ay X) (ft (ft (ft (ft dI kw) gr) ou) qh) rl ⟨X,X⟩
  have o:decide ((i30:Int)<((Y.bytes y7).length:Int))=true:=dc O;obtain⟨P,H,C,R,T⟩:=iL H;unfold yU at H
  try dsimp only at H
  refine I<|lr (bp X X)<|G<|aj<|aD X o<|aQ<|am<|aj<|bn<|I<|bz H λe A H=>have l:=bU A;lr (bX (α:=BitVec 8) (xs:=(Y.bytes y7)) X X kZ Z5 X ab (k.mono ou bm) l.1 l.2.1)<|lr (cE (α:=BitVec 8) X (k.mono ou bm) I5 (v:=.int .u8 e.toNat) ((bF (s:=1) (x:=e) X l.2.2 ag).off O))<|U X<|aU<|Z X<|lr (xz (i:=e) (j:=(48:BitVec 8)) X X)<|U X<|G<|aj<|I<|Z X<|lr (dx X X)<|G<|iz H (λq H=>?_) λq H=>aB X q<|aQ<|am<|bg<|Z X<|lr (mX X X)<|Z X<|lr (kE (j:=((e-(48:BitVec 8)).toNat:Int)) X U5 U3 (bT O O))<|lr (cp X X)<|U X<|al<|bD<|am<|bg<|lr (cD O X X)<|Z X<|al ?_
  .cases H
  exact aw (i30+1,a,ap ((ap (c*(10:Int)))+((e-(48:BitVec 8)).toNat:Int))) ou e0 X ⟨⟨C _ (sj H),by omega⟩,bW⟩
 cases H
theorem DW{a0 r}(H:lX a0=some r)(a:M.Sublist L):Ok Tryz.prog W 91 [Y.v a0] F (L) (Is (.tuple #[iv r.1,.nilIface]) (L)):=by unfold lX at H;refine bK 18 Tryz.func91 X<|I<|U X<|U X<|aU<|Z X<|bz H λr1 h2 H=>bH X e0 Tryz.call145 (Xi h2 a)<|Z X<|lr (ck X X)<|lr (ck X X)<|U X<|U X<|G<|aj<|I<|Z X<|lr (PY X JI)<|G<|aB X X<|aQ<|am<|I<|Z X<|U X<|U X<|G ?_;obtain rfl:=si H;exact aM<|da X (ay X) (ay X) fl rl ⟨X,X⟩
theorem jb{fu a0 r}(H:iT fu a0=some r)(d:M.Sublist L):lE Tryz.prog W 42 [Y.v a0] F (L) 23 (r.2) (λ_ L' v=>v=iv r.1/\L'=L):=by
 unfold iT at H;refine qD (m:=1) (n:=25) Tryz.func42 X X X ab<|pK (e':=[(0,Y.v a0)]) X<|I<|U X<|G<|aj<|I<|Z X<|lr (eZ X X U9)<|lr (bp X X)<|Z X ?_;obtain⟨o1,H,gY⟩:=bs H;refine cG (σ:=Bool) 4 (λy2=>[(0,Y.v a0),(12,.bool y2)]) (λy2=>L) (λ_ y2=>y2=o1) ?_ ?_
 .refine iz H (λa H=>?_) λa H=>lg a (av X)<|lg a (eZ X X U9)<|lg a (dx X X)<|lr (cd X a X)<|al ?_
  .exact aq X a<|aq X a<|aq X a<|lr (cf X a X)<|al<|aw true fl e0 X (si H)
  exact aw (decide ((a0.length:Int)>(4:Int))) fl e0 X (si H)
 rintro F4 y2 dI hy;subst hy;replace H:=gY;refine Z X ?_;obtain⟨o6,H,nZ⟩:=bs H;refine cG (σ:=Bool) 4 (λy7=>[(0,Y.v a0),(17,.bool y7)]) (λy7=>L) (λ_ y7=>y7=o6) ?_ ?_
 .refine iz H (λb H=>?_) λb H=>lg b (av X)<|bz H λr9 e H=>ml X X X b X ab e0 Tryz.call90 (Oc e d)<|lg b (sa (s:=r9) (m:=([]:Y)) X X)<|lr (cd X b X)<|al ?_
  .exact aq X b<|aq X b<|aq X b<|lr (cf X b X)<|al<|aw true fl e0 X (si H)
  exact aw (!(decide (r9=([]:Y)))) fl e0 X (si H)
 rintro pW y7 fW hy;subst hy;replace H:=nZ;refine G<|iz H (λc H=>?_) λc H=>aB X c<|aQ<|am<|I<|Z X<|bz H λh f H=>bH X e0 Tryz.call91 (DW f d)<|Z X<|lr (ck X X)<|lr (ck X X)<|U X<|U X<|aU<|Z X<|U X<|G ?_
 .refine aD X c<|bg<|lr (rZ X ru) ?_;obtain rfl:=si H;exact tV X X<|dD<|fb X (ft dI fW) rl ⟨X,X⟩
 obtain rfl:=si H;exact aM<|j9 (.inl X) X<|be X (ay X) (ft dI fW) rl ⟨X,X⟩
theorem Ia{a0 a1 r}(H:strings_IndexByte a0 a1=some r)(a:M.Sublist L):Ok Tryz.prog W 122 [Y.v a0,.int .u8 a1.toNat] F (L) (Is (iv r) (L)):=by unfold strings_IndexByte at H;refine bK 8 Tryz.func122 X<|I<|U X<|aU<|Z X<|Z X<|bz H λr1 h2 H=>bH X e0 Tryz.call112 (LS h2 a)<|U X<|G ?_;obtain rfl:=si H;exact aM<|be X (ay X) fl rl ⟨X,X⟩
theorem KF{fu a0 r}(H:ye fu a0=some r)(a:M.Sublist L):lE Tryz.prog W 68 [Y.v a0] F (L) 23 (r.2) (λ_ L' v=>v=.agg (enc r.1).toArray/\L'=L):=by
 unfold ye at H;refine qD (m:=1) (n:=36) Tryz.func68 X X X ab<|pK (e':=[(0,Y.v a0)]) X<|I ?_;refine cY (cs:=enc aT.zero) X X ab Tryz.zeroValue98 X (λb1=>?_);let T1:Item:=.ak b1 (enc aT.zero) 98;refine aU<|Z X<|bz H λr3 h4 H=>bH X e0 Tryz.call121 (ach h4 (ai a))<|U X<|G<|aj<|I<|Z X<|lr (bp X X)<|G<|iz H (λq H=>?_) λq H=>aB X q<|aQ<|am<|aj<|bz H λm8 h9 H=>bz H λQ x H=>bz H λk f H=>iz H (λd H=>?_) λd H=>bz H λe l H=>?_
 .refine aD X q<|bg<|lr (rZ X ru) ?_;obtain rfl:=si H;exact tV X X<|dD<|fb X fl (ai rl) ⟨X,X⟩
 .obtain rfl:=si H;refine vX 11 az az (gc az az az) az (λaL aH=>?_);refine dV (λw=>St W F (T1::L) w) (λw h=>trivial)<|aP X aL aH 0 rl X (av X)<|aP X aL aH 1 rl X (av X)<|aP X aL aH 2 rl X (sb X X  U9 h9)<|aP X aL aH 4 rl X (av X)<|aP X aL aH 5 rl X (av X)<|aP X aL aH 6 rl X (jO X X U9 x)<|lq [3,10] az X<|f4 (λinv=>?_) ?_
  .refine fS d X e0 Tryz.call42 (jb f (ai a)) (λne L' v dQ hv=>?_);obtain⟨rfl,rfl⟩:=hv;exact Pn.nx<|dD<|fb d dQ (ai rl) ⟨X,X⟩
  refine f4 (λinv=>?_) cy;refine cY (cs:=enc aT.zero) X X ab Tryz.zeroValue98 X (λN=>?_);refine dz inv (ai rl) ?_;refine dh 3 (λinv=>?_);refine fS d X e0 Tryz.call42 (jb f (au a)) (λlY L' v fK hv=>?_);obtain⟨rfl,rfl⟩:=hv;exact Pn.nx<|dD<|fb d fK (au rl) ⟨X,X⟩
 let T0:=({aT.zero with cb:=k.1,aX:=ap (e+(1:Int))}:aT)
 refine ii (σ:=Nat) 11 (λc=>[(0,Y.v a0),(2,pv b1 0),(3,iv r3),(4,pv c 0),(19,.agg (enc T0).toArray)]) (λc=>(.ak c (enc aT.zero) 98)::T1::L) (λ_ c=>True) az az (gc az az az) az (λaL aH=>?_) ?_
 .refine dV (λw=>St W F (T1::L) w) (λw h=>trivial)<|aP X aL aH 0 rl X (av X)<|aP X aL aH 1 rl X (av X)<|aP X aL aH 2 rl X (sb X X  U9 h9)<|aP X aL aH 4 rl X (av X)<|aP X aL aH 5 rl X (av X)<|aP X aL aH 6 rl X (jO X X U9 x)<|lq [3,10] az X<|f4 (λinv=>?_) ?_
  .refine fO d X X ab e0 Tryz.call42 (jb f (ai a)) (λpX L' v j0 hv=>?_);obtain⟨rfl,rfl⟩:=hv;refine al<|fz inv (λw h=>(h.weaken j0).sublist rl)<|lq [7,10] az X<|f4 (λinv=>?_) ?_
   .refine bH X e0 Tryz.call122 (Ia l (ai a))<|al<|fz inv (λw h=>(h.weaken j0).sublist rl)<|dV (λw=>St W pX (T1::L) w) (λw h=>(h.weaken j0).sublist rl)<|aP X aL aH 8 rl X (cp X X)<|aP X aL aH 9 rl X (de (v:=.agg (enc T0).toArray) (pv:=[(0,iv k.1),(1,iv (ap (e+(1:Int))))]) ⟨X,X,e0⟩ (λw=>by kernel_rfl)) ?_;refine dh 10 (λinv=>?_);refine cY (cs:=enc aT.zero) X X ab Tryz.zeroValue98 X (λB=>?_);exact dz inv (ai rl)<|e7 az<|eY B j0 e0 X cy
   refine f4 (λinv=>?_) cy;refine cY (cs:=enc aT.zero) X X ab Tryz.zeroValue98 X (λt=>?_);refine al<|fz inv (λw h=>(h.weaken j0).sublist (ai rl)) ?_;refine dh 7 (λinv=>?_);exact bH X e0 Tryz.call122 (Ia l (au a))<|al<|fz inv (λw h=>(h.weaken j0).sublist (ai rl))<|dV (λw=>St W pX ((.ak t (enc aT.zero) 98)::T1::L) w) (λw h=>(h.weaken j0).sublist (ai rl))<|aP X aL aH 8 rl X (cp X X)<|aP X aL aH 9 rl X (de (v:=.agg (enc T0).toArray) (pv:=[(0,iv k.1),(1,iv (ap (e+(1:Int))))]) ⟨X,X,e0⟩ (λw=>by kernel_rfl))<|e7 az<|eY t j0 e0 X cy
  refine f4 (λinv=>?_) cy;refine cY (cs:=enc aT.zero) X X ab Tryz.zeroValue98 X (λu=>?_);refine dz inv (ai rl) ?_;refine dh 3 (λinv=>?_);refine fO d X X ab e0 Tryz.call42 (jb f (au a)) (λuS L' v iE hv=>?_);obtain⟨rfl,rfl⟩:=hv;refine al<|fz inv (λw h=>(h.weaken iE).sublist (ai rl)) ?_;refine dh 7 (λinv=>?_);exact bH X e0 Tryz.call122 (Ia l (au a))<|al<|fz inv (λw h=>(h.weaken iE).sublist (ai rl))<|dV (λw=>St W uS ((.ak u (enc aT.zero) 98)::T1::L) w) (λw h=>(h.weaken iE).sublist (ai rl))<|aP X aL aH 8 rl X (cp X X)<|aP X aL aH 9 rl X (de (v:=.agg (enc T0).toArray) (pv:=[(0,iv k.1),(1,iv (ap (e+(1:Int))))]) ⟨X,X,e0⟩ (λw=>by kernel_rfl))<|e7 az<|eY u iE e0 X cy
 rintro rn c iF hy;refine bL 0 X X X eL (vs:=enc T0) X el (an.one _) (cs':=enc T0) ci X<|G ?_;obtain⟨K,H,xO⟩:=dT H;refine ix (σ:=aT) (λb=>[(2,pv b1 0),(4,pv c 0)]) (λb=>(.ak c (enc b) 98)::T1::L) (λ_ b=>.inl b=K) ?_ ?_
 .refine I<|lr (ar 1 X dS X Z3 X X)<|lr (ax (i:=0) X X I3 (v:=iv (ap (e+(1:Int)))) ((mr ag).off X))<|lr (eM X X)<|G<|iy H (λo H=>?_) λo H=>aD X o<|bg<|Z X<|Z X<|lr (cp X X)<|bz H λP D H=>lr (nN X X  U9 D)<|bz H λA y H=>iz H (λj H=>?_) λj H=>?_
  .refine aB X o<|I<|Z X<|Z X<|lr (cp X X)<|bz H λJ C H=>lr (nN X X  U9 C)<|lr (sa (s:=J) (m:=([]:Y)) X X)<|G<|iz H (λp H=>?_) λp H=>aB X p<|aQ ?_
   .refine aD X p<|bg<|lr (rZ X ru) ?_;obtain rfl:=si H;replace H:=xO;obtain rfl:=si H;exact tV X X<|dD<|fb X iF (au rl) ⟨X,X⟩
   exact aw T0 fl e0 X (si H)
  .obtain rfl:=si H;replace H:=xO;obtain rfl:=si H;refine fS j X e0 Tryz.call42 (jb y (au a)) (λuT L' v j3 hv=>?_);obtain⟨rfl,rfl⟩:=hv;exact dD<|fb j (ft iF j3) (au rl) ⟨X,X⟩
  refine fO j X X ab e0 Tryz.call42 (jb y (au a)) (λuT L' v j3 hv=>?_);obtain⟨rfl,rfl⟩:=hv;exact lr (ar 2 X dS X Z3 X X)<|lz H λz E H=>bL 0 X X X Z3 (vs:=[iv A.1]) X X X (cs':=enc z) (by(try dsimp+zetaDelta only);rw[<-E];exact(IL (cC (vs:=[iv A.1]) X)).off X) X<|al<|aw z j3 e0 X (si H)
 rintro QC b B2 hy;subst hy;replace H:=xO;refine I<|lr (dN (i:=0) X X jV eL (ch:=enc b) el ag)<|bL 1 X X X eL (vs:=enc b) X el (an.one _) (cs':=enc b) ci X<|G ?_;obtain rfl:=si H;exact aM<|j9 (.inl X) X<|be X (dZ (i:=1) X X jV eL el) (ft iF B2) (au rl) ⟨X,X⟩
theorem BO{fu a0 e r}(H:mE fu a0=some r)(a:M.Sublist L)(d:Rd W F M e a0):lE Tryz.prog W 30 [Sl.v e] F (L) 23 (r.2) (λ_ L' v=>∃(s1:Sl),v=Sl.v s1/\L'=(.own s1 98 3 (aa r.1))::L):=by
 unfold mE at H;refine qD (m:=1) (n:=19) Tryz.func30 X X X ab<|pK (e':=[(0,Sl.v e)]) X<|I<|cL 98 3<|U X<|aU<|cL 98 3<|U X<|G<|aj<|I<|Z X<|lr (bR (α:=Y) (xs:=a0) ab X X bO (d.mono fl (au a)))<|Z X<|G<|bn ?_;refine dB (dE (α:=Y) (xs:=a0) ab (d.mono fl (au a))) (λLi=>?_);obtain⟨o,H,jU⟩:=dT H;refine cF (σ:=Nat×Nat×Sl×(List aT)) (λ(i3,k3,s4,l5)=>[(3,Sl.v s4),(6,Sl.v e),(7,iv (a0.length:Int)),(8,iv (i3:Int))]) (λ(i3,k3,s4,l5)=>(.own s4 98 3 (aa l5))::(.own Sl.nil 98 3 (aa ([]:List aT)))::L) (λ_=>(λ(i3,k3,s4,l5)=>cM (tm fu a0) k3 i3 l5=some o/\i3+k3=a0.length)) (λ(i3,k3,s4,l5)=>k3) (0,a0.length,Sl.nil,([]:List aT)) e0 X ⟨H,by omega⟩ ?_;rintro F6 ⟨i3,k3,s4,l5⟩ d4 ⟨H,t⟩;rcases k3 with _|k3
 .have f:decide ((i3:Int)<(a0.length:Int))=false:=cX O;replace H:=iK H;refine I<|lr (bp X X)<|G<|aj<|aB X f<|ct<|bt<|bt<|cu ?_;subst H;replace H:=jU;refine am<|I<|Z X<|U X<|G ?_;obtain rfl:=si H;exact aM<|j9 (.inl X) X<|be X (ay X) d4 (cn (ai rl)) ⟨s4,X,X⟩
 have f:decide ((i3:Int)<(a0.length:Int))=true:=dc O;obtain⟨c3,H,k,q,l⟩:=iL H;unfold tm at H
 try dsimp only at H
 refine I<|lr (bp X X)<|G<|aj<|aD X f<|aQ<|am<|aj<|bn<|I<|bz H λx8 h9 H=>have g10:=bU h9;lr (bX (α:=Y) (xs:=a0) X X bO Z9 X ab (d.mono d4 (au a)) g10.1 g10.2.1)<|lr (cE (α:=Y) X (d.mono d4 (au a)) I9 (v:=Y.v x8) ((bF (s:=1) (x:=x8) X g10.2.2 ag).off O))<|U X<|G<|bg<|Z X<|Z X<|bz H λb h H=>iz H (λc H=>?_) λc H=>?_
 .have H:=l _ (sj H);subst H;replace H:=jU;obtain rfl:=si H;refine fS c X e0 Tryz.call68 (KF h (au a)) (λpW L' v fW hv=>?_);obtain⟨rfl,rfl⟩:=hv;exact f5<|dD<|dD<|f5<|dD<|Pn.lG 98 3<|fb c (ft d4 fW) (cn (au rl)) ⟨Sl.nil,X,X⟩
 refine fO c X X ab e0 Tryz.call68 (KF h (au a)) (λpW L' v fW hv=>?_);obtain⟨rfl,rfl⟩:=hv;refine dW (α:=aT) (xs:=([b.1]:List aT)) (pv:=[(0,.agg (enc b.1).toArray)]) X X ab e0 (dY (α:=aT) (z0:=aT.zero) (xs:=([b.1]:List aT)) gn eL Tryz.zeroValue98 X X X ab X (eF X X)) X X ab (λu _=>?_);obtain⟨w,j,H⟩:=bs H;refine ed (i:=1) (α:=aT) (xs:=l5) (ys:=([b.1]:List aT)) X X ab X X gn Tryz.typeInfo98 X X X X X X (aC 0 X X X) X (cZ j) X (λp=>?_);exact U X<|al<|bD<|am<|bg<|lr (cD O X X)<|Z X<|al<|dd (ai rl)<|aw (i3+1,k3,p,l5++([b.1]:List aT)) (ft d4 fW) e0 X ⟨⟨k _ (sj H),by omega⟩,bW⟩
theorem N9{a0 a1 a2 r}(H:w8 a0 a1 a2=some r)(b:M.Sublist L):Ok Tryz.prog W 171 [iv a0,iv a1,iv a2] F (L) (Is (.bool r) (L)):=by
 unfold w8 at H;refine bK 15 Tryz.func171 X<|I<|U X<|aU<|Z X<|Z X<|lr (fT X X)<|Z X ?_;obtain⟨o1,H,gY⟩:=bs H;refine cG (σ:=Bool) 4 (λy2=>[(14,.bool y2)]) (λy2=>L) (λ_ y2=>y2=o1) ?_ ?_
 .refine iy H (λa H=>?_) λa H=>lg a (av X)<|lg a (av X)<|lg a (Ev.leq X X)<|lr (cf X a X)<|al ?_
  .exact aq X a<|aq X a<|aq X a<|lr (cd X a X)<|al<|aw false fl e0 X (si H)
  exact aw (decide (a0<=a2)) fl e0 X (si H)
 rintro F4 y2 dI hy;subst hy;replace H:=gY;refine U X<|G ?_;obtain rfl:=si H;exact aM<|be X (ay X) dI rl ⟨X,X⟩
theorem ab8{a0 a1 d r}(H:AP a0 a1=some r)(E:M.Sublist L):Ok Tryz.prog W 120 [pv d 0,.agg (enc a1).toArray] F ((.ak d (enc a0) 182)::L) (λ_ L' v=>v=iv r.2/\L'=(.ak d (enc r.1) 182)::L):=by
 unfold AP at H;refine bK 85 Tryz.func120 X<|I ?_;refine fy X X ab X (cs:=enc a1) X (λb2=>?_);refine U X<|G<|aj<|I<|lr (ar 0 X dS X Z3 X X)<|lr (ax (i:=0) X X I3 (v:=iv a1.cb) ((jq ag).off X))<|bz H λr4 h5 H=>bH X e0 Tryz.call171 (N9 h5 (au E))<|lr (eG X)<|Z X ?_;obtain⟨o8,H,n0⟩:=bs H;refine cG (σ:=Bool) 5 (λy9=>[(0,pv d 0),(3,pv b2 0),(14,.bool y9)]) (λy9=>(.ak b2 (enc a1) 98)::(.ak d (enc a0) 182)::L) (λ_ y9=>y9=o8) ?_ ?_
 .refine iz H (λc H=>?_) λc H=>lg c (ar 2 X dS X Z3 X X)<|lg c (ax (i:=0) X X I3 (v:=iv a1.cq) ((jp ag).off X))<|bz H λa3 Q H=>ml X X X c X ab e0 Tryz.call171 (N9 Q (au E))<|lg c (eG X)<|lr (cd X c X)<|al ?_
  .exact aq X c<|aq X c<|aq X c<|aq X c<|lr (cf X c X)<|al<|aw true fl e0 X (si H)
  exact aw (!a3) fl e0 X (si H)
 rintro uN y9 fJ hy;subst hy;replace H:=n0;refine G<|iz H (λt H=>?_) λt H=>aB X t<|aQ<|am ?_
 .refine aD X t<|I<|U X<|G ?_;obtain rfl:=si H;exact aM<|ba<|be X (ay X) fJ (ai rl) ⟨X,X⟩
 obtain⟨an,H,nX⟩:=dT H;refine ix (σ:=f7) (λe=>[]) (λe=>(.ak b2 (enc a1) 98)::(.ak d (enc e) 182)::L) (λ_ e=>.inl e=an) ?_ ?_
 .refine I<|lr (ar 1 X dS X Z3 X X)<|lr (ax (i:=0) X X I3 (v:=iv a1.aX) ((mr ag).off X))<|G<|bn<|I<|lr (cx X X)<|U X<|G<|iz H (λu H=>?_) λu H=>aB X u<|I<|lr (cx X X)<|U X<|G<|iz H (λy H=>?_) λy H=>aB X y<|I<|lr (cx X X)<|U X<|G<|iy H (λA H=>?_) λA H=>aD X A<|aj<|aj<|gU az az<|qr (av X)<|qr (ar 2 X dS X Z3 X X)<|qr (ax (i:=0) X X I3 (v:=iv a1.cq) ((jp ag).off X))<|qr (bP X)<|qr (ar 0 X u2 X BG X X)<|bz H λP V H=>have l:=dH V;qr (d0 (off':=0+a1.cq.toNat*1) X X uZ Z3 l.1 l.2.1 X)<|qr (ax (i:=1) X X I3 (v:=iv P) ((Ha (eH (s:=1) (x:=P) X l.2.2 ag)).off O))<|qr (cx X X)<|qr (av X) ?_
  .refine aD X u<|I<|lr (ar 2 X dS X Z3 X X)<|lr (ax (i:=0) X X I3 (v:=iv a1.cq) ((jp ag).off X))<|lr (eM X X)<|G<|iz H (λw H=>?_) λw H=>aB X w<|aQ<|bD ?_
   .refine aD X w<|I<|U X<|G ?_;obtain rfl:=si H;replace H:=nX;obtain rfl:=si H;exact aM<|cg<|ba<|be X (ay X) fJ (ai rl) ⟨X,X⟩
   exact aw a0 fl cy X (si H)
  .refine aD X y<|aj<|aj<|gU az az<|qr (av X)<|qr (ar 2 X dS X Z3 X X)<|qr (ax (i:=0) X X I3 (v:=iv a1.cq) ((jp ag).off X))<|qr (bP X)<|qr (ar 0 X u2 X BG X X)<|bz H λN R H=>have j:=dH R;qr (d0 (off':=0+a1.cq.toNat*1) X X uZ Z3 j.1 j.2.1 X)<|qr (ax (i:=1) X X I3 (v:=iv N) ((Ha (eH (s:=1) (x:=N) X j.2.2 ag)).off O))<|qr (dx X X)<|gR<|am<|iz H (λz H=>?_) λz H=>aB X z<|aQ<|am<|gV 9 az az<|qr (av X)<|qr (ar 2 X dS X Z3 X X)<|qr (ax (i:=0) X X I3 (v:=iv a1.cq) ((jp ag).off X))<|qr (ar 0 X dS X Z3 X X)<|qr (ax (i:=0) X X I3 (v:=iv a1.cb) ((jq ag).off X))<|qr (cp X X)<|qr (bP X)<|qr (ar 0 X u2 X BG X X)<|bz H λa4 S H=>have k:=dH S;qr (d0 (off':=0+a1.cq.toNat*1) X X uZ Z3 k.1 k.2.1 X)<|gS<|lz H λJ T H=>bL 1 X X X Z3 (vs:=[iv (ap (a1.cb+(1:Int)))]) X X X (cs':=enc J) (by rw[<-T];exact(Pj (hU (s:=1) (x:=a4) X k.2.2 (cC (vs:=[iv (ap (a1.cb+(1:Int)))]) X))).off O) X<|al<|bD ?_
   .refine aD X z<|I<|U X<|G ?_;obtain rfl:=si H;replace H:=nX;obtain rfl:=si H;exact aM<|ba<|cg<|ba<|be X (ay X) fJ (ai rl) ⟨X,X⟩
   exact aw J fl cy X (si H)
  .refine aB X A<|I<|U X<|G ?_;obtain rfl:=si H;replace H:=nX;obtain rfl:=si H;exact aM<|cg<|ba<|be X (ay X) fJ (ai rl) ⟨X,X⟩
  obtain⟨ao,H,EI⟩:=bs H;refine nI (σ:=Bool) 12 (λf=>[(0,pv d 0),(3,pv b2 0),(63,.bool f)]) (λf=>f=ao) ?_ ?_
  .refine iz H (λa H=>?_) λa H=>qg a (av X)<|qg a (ar 2 X dS X Z3 X X)<|qg a (ax (i:=0) X X I3 (v:=iv a1.cq) ((jp ag).off X))<|qg a (bP X)<|qg a (ar 0 X u2 X BG X X)<|bz H λC aa H=>have m:=dH aa;qg a (d0 (off':=0+a1.cq.toNat*1) X X uZ Z3 m.1 m.2.1 X)<|qg a (ax (i:=1) X X I3 (v:=iv C) ((Ha (eH (s:=1) (x:=C) X m.2.2 ag)).off O))<|qg a (ar 0 X dS X Z3 X X)<|qg a (ax (i:=0) X X I3 (v:=iv a1.cb) ((jq ag).off X))<|qg a (cp X X)<|qg a (cx X X)<|qr (cd X a X) ?_
   .exact cR X a<|cR X a<|cR X a<|cR X a<|cR X a<|cR X a<|cR X a<|cR X a<|cR X a<|cR X a<|cR X a<|qr (cf X a X)<|iH true e0 (si H)
   exact iH (C==(ap (a1.cb+(1:Int)))) e0 (si H)
  rintro f hy;subst hy;refine nH (e':=[(0,pv d 0),(3,pv b2 0),(63,.bool f)]) e0 ?_;replace H:=EI;refine qr (av X) ?_;obtain⟨a2,H,xN⟩:=bs H;refine nI (σ:=Bool) 11 (λh=>[(0,pv d 0),(3,pv b2 0),(75,.bool h)]) (λh=>h=a2) ?_ ?_
  .refine iz H (λb H=>?_) λb H=>qg b (av X)<|qg b (ar 2 X dS X Z3 X X)<|qg b (ax (i:=0) X X I3 (v:=iv a1.cq) ((jp ag).off X))<|qg b (ar 0 X dS X Z3 X X)<|qg b (ax (i:=0) X X I3 (v:=iv a1.cb) ((jq ag).off X))<|qg b (bP X)<|qg b (ar 30 X u2 X JV X X)<|bz H λa5 ad H=>have n:=dH ad;qg b (d0 (off':=30+a1.cq.toNat*6) X X JM JU n.1 n.2.1 X)<|bz H λD ae H=>have o:=dH ae;qg b (d0 (off':=30+a1.cq.toNat*6+a1.cb.toNat*1) X X JL Z4 o.1 o.2.1 X)<|qg b (ax (i:=1) X X I4 (v:=.bool D) ((Pi (eH (s:=6) (x:=a5) X n.2.2 (eH (s:=1) (x:=D) X o.2.2 ag))).off O))<|qr (cd X b X) ?_
   .exact cR X b<|cR X b<|cR X b<|cR X b<|cR X b<|cR X b<|cR X b<|cR X b<|cR X b<|cR X b<|qr (cf X b X)<|iH true e0 (si H)
   exact iH D e0 (si H)
  rintro h hy;subst hy;refine nH (e':=[(0,pv d 0),(3,pv b2 0),(75,.bool h)]) e0 ?_;replace H:=xN;refine gR<|am<|iz H (λB H=>?_) λB H=>aB X B<|aQ<|am<|gV 9 az az<|qr (av X)<|qr (ar 2 X dS X Z3 X X)<|qr (ax (i:=0) X X I3 (v:=iv a1.cq) ((jp ag).off X))<|qr (ar 0 X dS X Z3 X X)<|qr (ax (i:=0) X X I3 (v:=iv a1.cb) ((jq ag).off X))<|qr (bP X)<|qr (ar 30 X u2 X JV X X)<|bz H λa6 af H=>have p:=dH af;qr (d0 (off':=30+a1.cq.toNat*6) X X JM JU p.1 p.2.1 X)<|bz H λa7 ah H=>have q:=dH ah;qr (d0 (off':=30+a1.cq.toNat*6+a1.cb.toNat*1) X X JL Z4 q.1 q.2.1 X)<|gS<|lz H λK ak H=>bL 1 X X X Z4 (vs:=[.bool true]) X X X (cs':=enc K) (by rw[<-ak];exact(Pk (hU (s:=6) (x:=a6) X p.2.2 (hU (s:=1) (x:=a7) X q.2.2 (cC (vs:=[.bool true]) X)))).off O) X<|al<|bD ?_
  .refine aD X B<|I<|U X<|G ?_;obtain rfl:=si H;replace H:=nX;obtain rfl:=si H;exact aM<|ba<|cg<|ba<|be X (ay X) fJ (ai rl) ⟨X,X⟩
  exact aw K fl cy X (si H)
 rintro QA e Gb hy;subst hy;replace H:=nX;refine I<|U X<|G ?_;obtain rfl:=si H;exact aM<|be X (ay X) (ft fJ Gb) (ai rl) ⟨X,X⟩
theorem N8{a0 f r}(H:w7 a0=some r)(a:M.Sublist L)(b:Rd W F M f a0):Ok Tryz.prog W 67 [Sl.v f] F (L) (Is (iv r) (L)):=by
 unfold w7 at H;refine bK 25 Tryz.func67 X<|I<|U X<|G<|aj<|I<|Z X<|lr (bR (α:=aT) (xs:=a0) ab X X gn (b.mono fl a))<|lr (dx X X)<|G<|iz H (λc H=>?_) λc H=>aB X c<|aQ<|am<|I<|lr (de (v:=.agg (enc f7.zero).toArray) (pv:=[]) cy (λw=>by kernel_rfl)) ?_
 .refine aD X c<|I<|U X<|G ?_;obtain rfl:=si H;exact aM<|ba<|be X (ay X) fl rl ⟨X,X⟩
 refine fy X X ab X (cs:=enc f7.zero) X (λb2=>?_);refine U X<|G<|aj<|I<|Z X<|lr (bR (α:=aT) (xs:=a0) ab X X gn (b.mono fl (ai a)))<|Z X<|G<|bn ?_;refine dB (dE (α:=aT) (xs:=a0) ab (b.mono fl (ai a))) (λVK=>?_);obtain⟨l,H,oY⟩:=dT H;refine cF (σ:=Nat×Nat×f7) (λ(i4,k4,y5)=>[(3,pv b2 0),(12,Sl.v f),(13,iv (a0.length:Int)),(14,iv (i4:Int))]) (λ(i4,k4,y5)=>(.ak b2 (enc y5) 182)::L) (λ_=>(λ(i4,k4,y5)=>cM (DV a0) k4 i4 y5=some l/\i4+k4=a0.length)) (λ(i4,k4,y5)=>k4) (0,a0.length,f7.zero) e0 X ⟨H,by omega⟩ ?_;rintro F6 ⟨i4,k4,y5⟩ d4 ⟨H,p⟩;rcases k4 with _|k4
 .have e:decide ((i4:Int)<(a0.length:Int))=false:=cX O;replace H:=iK H;refine I<|lr (bp X X)<|G<|aj<|aB X e<|ct<|bt<|bt<|cu ?_;subst H;replace H:=oY;refine am<|I<|U X<|G ?_;obtain rfl:=si H;exact aM<|be X (ay X) d4 (ai rl) ⟨X,X⟩
 have e:decide ((i4:Int)<(a0.length:Int))=true:=dc O;obtain⟨c4,H,j,o,k⟩:=iL H;unfold DV at H
 try dsimp only at H
 refine I<|lr (bp X X)<|G<|aj<|aD X e<|aQ<|am<|aj<|bn<|I<|bz H λx8 h9 H=>have g10:=bU h9;lr (bX (α:=aT) (xs:=a0) X X gn eL X ab (b.mono d4 (ai a)) g10.1 g10.2.1)<|lr (ij (α:=aT) X (b.mono d4 (ai a)) jV eL (ch:=enc x8) el ab ((bF (s:=3) (x:=x8) X g10.2.2 ag).off O)) ?_
 refine cY (cs:=enc aT.zero) X X ab Tryz.zeroValue98 X (λn=>?_);refine bL 0 X X X eL (vs:=enc x8) X el (an.one _) (cs':=enc x8) ci X<|aU<|Z X<|lr (dN (i:=0) X X jV eL (ch:=enc x8) el ag)<|bz H λm h H=>lf 1 X ?_;refine cl X e0 Tryz.call120 (ab8 h (ai a)) (λuN L' v fJ hv=>?_);obtain⟨rfl,rfl⟩:=hv;refine U X<|aU<|Z X<|lr (eM X X)<|G<|iz H (λd H=>?_) λd H=>aB X d<|aQ<|bD<|am<|bg<|lr (cD O X X)<|Z X<|al<|dd (cn (ai rl)) ?_
 .refine aD X d<|I<|Z X<|U X<|G ?_;have H:=k _ (sj H);subst H;replace H:=oY;obtain rfl:=si H;exact aM<|cg<|ba<|ba<|cg<|ba<|be X (ay X) (ft d4 fJ) (au rl) ⟨X,X⟩
 exact aw (i4+1,k4,m.1) (ft d4 fJ) e0 X ⟨⟨j _ (sj H),by omega⟩,bW⟩
theorem ab7{a0 n r}(H:oT a0=some r)(l:M.Sublist L)(m:Rd W F M n a0):Ok Tryz.prog W 29 [Sl.v n] F (L) (λ_ L' v=>∃(s1:Sl),v=.tuple #[Sl.v s1,iv r.2]/\L'=(.own s1 3 1 (aa r.1))::L):=by
 let T0:Item:=.own Sl.nil 3 1 (aa ([]:List Int));unfold oT at H;refine bK 54 Tryz.func29 X<|I<|cL 3 1<|U X<|U X<|G<|aj<|I<|Z X<|bz H λr2 h3 H=>bH X e0 Tryz.call67 (N8 h3 (ai l) (m.mono fl rl))<|U X<|aU<|Z X<|lr (eM X X)<|G<|iz H (λA H=>?_) λA H=>aB X A<|aQ<|am<|I<|cL 3 1<|U X<|aU ?_
 .refine aD X A<|I<|Z X<|cL 3 1<|U X<|U X<|G ?_;obtain rfl:=si H;exact aM<|ba<|da X (ay X) (ay X) fl (cn (ai rl)) ⟨Sl.nil,X,X⟩
 refine cY (cs:=enc (Vector.replicate 6 (0:Int))) X X ab Tryz.zeroValue81 X (λb9=>?_);refine aU ?_;refine cY (cs:=enc (Vector.replicate 30 (0:Int))) X X ab Tryz.zeroValue122 X (λj=>?_);refine G<|aj<|I<|Z X<|lr (bR (α:=aT) (xs:=a0) ab X X gn (m.mono fl (bA l)))<|Z X<|G<|bn ?_;refine dB (dE (α:=aT) (xs:=a0) ab (m.mono fl (bA l))) (λVQ=>?_);obtain⟨af,H,rp⟩:=bs H;refine cF (σ:=Nat×Nat×(Vector Int 30)×(Vector Int 6)×Sl×(List Int)) (λ(i13,d,f,h,c,e)=>[(5,Sl.v c),(6,pv b9 0),(7,pv j 0),(16,Sl.v n),(17,iv (a0.length:Int)),(18,iv (i13:Int))]) (λ(i13,d,f,h,c,e)=>(.ak j (enc f) 122)::(.ak b9 (enc h) 81)::(.own c 3 1 (aa e))::T0::L) (λ_=>(λ(i13,d,f,h,c,e)=>bC (AO a0) d i13 (f,h,e)=some af/\i13+d=a0.length)) (λ(i13,d,f,h,c,e)=>d) (0,a0.length,(Vector.replicate 30 (0:Int)),(Vector.replicate 6 (0:Int)),Sl.nil,([]:List Int)) e0 X ⟨H,by omega⟩ ?_;rintro ne ⟨i13,d,f,h,c,e⟩ dQ ⟨H,av⟩;rcases d with _|d
 .have B:decide ((i13:Int)<(a0.length:Int))=false:=cX O;replace H:=ee H;refine I<|lr (bp X X)<|G<|aj<|aB X B<|ct<|bt<|bt<|cu ?_;subst H;replace H:=rp;refine am<|I<|Z X<|U X<|U X<|G ?_;obtain rfl:=si H;exact aM<|da X (ay X) (ay X) dQ (au (cn (ai rl))) ⟨c,X,X⟩
 have B:decide ((i13:Int)<(a0.length:Int))=true:=dc O;obtain⟨aq,H,V⟩:=ef H;unfold AO at H
 try dsimp only at H
 refine I<|lr (bp X X)<|G<|aj<|aD X B<|aQ<|am<|aj<|bn<|I<|bz H λa J H=>have g22:=bU J;lr (bX (α:=aT) (xs:=a0) X X gn eL X ab (m.mono dQ (bA l)) g22.1 g22.2.1)<|lr (ij (α:=aT) X (m.mono dQ (bA l)) jV eL (ch:=enc a) el ab ((bF (s:=3) (x:=a) X g22.2.2 ag).off O)) ?_
 refine cY (cs:=enc aT.zero) X X ab Tryz.zeroValue98 X (λp=>?_);refine bL 0 X X X eL (vs:=enc a) X el (an.one _) (cs':=enc a) ci X<|aU<|lr (ar 0 X dS X Z3 X X)<|lr (ax (i:=0) X X I3 (v:=iv a.cb) ((jq ag).off X))<|bz H λo K H=>have q:=dH K;lr (d0 (off':=0+a.cb.toNat*1) X X JP Z3 q.1 q.2.1 X)<|lr (ax (i:=2) X X I3 (v:=iv o) ((eH (s:=1) (x:=o) X q.2.2 ag).off O))<|U X<|G ?_
 obtain⟨ad,H,EG⟩:=bs H;refine ix (σ:=Int) (λb=>[(5,Sl.v c),(6,pv b9 0),(7,pv j 0),(9,pv p 0),(10,iv b),(16,Sl.v n),(17,iv (a0.length:Int)),(18,iv (i13:Int))]) (λb=>(.ak p (enc a) 98)::(.ak j (enc f) 122)::(.ak b9 (enc h) 81)::(.own c 3 1 (aa e))::T0::L) (λ_ b=>b=ad) ?_ ?_
 .refine I<|lr (ar 1 X dS X Z3 X X)<|lr (ax (i:=0) X X I3 (v:=iv a.aX) ((mr ag).off X))<|lr (cx X X)<|G<|iy H (λy H=>?_) λy H=>aD X y<|bg<|Z X<|lr (ar 2 X dS X Z3 X X)<|lr (ax (i:=0) X X I3 (v:=iv a.cq) ((jp ag).off X))<|bz H λD N H=>have t:=dH N;lr (d0 (off':=0+a.cq.toNat*1) X X uZ Z3 t.1 t.2.1 X)<|lr (ax (i:=1) X X I3 (v:=iv D) ((eH (s:=1) (x:=D) X t.2.2 ag).off O))<|lr (nM X X)<|U X<|al ?_
  .exact aB X y<|aQ<|aw o fl e0 X (si H)
  exact aw (max o D) fl e0 X (si H)
 rintro sS b jd hy;subst hy;replace H:=EG;refine I<|Z X<|lr (cp X X)<|U X<|aU<|lr (ar 0 X dS X Z3 X X)<|lr (ax (i:=0) X X I3 (v:=iv a.cb) ((jq ag).off X))<|Z X<|bz H λak P H=>have u:=dH P;lr (d0 (off':=0+a.cb.toNat*1) X X JP Z3 u.1 u.2.1 X)<|lz H λC Q H=>bL 2 X X X Z3 (vs:=[iv (ap (b+(1:Int)))]) X X X (cs':=enc C) (by(try dsimp+zetaDelta only);rw[<-Q];exact(hU (s:=1) (x:=ak) X u.2.2 (cC (vs:=[iv (ap (b+(1:Int)))]) X)).off O) X<|G ?_
 obtain⟨ae,H,xN⟩:=bs H;refine ix (σ:=(Vector Int 30)) (λk=>[(5,Sl.v c),(6,pv b9 0),(7,pv j 0),(10,iv (ap (b+(1:Int)))),(16,Sl.v n),(17,iv (a0.length:Int)),(18,iv (i13:Int))]) (λk=>(.ak p (enc a) 98)::(.ak j (enc k) 122)::(.ak b9 (enc C) 81)::(.own c 3 1 (aa e))::T0::L) (λ_ k=>k=ae) ?_ ?_
 .refine I<|lr (ar 1 X dS X Z3 X X)<|lr (ax (i:=0) X X I3 (v:=iv a.aX) ((mr ag).off X))<|lr (cx X X)<|G<|iy H (λz H=>?_) λz H=>aD X z<|bg<|lr (ar 2 X dS X Z3 X X)<|lr (ax (i:=0) X X I3 (v:=iv a.cq) ((jp ag).off X))<|Z X<|bz H λao R H=>have w:=dH R;lr (d0 (off':=0+a.cq.toNat*1) X X uZ Z3 w.1 w.2.1 X)<|lz H λE S H=>bL 1 X X X Z3 (vs:=[iv (ap (b+(1:Int)))]) X X X (cs':=enc E) (by(try dsimp+zetaDelta only);rw[<-S];exact(hU (s:=1) (x:=ao) X w.2.2 (cC (vs:=[iv (ap (b+(1:Int)))]) X)).off O) X<|al ?_
  .exact aB X z<|aQ<|aw f fl e0 X (si H)
  exact aw E fl e0 X (si H)
 rintro Qy k Ga hy;subst hy;replace H:=xN;refine bg<|Z X<|Z X ?_;refine dW (α:=Int) (xs:=([ap (b+(1:Int))]:List Int)) (pv:=[(0,iv (ap (b+(1:Int))))]) X X ab e0 (dY (α:=Int) (z0:=(0:Int)) (xs:=([ap (b+(1:Int))]:List Int)) cS Z3 Tryz.zeroValue3 X X X ab X (eF X X)) X X ab (λaz _=>?_);obtain⟨a1,T,H⟩:=bs H;refine ed (i:=4) (α:=Int) (xs:=e) (ys:=([ap (b+(1:Int))]:List Int)) X X ab X X cS Tryz.typeInfo3 X X X X X X (aC 0 X X X) X (cZ T) X (λah=>?_);exact U X<|al<|bD<|am<|bg<|lr (cD O X X)<|Z X<|al<|dd (au rl)<|aw (i13+1,d,k,C,ah,e++([ap (b+(1:Int))]:List Int)) (ft (ft dQ jd) Ga) e0 X ⟨⟨V _ (sj H),by omega⟩,bW⟩
theorem gL{a0 r}(H:gB a0=some r)(b:M.Sublist L):lE Tryz.prog W 31 [iv a0] F (L) 23 (r) (λ_ L' v=>v=.tuple #[]/\L'=L):=by
 unfold gB at H;refine qD (m:=1) (n:=6) Tryz.func31 X X X ab<|pK (e':=[(0,iv a0)]) X<|I<|Z X<|lr (eM X X)<|G<|iz H (λa H=>?_) λa H=>aB X a<|aQ ?_
 .refine aD X a<|bg<|Z X<|lr (rZ X ru) ?_;obtain rfl:=si H;exact tV X X<|fb a fl rl ⟨X,X⟩
 obtain rfl:=si H;exact j9 (.inr X) X<|iG (.inr X) X fl rl ⟨X,X⟩
theorem BQ{a0 a r}(H:qd a0=some r)(b:M.Sublist L)(hT:fA Tryz.prog W)(zD:Rd W F M a a0):Ok Tryz.prog W 32 [Sl.v a] F L (Is (Y.v r) L):=Wa H hT (zD.mono fl b)
theorem acF{a0 a1 r}(H:xj a0 a1=some r)(n:M.Sublist L):Ok Tryz.prog W 72 [.agg (enc a0).toArray,.agg (enc a1).toArray] F (L) (Is (.agg (enc r).toArray) (L)):=by
 unfold xj at H;refine bK 20 Tryz.func72 X<|I ?_;refine fy X X ab X (cs:=enc a0) X (λb1=>?_);refine fy X X ab X (cs:=enc a1) X (λb3=>?_);refine cY (cs:=enc (Vector.replicate 6 (0:Int))) X X ab Tryz.zeroValue82 X (λb5=>?_);refine G<|aj<|I<|Z X<|G<|bn ?_;obtain⟨l,H,ly⟩:=bs H;refine cF (σ:=Nat×Nat×(Vector Int 6)) (λ(i7,k7,y8)=>[(2,pv b1 0),(3,pv b3 0),(4,pv b5 0),(6,iv (i7:Int))]) (λ(i7,k7,y8)=>(.ak b5 (enc (Vector.replicate 6 (0:Int))) 82)::(.ak b3 (enc a1) 82)::(.ak b1 (enc y8) 82)::L) (λ_=>(λ(i7,k7,y8)=>bC (D9 a1) k7 i7 y8=some l/\i7+k7=6)) (λ(i7,k7,y8)=>k7) (0,6,a0) e0 X ⟨H,by omega⟩ ?_;rintro F9 ⟨i7,k7,y8⟩ ex ⟨H,o⟩;rcases k7 with _|k7
 .have c:decide ((i7:Int)<(6:Int))=false:=cX O;replace H:=ee H;refine I<|lr (bp X X)<|G<|aj<|aB X c<|ct<|bt<|bt<|cu ?_;subst H;replace H:=ly;refine am<|I<|lr (dN (i:=2) X X p5 gy (ch:=enc y8) el ag)<|bL 0 X X X gy (vs:=enc y8) X el (an.one _) (cs':=enc y8) ci X<|G ?_;obtain rfl:=si H;exact aM<|be X (dZ (i:=0) X X p5 gy el) ex (ai (au rl)) ⟨X,X⟩
 have c:decide ((i7:Int)<(6:Int))=true:=dc O;obtain⟨c7,H,k⟩:=ef H;unfold D9 at H
 try dsimp only at H
 exact I<|lr (bp X X)<|G<|aj<|aD X c<|aQ<|am<|aj<|bn<|I<|Z X<|U X<|G<|gV 9 az az<|qr (av X)<|qr (av X)<|bz H λa e H=>have g13:=dH e;qr (d0 (off':=0+(i7:Int).toNat*1) X X k0 Z3 g13.1 g13.2.1 X)<|qr (ax (i:=2) X X I3 (v:=iv a) ((eH (s:=1) (x:=a) X g13.2.2 ag).off O))<|qr (av X)<|bz H λb f H=>have g16:=dH f;qr (d0 (off':=0+(i7:Int).toNat*1) X X k0 Z3 g16.1 g16.2.1 X)<|qr (ax (i:=1) X X I3 (v:=iv b) ((eH (s:=1) (x:=b) X g16.2.2 ag).off O))<|qr (nM X X)<|bz H λm h H=>have g19:=dH h;qr (d0 (off':=0+(i7:Int).toNat*1) X X k0 Z3 g19.1 g19.2.1 X)<|gS<|lz H λd j H=>bL 2 X X X Z3 (vs:=[iv (max a b)]) X X X (cs':=enc d) (by rw[<-j];exact(hU (s:=1) (x:=m) X g19.2.2 (cC (vs:=[iv (max a b)]) X)).off O) X<|al<|bD<|am<|bg<|lr (cD O X X)<|Z X<|al<|aw (i7+1,k7,d) ex e0 X ⟨⟨k _ (sj H),by omega⟩,bW⟩
theorem acG{a0 q r}(H:nS a0=some r)(m:M.Sublist L)(p:Rd W F M q a0):Ok Tryz.prog W 33 [Sl.v q] F (L) (λ_ L' v=>∃(s1:Sl),v=.tuple #[Sl.v s1,iv r.2]/\L'=(.own s1 82 6 (aa r.1))::L):=by
 let T0:Item:=.own Sl.nil 82 6 (aa ([]:List (Vector Int 6)));unfold nS at H;refine bK 66 Tryz.func33 X<|I<|cL 82 6<|U X<|U X<|G<|aj<|I<|Z X<|bz H λr2 h3 H=>bH X e0 Tryz.call67 (N8 h3 (ai m) (p.mono fl rl))<|U X<|aU<|Z X<|lr (eM X X)<|G<|iz H (λS H=>?_) λS H=>aB X S<|aQ<|am<|I<|cL 82 6<|U X<|aU ?_
 .refine aD X S<|I<|Z X<|cL 82 6<|U X<|U X<|G ?_;obtain rfl:=si H;exact aM<|ba<|da X (ay X) (ay X) fl (cn (ai rl)) ⟨Sl.nil,X,X⟩
 refine cY (cs:=enc (Vector.replicate 6 (0:Int))) X X ab Tryz.zeroValue82 X (λb9=>?_);refine aU ?_;refine cY (cs:=enc (Vector.replicate 6 (Vector.replicate 6 (0:Int)))) X X ab Tryz.zeroValue133 X (λk=>?_);refine aU ?_;refine cY (z:=.agg (enc (Vector.replicate 30 (Vector.replicate 6 (0:Int)))).toArray) (cs:=enc (Vector.replicate 30 (Vector.replicate 6 (0:Int)))) X X ab (λ_=>by kernel_rfl) X (λl=>?_);refine G<|aj<|I<|Z X<|lr (bR (α:=aT) (xs:=a0) ab X X gn (p.mono fl (bA (ai m))))<|Z X<|G<|bn ?_;refine dB (dE (α:=aT) (xs:=a0) ab (p.mono fl (bA (ai m)))) (λaeR=>?_);obtain⟨bi,H,xH⟩:=bs H;refine cF (σ:=Nat×Nat×(Vector (Vector Int 6) 30)×(Vector (Vector Int 6) 6)×(Vector Int 6)×Sl×(List (Vector Int 6))) (λ(i15,d,f,h,j,c,e)=>[(5,Sl.v c),(6,pv b9 0),(7,pv k 0),(8,pv l 0),(17,Sl.v q),(18,iv (a0.length:Int)),(19,iv (i15:Int))]) (λ(i15,d,f,h,j,c,e)=>(.ak l (enc f) 134)::(.ak k (enc h) 133)::(.ak b9 (enc j) 82)::(.own c 82 6 (aa e))::T0::L) (λ_=>(λ(i15,d,f,h,j,c,e)=>bC (AU a0) d i15 (f,h,j,e)=some bi/\i15+d=a0.length)) (λ(i15,d,f,h,j,c,e)=>d) (0,a0.length,(Vector.replicate 30 (Vector.replicate 6 (0:Int))),(Vector.replicate 6 (Vector.replicate 6 (0:Int))),(Vector.replicate 6 (0:Int)),Sl.nil,([]:List (Vector Int 6))) e0 X ⟨H,by omega⟩ ?_;rintro lY ⟨i15,d,f,h,j,c,e⟩ fK ⟨H,br⟩;rcases d with _|d
 .have V:decide ((i15:Int)<(a0.length:Int))=false:=cX O;replace H:=ee H;refine I<|lr (bp X X)<|G<|aj<|aB X V<|ct<|bt<|bt<|cu ?_;subst H;replace H:=xH;refine am<|I<|Z X<|U X<|U X<|G ?_;obtain rfl:=si H;exact aM<|da X (ay X) (ay X) fK (ai (au (cn (ai rl)))) ⟨c,X,X⟩
 have V:decide ((i15:Int)<(a0.length:Int))=true:=dc O;obtain⟨bq,H,be⟩:=ef H;unfold AU at H
 try dsimp only at H
 refine I<|lr (bp X X)<|G<|aj<|aD X V<|aQ<|am<|aj<|bn<|I<|bz H λa ao H=>have B:=bU ao;lr (bX (α:=aT) (xs:=a0) X X gn eL X ab (p.mono fK (bA (ai m))) B.1 B.2.1)<|lr (ij (α:=aT) X (p.mono fK (bA (ai m))) jV eL (ch:=enc a) el ab ((bF (s:=3) (x:=a) X B.2.2 ag).off O)) ?_
 refine cY (cs:=enc aT.zero) X X ab Tryz.zeroValue98 X (λA=>?_);refine bL 0 X X X eL (vs:=enc a) X el (an.one _) (cs':=enc a) ci X<|aU<|lr (ar 0 X dS X Z3 X X)<|lr (ax (i:=0) X X I3 (v:=iv a.cb) ((jq ag).off X))<|bz H λn aq H=>have C:=dH aq;lr (d0 (off':=0+a.cb.toNat*6) X X JJ gy C.1 C.2.1 X)<|lr (dN (i:=2) X X p5 gy (ch:=enc n) el ((eH (s:=6) (x:=n) X C.2.2 ag).off O)) ?_
 refine cY (cs:=enc (Vector.replicate 6 (0:Int))) X X ab Tryz.zeroValue82 X (λu=>?_);refine bL 0 X X X gy (vs:=enc n) X el (an.one _) (cs':=enc n) ci X<|G ?_;obtain⟨bf,H,Rv⟩:=bs H;refine ix (σ:=(Vector Int 6)) (λt=>[(5,Sl.v c),(6,pv b9 0),(7,pv k 0),(8,pv l 0),(10,pv A 0),(11,pv u 0),(17,Sl.v q),(18,iv (a0.length:Int)),(19,iv (i15:Int))]) (λt=>(.ak u (enc t) 82)::(.ak A (enc a) 98)::(.ak l (enc f) 134)::(.ak k (enc h) 133)::(.ak b9 (enc j) 82)::(.own c 82 6 (aa e))::T0::L) (λ_ t=>t=bf) ?_ ?_
 .refine I<|lr (ar 1 X dS X Z3 X X)<|lr (ax (i:=1) X X I3 (v:=iv a.aX) ((mr ag).off X))<|lr (cx X X)<|G<|iy H (λR H=>?_) λR H=>aD X R<|gV 6 az az<|qr (dN (i:=0) X X p5 gy (ch:=enc n) el ag)<|qr (ar 2 X dS X Z3 X X)<|qr (ax (i:=1) X X I3 (v:=iv a.cq) ((jp ag).off X))<|bz H λak av H=>have D:=dH av;qr (d0 (off':=0+a.cq.toNat*6) X X JK gy D.1 D.2.1 X)<|qr (dN (i:=2) X X p5 gy (ch:=enc ak) el ((eH (s:=6) (x:=ak) X D.2.2 ag).off O))<|bz H λaf a1 H=>gk X X ab e0 Tryz.call72 (acF a1 (bA (au (ai m))))<|gS<|bL 0 X X X gy (vs:=enc af) X el (an.one _) (cs':=enc af) ci X<|al ?_
  .exact aB X R<|aQ<|aw n fl e0 X (si H)
  exact aw af fl e0 X (si H)
 rintro Es t qh hy;subst hy;replace H:=Rv;refine I<|lr (ar 0 X dS X Z3 X X)<|lr (ax (i:=1) X X I3 (v:=iv a.cb) ((jq ag).off X))<|bz H λw a2 H=>have E:=dH a2;lr (d0 (off':=0+a.cb.toNat*1) X X k0 Z3 E.1 E.2.1 X)<|lr (ax (i:=4) X X I3 (v:=iv w) ((eH (s:=1) (x:=w) X E.2.2 ag).off O))<|lr (cp X X)<|bz H λbk a3 H=>have J:=dH a3;lr (d0 (off':=0+a.cb.toNat*1) X X k0 Z3 J.1 J.2.1 X)<|lz H λad a4 H=>bL 4 X X X Z3 (vs:=[iv (ap (w+(1:Int)))]) X X X (cs':=enc ad) (by(try dsimp+zetaDelta only);rw[<-a4];exact(hU (s:=1) (x:=bk) X J.2.2 (cC (vs:=[iv (ap (w+(1:Int)))]) X)).off O) X<|G<|aj<|gV 7 az az<|qr (ar 0 X dS X Z3 X X)<|qr (ax (i:=1) X X I3 (v:=iv a.cb) ((jq ag).off X))<|qr (ar 0 X dS X Z3 X X)<|qr (ax (i:=1) X X I3 (v:=iv a.cb) ((jq ag).off X))<|bz H λy a5 H=>have K:=dH a5;qr (d0 (off':=0+a.cb.toNat*1) X X k0 Z3 K.1 K.2.1 X)<|qr (ax (i:=4) X X I3 (v:=iv y) ((eH (s:=1) (x:=y) X K.2.2 ag).off O))<|bz H λbl a6 H=>have N:=dH a6;qr (d0 (off':=0+a.cb.toNat*1) X X k0 Z3 N.1 N.2.1 X)<|gS<|lz H λb a7 H=>bL 0 X X X Z3 (vs:=[iv y]) X X X (cs':=enc b) (by(try dsimp+zetaDelta only);rw[<-a7];exact(hU (s:=1) (x:=bl) X N.2.2 (cC (vs:=[iv y]) X)).off O) X<|aU<|lr (ar 0 X dS X Z3 X X)<|lr (ax (i:=1) X X I3 (v:=iv a.cb) ((jq ag).off X))<|lr (dN (i:=0) X X p5 gy (ch:=enc b) el ag)<|bz H λbm a8 H=>have P:=dH a8;lr (d0 (off':=0+a.cb.toNat*6) X X JJ gy P.1 P.2.1 X)<|lz H λae a9 H=>bL 3 X X X gy (vs:=enc b) X el (an.one _) (cs':=enc ae) (by(try dsimp+zetaDelta only);rw[<-a9];exact(hU (s:=6) (x:=bm) X P.2.2 ci).off O) X<|G ?_
 obtain⟨bh,H,RG⟩:=bs H;refine ix (σ:=(Vector (Vector Int 6) 30)) (λo=>[(5,Sl.v c),(6,pv b9 0),(7,pv k 0),(8,pv l 0),(11,pv u 0),(17,Sl.v q),(18,iv (a0.length:Int)),(19,iv (i15:Int))]) (λo=>(.ak u (enc b) 82)::(.ak A (enc a) 98)::(.ak l (enc o) 134)::(.ak k (enc ae) 133)::(.ak b9 (enc ad) 82)::(.own c 82 6 (aa e))::T0::L) (λ_ o=>o=bh) ?_ ?_
 .refine I<|lr (ar 1 X dS X Z3 X X)<|lr (ax (i:=1) X X I3 (v:=iv a.aX) ((mr ag).off X))<|lr (cx X X)<|G<|iy H (λT H=>?_) λT H=>aD X T<|bg<|lr (ar 2 X dS X Z3 X X)<|lr (ax (i:=1) X X I3 (v:=iv a.cq) ((jp ag).off X))<|lr (dN (i:=0) X X p5 gy (ch:=enc b) el ag)<|bz H λbo bb H=>have Q:=dH bb;lr (d0 (off':=0+a.cq.toNat*6) X X JK gy Q.1 Q.2.1 X)<|lz H λah bc H=>bL 2 X X X gy (vs:=enc b) X el (an.one _) (cs':=enc ah) (by(try dsimp+zetaDelta only);rw[<-bc];exact(hU (s:=6) (x:=bo) X Q.2.2 ci).off O) X<|al ?_
  .exact aB X T<|aQ<|aw f fl e0 X (si H)
  exact aw ah fl e0 X (si H)
 rintro I0 o ow hy;subst hy;replace H:=RG;refine bg<|Z X<|lr (dN (i:=0) X X p5 gy (ch:=enc b) el ag) ?_;refine dW (α:=Vector Int 6) (xs:=([b]:List (Vector Int 6))) (pv:=[(0,.agg (enc b).toArray)]) X X ab e0 (dY (α:=Vector Int 6) (z0:=(Vector.replicate 6 (0:Int))) (xs:=([b]:List (Vector Int 6))) p7 gy Tryz.zeroValue82 X X X ab X (eF X X)) X X ab (λbu _=>?_);obtain⟨bv,bd,H⟩:=bs H;refine ed (i:=6) (α:=Vector Int 6) (xs:=e) (ys:=([b]:List (Vector Int 6))) X X ab X X p7 Tryz.typeInfo82 X X X X X X (aC 0 X X X) X (cZ bd) X (λbj=>?_);exact U X<|al<|bD<|am<|bg<|lr (cD O X X)<|Z X<|al<|dd (ai (au rl))<|aw (i15+1,d,o,ae,ad,bj,e++([b]:List (Vector Int 6))) (ft (ft fK qh) ow) e0 X ⟨⟨be _ (sj H),by omega⟩,bW⟩
theorem BP{fu a0 e r}(H:pf fu a0=some r)(a:M.Sublist L)(d:Rd W F M e a0):lE Tryz.prog W 35 [Sl.v e] F (L) 23 (r.2) (λ_ L' v=>∃(s1:Sl),v=Sl.v s1/\L'=(.own s1 3 1 (aa r.1))::L):=by
 unfold pf at H;refine qD (m:=1) (n:=19) Tryz.func35 X X X ab<|pK (e':=[(0,Sl.v e)]) X<|I<|cL 3 1<|U X<|aU<|cL 3 1<|U X<|G<|aj<|I<|Z X<|lr (bR (α:=Y) (xs:=a0) ab X X bO (d.mono fl (au a)))<|Z X<|G<|bn ?_;refine dB (dE (α:=Y) (xs:=a0) ab (d.mono fl (au a))) (λLi=>?_);obtain⟨o,H,jU⟩:=dT H;refine cF (σ:=Nat×Nat×Sl×(List Int)) (λ(i3,k3,s4,l5)=>[(3,Sl.v s4),(6,Sl.v e),(7,iv (a0.length:Int)),(8,iv (i3:Int))]) (λ(i3,k3,s4,l5)=>(.own s4 3 1 (aa l5))::(.own Sl.nil 3 1 (aa ([]:List Int)))::L) (λ_=>(λ(i3,k3,s4,l5)=>cM (yf fu a0) k3 i3 l5=some o/\i3+k3=a0.length)) (λ(i3,k3,s4,l5)=>k3) (0,a0.length,Sl.nil,([]:List Int)) e0 X ⟨H,by omega⟩ ?_;rintro F6 ⟨i3,k3,s4,l5⟩ d4 ⟨H,t⟩;rcases k3 with _|k3
 .have f:decide ((i3:Int)<(a0.length:Int))=false:=cX O;replace H:=iK H;refine I<|lr (bp X X)<|G<|aj<|aB X f<|ct<|bt<|bt<|cu ?_;subst H;replace H:=jU;refine am<|I<|Z X<|U X<|G ?_;obtain rfl:=si H;exact aM<|j9 (.inl X) X<|be X (ay X) d4 (cn (ai rl)) ⟨s4,X,X⟩
 have f:decide ((i3:Int)<(a0.length:Int))=true:=dc O;obtain⟨c3,H,k,q,l⟩:=iL H;unfold yf at H
 try dsimp only at H
 refine I<|lr (bp X X)<|G<|aj<|aD X f<|aQ<|am<|aj<|bn<|I<|bz H λx8 h9 H=>have g10:=bU h9;lr (bX (α:=Y) (xs:=a0) X X bO Z9 X ab (d.mono d4 (au a)) g10.1 g10.2.1)<|lr (cE (α:=Y) X (d.mono d4 (au a)) I9 (v:=Y.v x8) ((bF (s:=1) (x:=x8) X g10.2.2 ag).off O))<|U X<|G<|bg<|Z X<|Z X<|bz H λb h H=>iz H (λc H=>?_) λc H=>?_
 .have H:=l _ (sj H);subst H;replace H:=jU;obtain rfl:=si H;refine fS c X e0 Tryz.call42 (jb h (au a)) (λpW L' v fW hv=>?_);obtain⟨rfl,rfl⟩:=hv;exact f5<|dD<|dD<|f5<|dD<|Pn.lG 3 1<|fb c (ft d4 fW) (cn (au rl)) ⟨Sl.nil,X,X⟩
 refine fO c X X ab e0 Tryz.call42 (jb h (au a)) (λpW L' v fW hv=>?_);obtain⟨rfl,rfl⟩:=hv;refine dW (α:=Int) (xs:=([b.1]:List Int)) (pv:=[(0,iv b.1)]) X X ab e0 (dY (α:=Int) (z0:=(0:Int)) (xs:=([b.1]:List Int)) cS Z3 Tryz.zeroValue3 X X X ab X (eF X X)) X X ab (λu _=>?_);obtain⟨w,j,H⟩:=bs H;refine ed (i:=1) (α:=Int) (xs:=l5) (ys:=([b.1]:List Int)) X X ab X X cS Tryz.typeInfo3 X X X X X X (aC 0 X X X) X (cZ j) X (λp=>?_);exact U X<|al<|bD<|am<|bg<|lr (cD O X X)<|Z X<|al<|dd (ai rl)<|aw (i3+1,k3,p,l5++([b.1]:List Int)) (ft d4 fW) e0 X ⟨⟨k _ (sj H),by omega⟩,bW⟩
theorem N2{a0 a1 e r}(H:wY a0 a1=some r)(a:M.Sublist L)(b:Rd W F M e a0):Ok Tryz.prog W 99 [Sl.v e,iv a1] F (L) (Is (iv r) (L)):=by
 unfold wY at H;refine bK 19 Tryz.func99 X<|I<|U X<|G<|aj<|I<|Z X<|lr (bR (α:=Int) (xs:=a0) ab X X cS (b.mono fl a))<|Z X<|G<|bn ?_;refine dB (dE (α:=Int) (xs:=a0) ab (b.mono fl a)) (λLn=>?_);obtain⟨i,H,f8⟩:=dT H;refine cF (σ:=Nat×Nat×Unit) (λ(i1,k1,_u)=>[(0,Sl.v e),(1,iv a1),(7,iv (a0.length:Int)),(8,iv (i1:Int))]) (λ(i1,k1,_u)=>L) (λ_=>(λ(i1,k1,_u)=>cM (DO a0 a1) k1 i1 ()=some i/\i1+k1=a0.length)) (λ(i1,k1,_u)=>k1) (0,a0.length,()) e0 X ⟨H,by omega⟩ ?_;rintro F2 ⟨i1,k1,_u⟩ fD ⟨H,k⟩;rcases k1 with _|k1
 .have d:decide ((i1:Int)<(a0.length:Int))=false:=cX O;replace H:=iK H;refine I<|lr (bp X X)<|G<|aj<|aB X d<|ct<|bt<|bt<|cu ?_;subst H;replace H:=f8;refine am<|I<|U X<|G ?_;obtain rfl:=si H;exact aM<|be X (ay X) fD rl ⟨X,X⟩
 have d:decide ((i1:Int)<(a0.length:Int))=true:=dc O;obtain⟨c1,H,f,j,h⟩:=iL H;unfold DO at H
 try dsimp only at H
 refine I<|lr (bp X X)<|G<|aj<|aD X d<|aQ<|am<|aj<|bn<|I<|Z X<|U X<|aU<|Z X<|Z X<|Z X<|bz H λx4 h5 H=>have g6:=bU h5;lr (bX (α:=Int) (xs:=a0) X X cS Z3 X ab (b.mono fD a) g6.1 g6.2.1)<|lr (cE (α:=Int) X (b.mono fD a) I3 (v:=iv x4) ((bF (s:=1) (x:=x4) X g6.2.2 ag).off O))<|lr (cx X X)<|G<|iz H (λc H=>?_) λc H=>aB X c<|aQ<|bD<|am<|bg<|lr (cD O X X)<|Z X<|al ?_
 .refine aD X c<|I<|Z X<|U X<|G ?_;have H:=h _ (sj H);subst H;replace H:=f8;obtain rfl:=si H;exact aM<|cg<|ba<|ba<|cg<|ba<|be X (ay X) fD rl ⟨X,X⟩
 exact aw (i1+1,k1,()) fD e0 X ⟨⟨f _ (sj H),by omega⟩,bW⟩
theorem abP{a0 a1 a r}(H:AC a0 a1=some r)(b:M.Sublist L)(c:Rd W F M a a0):Ok Tryz.prog W 124 [Sl.v a,iv a1] F (L) (Is (.bool r) (L)):=by unfold AC at H;refine bK 9 Tryz.func124 X<|I<|U X<|aU<|Z X<|Z X<|bz H λr1 h2 H=>bH X e0 Tryz.call99 (N2 h2 b (c.mono fl rl))<|lr (fT X X)<|U X<|G ?_;obtain rfl:=si H;exact aM<|be X (ay X) fl rl ⟨X,X⟩
theorem abi{a0 d r}(H:wL a0=some r)(b:M.Sublist L)(c:Rd W F M d a0):Ok Tryz.prog W 73 [Sl.v d] F (L) (Is (iv r) (L)):=by
 unfold wL at H;refine bK 34 Tryz.func73 X<|I<|U X<|G<|aj<|I<|Z X<|lr (bR (α:=Int) (xs:=a0) ab X X cS (c.mono fl b))<|lr (bp X X)<|Z X ?_;obtain⟨o1,H,gY⟩:=bs H;refine cG (σ:=Bool) 4 (λy2=>[(0,Sl.v d),(12,.bool y2)]) (λy2=>L) (λ_ y2=>y2=o1) ?_ ?_
 .refine iz H (λa H=>?_) λa H=>lg a (av X)<|lg a (bR (α:=Int) (xs:=a0) ab X X cS (c.mono fl b))<|lg a (dx X X)<|lr (cd X a X)<|al ?_
  .exact aq X a<|aq X a<|aq X a<|lr (cf X a X)<|al<|aw true fl e0 X (si H)
  exact aw (decide ((a0.length:Int)>(30:Int))) fl e0 X (si H)
 rintro F4 y2 dI hy;subst hy;replace H:=gY;refine G<|iz H (λm H=>?_) λm H=>aB X m<|aQ<|am<|aj<|I<|Z X<|lr (bR (α:=Int) (xs:=a0) ab X X cS (c.mono dI b))<|Z X<|G<|bn ?_
 .refine aD X m<|I<|U X<|G ?_;obtain rfl:=si H;exact aM<|ba<|be X (ay X) dI rl ⟨X,X⟩
 refine dB (dE (α:=Int) (xs:=a0) ab (c.mono dI b)) (λaeC=>?_);obtain⟨A,H,ly⟩:=dT H;refine cF (σ:=Nat×Nat×Unit) (λ(i7,k7,_u)=>[(0,Sl.v d),(13,Sl.v d),(14,iv (a0.length:Int)),(15,iv (i7:Int))]) (λ(i7,k7,_u)=>L) (λ_=>(λ(i7,k7,_u)=>cM (Ao a0) k7 i7 ()=some A/\i7+k7=a0.length)) (λ(i7,k7,_u)=>k7) (0,a0.length,()) e0 X ⟨H,by omega⟩ ?_;rintro F8 ⟨i7,k7,_u⟩ dw ⟨H,C⟩;rcases k7 with _|k7
 .have n:decide ((i7:Int)<(a0.length:Int))=false:=cX O;replace H:=iK H;refine I<|lr (bp X X)<|G<|aj<|aB X n<|ct<|bt<|bt<|cu ?_;subst H;replace H:=ly;refine am<|I<|U X<|G ?_;obtain rfl:=si H;exact aM<|be X (ay X) (ft dI dw) rl ⟨X,X⟩
 have n:decide ((i7:Int)<(a0.length:Int))=true:=dc O;obtain⟨c7,H,w,B,o⟩:=iL H;unfold Ao at H
 try dsimp only at H
 refine I<|lr (bp X X)<|G<|aj<|aD X n<|aQ<|am<|aj<|bn<|I<|Z X<|bz H λh q H=>have g12:=bU q;lr (bX (α:=Int) (xs:=a0) X X cS Z3 X ab (c.mono (ft dI dw) b) g12.1 g12.2.1)<|lr (cE (α:=Int) X (c.mono (ft dI dw) b) I3 (v:=iv h) ((bF (s:=1) (x:=h) X g12.2.2 ag).off O))<|U X<|U X<|G<|bn<|I<|Z X<|lr (bp X X)<|Z X ?_
 obtain⟨z,H,nW⟩:=bs H;refine cG (σ:=Bool) 3 (λf=>[(0,Sl.v d),(3,iv (i7:Int)),(4,iv h),(13,Sl.v d),(14,iv (a0.length:Int)),(15,iv (i7:Int)),(26,.bool f)]) (λf=>L) (λ_ f=>f=z) ?_ ?_
 .refine iz H (λe H=>?_) λe H=>lg e (av X)<|lg e (dx X X)<|lr (cd X e X)<|al ?_
  .exact aq X e<|aq X e<|lr (cf X e X)<|al<|aw true fl e0 X (si H)
  exact aw (decide (h>(16777215:Int))) fl e0 X (si H)
 rintro mB f dA hy;let T0:=ft (ft dI dw) dA;subst hy;replace H:=nW;refine U X<|G<|iz H (λk H=>?_) λk H=>aB X k<|I<|Z X<|Z X<|bz H λm19 t H=>?_
 .refine aD X k<|I<|U X<|G ?_;have H:=o _ (sj H);subst H;replace H:=ly;obtain rfl:=si H;exact aM<|cg<|cg<|ba<|ba<|cg<|ba<|be X (ay X) T0 rl ⟨X,X⟩
 obtain⟨g21,p⟩:=fQ t
 try dsimp only at g21
 have y:Rd W F M (d.cut (0:Int).toNat ((i7:Int):Int).toNat 1) m19:=by rw[<-p];exact hX ab c O O
 refine lr (fF (α:=Int) (xs:=a0) (i:=0) (j:=(i7:Int)) X X X cS Z3 X ab (c.mono T0 b) g21.1 g21.2.1 g21.2.2)<|Z X<|bz H λD u H=>bH X e0 Tryz.call124 (abP u b (y.mono T0 rl))<|U X<|G<|iz H (λl H=>?_) λl H=>aB X l<|aQ<|bD<|bD<|am<|bg<|lr (cD O X X)<|Z X<|al ?_
 .refine aD X l<|I<|U X<|G ?_;have H:=o _ (sj H);subst H;replace H:=ly;obtain rfl:=si H;exact aM<|cg<|cg<|ba<|ba<|cg<|ba<|be X (ay X) T0 rl ⟨X,X⟩
 exact aw (i7+1,k7,()) (ft dw dA) e0 X ⟨⟨w _ (sj H),by omega⟩,bW⟩
theorem XV{a0 a1 r}(H:CI a0 a1=some r)(a:M.Sublist L):Ok Tryz.prog W 177 [.int .u64 a0.toNat,.int .u64 a1.toNat] F (L) (Is (.tuple #[.int .u64 r.1.toNat,.int .u64 r.2.toNat]) (L)):=by unfold CI at H;refine bK 51 Tryz.func177 X<|I<|U X<|U X<|aU<|Z X<|lr (Ei (i:=a0) (j:=(4294967295:BitVec 64)) X X)<|U X<|aU<|Z X<|lr (v6 (i:=a0) (m:=32) X X)<|U X<|aU<|Z X<|lr (Ei (i:=a1) (j:=(4294967295:BitVec 64)) X X)<|U X<|aU<|Z X<|lr (v6 (i:=a1) (m:=32) X X)<|U X<|aU<|Z X<|Z X<|lr (xx (i:=a0&&&(4294967295:BitVec 64)) (j:=a1&&&(4294967295:BitVec 64)) X X)<|U X<|aU<|Z X<|Z X<|lr (xx (i:=a0>>>32) (j:=a1&&&(4294967295:BitVec 64)) X X)<|Z X<|lr (v6 (i:=(a0&&&(4294967295:BitVec 64))*(a1&&&(4294967295:BitVec 64))) (m:=32) X X)<|lr (Bi (i:=(a0>>>32)*(a1&&&(4294967295:BitVec 64))) (j:=((a0&&&(4294967295:BitVec 64))*(a1&&&(4294967295:BitVec 64)))>>>32) X X)<|U X<|aU<|Z X<|lr (Ei (i:=((a0>>>32)*(a1&&&(4294967295:BitVec 64)))+(((a0&&&(4294967295:BitVec 64))*(a1&&&(4294967295:BitVec 64)))>>>32)) (j:=(4294967295:BitVec 64)) X X)<|U X<|aU<|Z X<|lr (v6 (i:=((a0>>>32)*(a1&&&(4294967295:BitVec 64)))+(((a0&&&(4294967295:BitVec 64))*(a1&&&(4294967295:BitVec 64)))>>>32)) (m:=32) X X)<|U X<|aU<|Z X<|Z X<|Z X<|lr (xx (i:=a0&&&(4294967295:BitVec 64)) (j:=a1>>>32) X X)<|lr (Bi (i:=(((a0>>>32)*(a1&&&(4294967295:BitVec 64)))+(((a0&&&(4294967295:BitVec 64))*(a1&&&(4294967295:BitVec 64)))>>>32))&&&(4294967295:BitVec 64)) (j:=(a0&&&(4294967295:BitVec 64))*(a1>>>32)) X X)<|U X<|aU<|Z X<|Z X<|lr (xx (i:=a0>>>32) (j:=a1>>>32) X X)<|Z X<|lr (Bi (i:=(a0>>>32)*(a1>>>32)) (j:=(((a0>>>32)*(a1&&&(4294967295:BitVec 64)))+(((a0&&&(4294967295:BitVec 64))*(a1&&&(4294967295:BitVec 64)))>>>32))>>>32) X X) ?_;refine Z X<|lr (v6 (i:=((((a0>>>32)*(a1&&&(4294967295:BitVec 64)))+(((a0&&&(4294967295:BitVec 64))*(a1&&&(4294967295:BitVec 64)))>>>32))&&&(4294967295:BitVec 64))+((a0&&&(4294967295:BitVec 64))*(a1>>>32))) (m:=32) X X)<|lr (Bi (i:=((a0>>>32)*(a1>>>32))+((((a0>>>32)*(a1&&&(4294967295:BitVec 64)))+(((a0&&&(4294967295:BitVec 64))*(a1&&&(4294967295:BitVec 64)))>>>32))>>>32)) (j:=(((((a0>>>32)*(a1&&&(4294967295:BitVec 64)))+(((a0&&&(4294967295:BitVec 64))*(a1&&&(4294967295:BitVec 64)))>>>32))&&&(4294967295:BitVec 64))+((a0&&&(4294967295:BitVec 64))*(a1>>>32)))>>>32) X X)<|U X<|aU<|Z X<|Z X<|lr (xx (i:=a0) (j:=a1) X X)<|U X<|G ?_;obtain rfl:=si H;exact aM<|da X (ay X) (ay X) fl rl ⟨X,X⟩
theorem XW{a0 a1 r}(H:zv a0 a1=some r)(a:M.Sublist L):Ok Tryz.prog W 125 [.int .u64 a0.toNat,.int .u64 a1.toNat] F (L) (Is (.tuple #[.int .u64 r.1.toNat,.int .u64 r.2.toNat]) (L)):=by unfold zv at H;refine bK 30 Tryz.func125 X<|I<|U X<|U X<|G<|aj<|aB X X<|aQ<|am<|I<|Z X<|Z X<|bz H λr1 h2 H=>bH X e0 Tryz.call177 (XV h2 a)<|Z X<|lr (ck X X)<|lr (ck X X)<|U X<|U X<|aU<|Z X<|Z X<|U X<|U X<|G ?_;obtain rfl:=si H;exact aM<|da X (ay X) (ay X) fl rl ⟨X,X⟩
theorem ab4{fu a0 a1 u r}(H:AM fu a0 a1=some r)(s:M.Sublist L)(E:Rd W F M u a0):Ok Tryz.prog W 74 [Sl.v u,iv a1] F (L) (λ_ L' v=>∃(s1:Sl),v=Sl.v s1/\L'=(.own s1 4 1 (aa r))::L):=by
 let T0:Item:=.own Sl.nil 4 1 (aa ([]:List Bool));unfold AM at H;refine bK 48 Tryz.func74 X<|I<|cL 4 1<|U X<|G<|aj<|I<|Z X<|lr (bp X X)<|G<|iz H (λC H=>?_) λC H=>aB X C<|aQ<|am<|I<|Z X<|lr (bR (α:=Bool) (xs:=a0) ab X X jw (E.mono fl (ai s)))<|lr (Ek X U3 xR)<|Z X<|lr (Ek X U3 xR)<|bz H λr3 h4 H=>bH X e0 Tryz.call125 (XW h4 (ai s))<|Z X<|lr (ck X X)<|lr (ck X X)<|U X<|U X<|G<|aj<|I<|Z X<|lr (dx X X)<|Z X ?_
 .cases H
 obtain⟨o7,H,sV⟩:=bs H;refine cG (σ:=Bool) 3 (λy8=>[(0,Sl.v u),(6,.int .u64 r3.2.toNat),(26,.bool y8)]) (λy8=>T0::L) (λ_ y8=>y8=o7) ?_ ?_
 .refine iz H (λe H=>?_) λe H=>lg e (av X)<|lg e (dx X X)<|lr (cd X e X)<|al ?_
  .exact aq X e<|aq X e<|lr (cf X e X)<|al<|aw true fl e0 X (si H)
  exact aw (decide ((r3.2.toNat:Int)>((9223372036854775807:BitVec 64).toNat:Int))) fl e0 X (si H)
 rintro Em y8 mf hy;subst hy;replace H:=sV;refine G<|iz H (λB H=>?_) λB H=>aB X B<|aQ<|am<|I<|Z X<|lr (Ir X xR U3)<|bz H λn13 N H=>?_
 .cases H
 have g15:=pH N;refine qC (α:=Bool) (z0:=false) (k:=n13) X X ab (congrArg some (congrArg (Value.int .i64) g15.1)) (congrArg some (congrArg (Value.int .i64) g15.1)) jw Tryz.typeInfo4 X X X X X g15.2 X (λd=>?_);refine U X<|aU<|Z X<|Z X<|lz H λD P H=>R6 (i:=0) (α:=Bool) (xs:=(List.replicate n13 false)) (ys:=a0) X X ab X X jw Z4 X ab X X (E.mono mf (au s))<|gj (L':=(.own d 4 1 (aa D))::T0::L) (by(try dsimp+zetaDelta only);rw[<-P];rfl)<|U X<|G<|aj<|bn ?_;obtain⟨T,H,sU⟩:=dT H;refine cF (σ:=Nat×Int×(List Bool)) (λ(c,b,a)=>[(7,Sl.v d),(8,iv b)]) (λ(c,b,a)=>(.own d 4 1 (aa a))::T0::L) (λ_=>(λ(c,b,a)=>cw (DS) c (b,a)=some T)) (λ(c,b,a)=>c) (fu,oj 0 ((List.replicate n13 false).length) a0,D) e0 X H ?_;rintro sR ⟨c,b,a⟩ jc H;rcases c with _|c
 .cases H
 obtain⟨V,H,R,Q,af⟩:=ik H;unfold DS at H
 try dsimp only at H
 refine aj<|I<|Z X<|Z X<|lr (bR (α:=Bool) (xs:=a) ab X X jw (aC 0 X X X))<|lr (bp X X)<|G<|iy H (λt H=>?_) λt H=>aD X t<|aQ<|am<|bn<|bz H λag x H=>bz H λp y H=>lz H λq z H=>lz H λS A H=>ii (σ:=(List Bool)) 8 (λf=>[(7,Sl.v d),(8,iv b),(38,iv b),(45,iv (oj ((b:Int).toNat) (((a.length:Int):Int).toNat) p))]) (λf=>(.own d 4 1 (aa f))::T0::L) (λ_ f=>f=S) az az (gc az az az) az (λaL aH=>?_) ?_
 .refine aB X t<|ct<|bt<|bt<|cu ?_;have H:=Q _ (sj H);subst H;replace H:=sU;refine am<|I<|Z X<|U X<|G ?_;obtain rfl:=si H;exact aM<|be X (ay X) (ft mf jc) (cn (ai rl)) ⟨d,X,X⟩
 .refine dV (λw=>St W sR (T0::L) w) (λw h=>trivial)<|aP X aL aH 0 (ai rl) X (av X)<|aP X aL aH 1 (ai rl) X (av X)<|aP X aL aH 2 (ai rl) X (av X)<|aP X aL aH 4 (ai rl) X (av X)<|aP X aL aH 5 (ai rl) X (av X)<|lq [3,6] az X<|f4 (λinv=>?_) ?_
  .obtain⟨l,ad⟩:=fQ x
   try dsimp only at l
   refine lr (fF (α:=Bool) (xs:=a) (i:=b) (j:=(a.length:Int)) X X X jw Z4 X ab (aC 0 X X X) l.1 l.2.1 l.2.2)<|dz inv (ai rl) ?_;refine dh 6 (λinv=>?_);obtain⟨m,J⟩:=fQ y
   try dsimp only at m
   refine lr (fF (α:=Bool) (xs:=a) (i:=0) (j:=b) X X X jw Z4 X ab (aC 0 X X X) m.1 m.2.1 m.2.2)<|dz inv (ai rl) ?_;refine dh 7 (λinv=>?_);exact br.copy (i:=0) (α:=Bool) (lo:=((b:Int).toNat)) (hi:=(((a.length:Int):Int).toNat)) (xs:=a) (ys:=p) X X ab X X jw Z4 X ab X X (by rw[<-J];exact hX ab (aC 0 X X X) O O) O O<|gj (L':=(.own d 4 1 (aa q))::T0::L) (by(try dsimp+zetaDelta only);rw[<-z];rfl)<|dz inv (ai rl)<|e7 az<|eY q fl e0 X A
  refine f4 (λinv=>?_) cy;obtain⟨n,K⟩:=fQ y
  try dsimp only at n
  refine lr (fF (α:=Bool) (xs:=a) (i:=0) (j:=b) X X X jw Z4 X ab (aC 0 X X X) n.1 n.2.1 n.2.2)<|dz inv (ai rl) ?_;refine dh 3 (λinv=>?_);obtain⟨o,ae⟩:=fQ x
  try dsimp only at o
  refine lr (fF (α:=Bool) (xs:=a) (i:=b) (j:=(a.length:Int)) X X X jw Z4 X ab (aC 0 X X X) o.1 o.2.1 o.2.2)<|dz inv (ai rl) ?_;refine dh 7 (λinv=>?_);exact br.copy (i:=0) (α:=Bool) (lo:=((b:Int).toNat)) (hi:=(((a.length:Int):Int).toNat)) (xs:=a) (ys:=p) X X ab X X jw Z4 X ab X X (by rw[<-K];exact hX ab (aC 0 X X X) O O) O O<|gj (L':=(.own d 4 1 (aa q))::T0::L) (by(try dsimp+zetaDelta only);rw[<-z];rfl)<|dz inv (ai rl)<|e7 az<|eY q fl e0 X A
 rintro xC f kN hy;subst hy;exact lr (cp X X)<|U X<|al<|bD<|aw (c,ap (b+(oj ((b:Int).toNat) (((a.length:Int):Int).toNat) p)),f) (ft jc kN) e0 X ⟨R _ (sj H),bW⟩
theorem NJ{fu a0 a1 a2 a3 f r}(H:wO fu a0 a1 a2 a3=some r)(a:M.Sublist L)(b:Rd W F M f a0):Ok Tryz.prog W 75 [Sl.v f,iv a1,iv a2,iv a3] F (L) (Is (.tuple #[iv r.1,.bool r.2]) (L)):=by
 unfold wO at H;refine bK 49 Tryz.func75 X<|I<|U X<|U X<|aU<|Z X<|lr (bR (α:=Int) (xs:=a0) ab X X cS (b.mono fl a))<|U X<|G<|aj<|I<|U X<|G<|bn ?_;obtain⟨q,H,f8⟩:=dT H;refine cF (σ:=Nat×Int) (λ(k1,y2)=>[(0,Sl.v f),(1,iv a1),(2,iv a2),(3,iv a3),(10,iv (a0.length:Int)),(11,iv y2)]) (λ(k1,y2)=>L) (λ_=>(λ(k1,y2)=>cw (Dt a0 a1 a2 a3) k1 y2=some q)) (λ(k1,y2)=>k1) (fu,(1:Int)) e0 X H ?_;rintro F3 ⟨k1,y2⟩ d3 H;rcases k1 with _|k1
 .cases H
 obtain⟨c1,H,p,o,h⟩:=ik H;unfold Dt at H
 try dsimp only at H
 refine aj<|I<|Z X<|Z X<|lr (Ev.leq X X)<|G<|iy H (λe H=>?_) λe H=>aD X e<|aQ<|am<|aj<|bn<|I<|Z X<|Z X<|Z X<|lr (mX X X)<|lr (cp X X)<|Z X<|bz H λu6 h7 H=>lr (Ev.rem (i:=ap (a1+(ap (a2*y2)))) (j:=(a0.length:Int)) X X (G6 h7))<|Z X<|lr (cp X X)<|Z X<|bz H λu8 h9 H=>lr (Ev.rem (i:=ap (((ap (a1+(ap (a2*y2)))).tmod (a0.length:Int):Int)+(a0.length:Int))) (j:=(a0.length:Int)) X X (G6 h9))<|U X<|G<|bn<|I<|Z X<|Z X<|lr (cx X X)<|U X<|G<|iz H (λc H=>?_) λc H=>aB X c<|aj<|gU az az<|qr (av X)<|qr (av X)<|bz H λk m H=>have g13:=bU m;qr (bX (α:=Int) (xs:=a0) X X cS Z3 X ab (b.mono d3 a) g13.1 g13.2.1)<|qr (cE (α:=Int) X (b.mono d3 a) I3 (v:=iv k) ((bF (s:=1) (x:=k) X g13.2.2 ag).off O))<|qr (av X)<|qr (av X)<|bz H λl n H=>have g16:=bU n;qr (bX (α:=Int) (xs:=a0) X X cS Z3 X ab (b.mono d3 a) g16.1 g16.2.1)<|qr (cE (α:=Int) X (b.mono d3 a) I3 (v:=iv l) ((bF (s:=1) (x:=l) X g16.2.2 ag).off O))<|qr (dx X X)<|qr (iA X)<|gR<|am<|iz H (λd H=>?_) λd H=>?_
 .refine aB X e<|ct<|bt<|bt<|cu ?_;have H:=o _ (sj H);subst H;replace H:=f8;refine am<|I<|Z X<|lr (mX X X)<|U X<|U X<|G ?_;obtain rfl:=si H;exact aM<|da X (ay X) (ay X) d3 rl ⟨X,X⟩
 .refine aD X c<|I<|Z X<|U X<|U X<|G ?_;have H:=h _ (sj H);subst H;replace H:=f8;obtain rfl:=si H;exact aM<|cg<|cg<|ba<|ba<|cg<|ba<|da X (ay X) (ay X) d3 rl ⟨X,X⟩
 .refine aD X d<|I<|Z X<|U X<|U X<|G ?_;have H:=h _ (sj H);subst H;replace H:=f8;obtain rfl:=si H;exact aM<|cg<|cg<|ba<|ba<|cg<|ba<|da X (ay X) (ay X) d3 rl ⟨X,X⟩
 exact aB X d<|aQ<|bD<|bD<|am<|bg<|Z X<|lr (cp X X)<|U X<|al<|aw (k1,ap (y2+(1:Int))) d3 e0 X ⟨p _ (sj H),bW⟩
theorem ab0{a0 a1 e r}(H:wX a0 a1=some r)(a:M.Sublist L)(b:Rd W F M e a0):Ok Tryz.prog W 76 [Sl.v e,.bool a1] F (L) (Is (iv r) (L)):=by
 unfold wX at H;refine bK 19 Tryz.func76 X<|I<|U X<|G<|aj<|I<|Z X<|lr (bR (α:=Bool) (xs:=a0) ab X X jw (b.mono fl a))<|Z X<|G<|bn ?_;refine dB (dE (α:=Bool) (xs:=a0) ab (b.mono fl a)) (λLn=>?_);obtain⟨i,H,f8⟩:=dT H;refine cF (σ:=Nat×Nat×Unit) (λ(i1,k1,_u)=>[(0,Sl.v e),(1,.bool a1),(7,iv (a0.length:Int)),(8,iv (i1:Int))]) (λ(i1,k1,_u)=>L) (λ_=>(λ(i1,k1,_u)=>cM (DN a0 a1) k1 i1 ()=some i/\i1+k1=a0.length)) (λ(i1,k1,_u)=>k1) (0,a0.length,()) e0 X ⟨H,by omega⟩ ?_;rintro F2 ⟨i1,k1,_u⟩ fD ⟨H,k⟩;rcases k1 with _|k1
 .have d:decide ((i1:Int)<(a0.length:Int))=false:=cX O;replace H:=iK H;refine I<|lr (bp X X)<|G<|aj<|aB X d<|ct<|bt<|bt<|cu ?_;subst H;replace H:=f8;refine am<|I<|U X<|G ?_;obtain rfl:=si H;exact aM<|be X (ay X) fD rl ⟨X,X⟩
 have d:decide ((i1:Int)<(a0.length:Int))=true:=dc O;obtain⟨c1,H,f,j,h⟩:=iL H;unfold DN at H
 try dsimp only at H
 refine I<|lr (bp X X)<|G<|aj<|aD X d<|aQ<|am<|aj<|bn<|I<|Z X<|U X<|aU<|Z X<|Z X<|Z X<|bz H λx4 h5 H=>have g6:=bU h5;lr (bX (α:=Bool) (xs:=a0) X X jw Z4 X ab (b.mono fD a) g6.1 g6.2.1)<|lr (cE (α:=Bool) X (b.mono fD a) I4 (v:=.bool x4) ((bF (s:=1) (x:=x4) X g6.2.2 ag).off O))<|lr (PG X X U4)<|G<|iz H (λc H=>?_) λc H=>aB X c<|aQ<|bD<|am<|bg<|lr (cD O X X)<|Z X<|al ?_
 .refine aD X c<|I<|Z X<|U X<|G ?_;have H:=h _ (sj H);subst H;replace H:=f8;obtain rfl:=si H;exact aM<|cg<|ba<|ba<|cg<|ba<|be X (ay X) fD rl ⟨X,X⟩
 exact aw (i1+1,k1,()) fD e0 X ⟨⟨f _ (sj H),by omega⟩,bW⟩
theorem abj{fu a0 o r}(H:qS fu a0=some r)(l:M.Sublist L)(n:Rd W F M o a0):Ok Tryz.prog W 34 [Sl.v o] F (L) (Is (.tuple #[iv r.1,iv r.2.1,iv r.2.2]) (L)):=by
 unfold qS at H;refine bK 69 Tryz.func34 X<|I<|U X<|U X<|U X<|G<|aj<|I<|Z X<|bz H λr1 h2 H=>bH X e0 Tryz.call73 (abi h2 l (n.mono fl rl))<|U X<|aU<|Z X<|lr (eM X X)<|G<|iz H (λw H=>?_) λw H=>aB X w<|aQ<|am<|I ?_
 .refine aD X w<|I<|Z X<|U X<|U X<|U X<|G ?_;obtain rfl:=si H;exact aM<|ba<|oI X (ay X) (ay X) (ay X) fl rl ⟨X,X⟩
 refine dW (α:=Bool) (xs:=([true]:List Bool)) (pv:=[(0,.bool true)]) X X ab e0 (dY (α:=Bool) (z0:=false) (xs:=([true]:List Bool)) jw Z4 Tryz.zeroValue4 X X X ab X (eF X X)) X X ab (λs6 _=>?_);let T0:Item:=.own s6 4 1 (aa ([true]:List Bool));refine Z X<|lr (bR (α:=Int) (xs:=a0) ab X X cS (n.mono fl (ai l)))<|bz H λr8 h9 H=>?_;refine cl X e0 Tryz.call74 (ab4 h9 rl (aC 0 X X X)) (λri L' v hJ hv=>?_);obtain⟨d,rfl,rfl⟩:=hv;refine U X<|aU<|U X<|aU<|U X<|G<|bn ?_;obtain⟨V,H,xG⟩:=dT H;refine cF (σ:=Nat×Int×Int×(List Bool)) (λ(h,j,e,a)=>[(0,Sl.v o),(6,Sl.v d),(7,iv j),(8,iv e)]) (λ(h,j,e,a)=>(.own d 4 1 (aa a))::T0::L) (λ_=>(λ(h,j,e,a)=>cw (wM fu a0) h (j,e,a)=some V)) (λ(h,j,e,a)=>h) (fu,(0:Int),(1:Int),r8) e0 X H ?_;rintro ne ⟨h,j,e,a⟩ dQ H;rcases h with _|h
 .cases H
 obtain⟨af,H,R,ak,S⟩:=ik H;unfold wM at H
 try dsimp only at H
 refine aj<|bn<|aj<|I<|Z X<|lr (bR (α:=Bool) (xs:=a) ab X X jw (aC 0 X X X))<|Z X<|G<|bn ?_;refine dB (dE (α:=Bool) (xs:=a) ab (aC 0 X X X)) (λaeK=>?_);obtain⟨ad,H,sU⟩:=bs H;refine cF (σ:=Nat×Nat×Int×(List Bool)) (λ(i20,b,f,c)=>[(0,Sl.v o),(6,Sl.v d),(7,iv f),(8,iv e),(26,Sl.v d),(27,iv (a.length:Int)),(28,iv (i20:Int))]) (λ(i20,b,f,c)=>(.own d 4 1 (aa c))::T0::L) (λ_=>(λ(i20,b,f,c)=>bC (wN fu a0 e) b i20 (f,c)=some ad/\i20+b=a.length)) (λ(i20,b,f,c)=>b) (0,a.length,j,a) e0 X ⟨H,by omega⟩ ?_;rintro sR ⟨i20,b,f,c⟩ jc ⟨H,an⟩;let T1:=ft (ft hJ dQ) jc;rcases b with _|b
 .have y:decide ((i20:Int)<(a.length:Int))=false:=cX O;replace H:=ee H;refine I<|lr (bp X X)<|G<|aj<|aB X y<|ct<|bt<|bt<|cu ?_;subst H;replace H:=sU;refine am<|I<|Z X<|Z X<|lr (bR (α:=Int) (xs:=a0) ab X X cS (n.mono T1 (au l)))<|lr (fT X X)<|G<|iz H (λu H=>?_) λu H=>aB X u<|aQ<|bD<|am<|bg<|Z X<|lr (mX X X)<|U X<|al ?_
  .refine aD X u<|I<|Z X<|bz H λao Q H=>bH X e0 Tryz.call76 (ab0 Q rl (aC 0 X X X))<|Z X<|U X<|U X<|U X<|G ?_;have H:=S _ (sj H);subst H;replace H:=xG;obtain rfl:=si H;exact aM<|cg<|ba<|ba<|cg<|oI X (ay X) (ay X) (ay X) T1 (au rl) ⟨X,X⟩
  exact aw (h,f,ap (e*(2:Int)),c) (ft dQ jc) e0 X ⟨R _ (sj H),bW⟩
 have y:decide ((i20:Int)<(a.length:Int))=true:=dc O;obtain⟨ah,H,B⟩:=ef H;unfold wN at H
 try dsimp only at H
 refine I<|lr (bp X X)<|G<|aj<|aD X y<|aQ<|am<|aj<|bn<|I<|Z X<|bz H λD E H=>have p:=bU E;lr (bX (α:=Bool) (xs:=c) X X jw Z4 X ab (aC 0 X X X) p.1 p.2.1)<|lr (cE (α:=Bool) X (aC 0 X X X) I4 (v:=.bool D) ((bF (s:=1) (x:=D) X p.2.2 ag).off O))<|U X<|U X<|G<|aj<|I<|Z X<|lr (eG X)<|G<|iz H (λt H=>?_) λt H=>aB X t<|aQ<|am<|I<|Z X<|Z X<|Z X<|bz H λC J H=>bH X e0 Tryz.call75 (NJ J (au l) (n.mono T1 rl))<|Z X<|lr (ck X X)<|lr (ck X X)<|U X<|U X<|aU<|Z X<|Z X<|Z X<|bz H λA K H=>bH X e0 Tryz.call75 (NJ K (au l) (n.mono T1 rl))<|Z X<|lr (ck X X)<|lr (ck X X)<|U X<|U X<|aU<|Z X<|Z X<|Z X<|lr (cp X X) ?_
 .exact aD X t<|ct<|bt<|cu<|am<|bg<|lr (cD O X X)<|Z X<|al<|aw (i20+1,b,f,c) jc e0 X ⟨⟨B _ (sj H),by omega⟩,bW⟩
 refine lr (cp X X)<|U X<|G<|bg<|Z X<|Z X<|Z X<|Z X ?_;obtain⟨T,H,EJ⟩:=bs H;refine cG (σ:=Bool) 2 (λk=>[(0,Sl.v o),(6,Sl.v d),(7,iv (ap (f+(ap (C.1+A.1))))),(8,iv e),(26,Sl.v d),(27,iv (a.length:Int)),(28,iv (i20:Int)),(54,Sl.v d),(55,iv (i20:Int)),(59,.bool k)]) (λk=>(.own d 4 1 (aa c))::T0::L) (λ_ k=>k=T) ?_ ?_
 .refine iy H (λm H=>?_) λm H=>lg m (av X)<|lr (cf X m X)<|al ?_
  .exact aq X m<|lr (cd X m X)<|al<|aw false fl e0 X (si H)
  exact aw A.2 fl e0 X (si H)
 rintro rm k jL hy;subst hy;replace H:=EJ;exact bz H λae N H=>have q:=bU N;lr (bX (α:=Bool) (xs:=c) X X jw Z4 X ab (aC 0 X X X) q.1 q.2.1)<|lz H λz P H=>jm (i:=0) X X X X X Z4 (vs:=[.bool k]) X X ab X (xs':=aa z) (by(try dsimp+zetaDelta only);rw[<-P];exact(er (s:=1) (x:=ae) X q.2.2 (cC (vs:=[.bool k]) X)).off O) (L':=(.own d 4 1 (aa z))::T0::L) X<|al<|bD<|am<|bg<|lr (cD O X X)<|Z X<|al<|aw (i20+1,b,ap (f+(ap (C.1+A.1))),z) (ft jc jL) e0 X ⟨⟨B _ (sj H),by omega⟩,bW⟩
theorem Hp{a0 a1 a2 r}(H:uu a0 a1 a2=some r)(b:M.Sublist L):Ok Tryz.prog W 77 [iv a0,iv a1,iv a2] F (L) (Is (.bool r) (L)):=by
 unfold uu at H;refine bK 15 Tryz.func77 X<|I<|U X<|aU<|Z X<|Z X<|lr (fT X X)<|Z X ?_;obtain⟨o1,H,gY⟩:=bs H;refine cG (σ:=Bool) 4 (λy2=>[(14,.bool y2)]) (λy2=>L) (λ_ y2=>y2=o1) ?_ ?_
 .refine iy H (λa H=>?_) λa H=>lg a (av X)<|lg a (av X)<|lg a (Ev.leq X X)<|lr (cf X a X)<|al ?_
  .exact aq X a<|aq X a<|aq X a<|lr (cd X a X)<|al<|aw false fl e0 X (si H)
  exact aw (decide (a0<=a2)) fl e0 X (si H)
 rintro F4 y2 dI hy;subst hy;replace H:=gY;refine U X<|G ?_;obtain rfl:=si H;exact aM<|be X (ay X) dI rl ⟨X,X⟩
theorem Zf{a0 r}(H:Da a0=some r)(a:M.Sublist L):Ok Tryz.prog W 79 [iv a0] F (L) (Is (.bool r) (L)):=by unfold Da at H;refine bK 6 Tryz.func79 X<|I<|U X<|aU<|Z X<|bz H λr1 h2 H=>bH X e0 Tryz.call77 (Hp h2 a)<|lr (eG X)<|U X<|G ?_;obtain rfl:=si H;exact aM<|be X (ay X) fl rl ⟨X,X⟩
theorem abV{a0 e r}(H:DF a0=some r)(a:M.Sublist L)(b:Rd W F M e a0):Ok Tryz.prog W 126 [Sl.v e,.func (.func 79) #[] #[]] F (L) (Is (iv r) (L)):=by
 unfold DF at H;refine bK 19 Tryz.func126 X<|I<|U X<|G<|aj<|I<|Z X<|lr (bR (α:=Int) (xs:=a0) ab X X cS (b.mono fl a))<|Z X<|G<|bn ?_;refine dB (dE (α:=Int) (xs:=a0) ab (b.mono fl a)) (λGe=>?_);obtain⟨i,H,f8⟩:=dT H;refine cF (σ:=Nat×Nat×Unit) (λ(i1,k1,_u)=>[(0,Sl.v e),(1,.func (.func 79) #[] #[]),(7,iv (a0.length:Int)),(8,iv (i1:Int))]) (λ(i1,k1,_u)=>L) (λ_=>(λ(i1,k1,_u)=>cM (DG a0) k1 i1 ()=some i/\i1+k1=a0.length)) (λ(i1,k1,_u)=>k1) (0,a0.length,()) e0 X ⟨H,by omega⟩ ?_;rintro F2 ⟨i1,k1,_u⟩ fD ⟨H,k⟩;rcases k1 with _|k1
 .have d:decide ((i1:Int)<(a0.length:Int))=false:=cX O;replace H:=iK H;refine I<|lr (bp X X)<|G<|aj<|aB X d<|ct<|bt<|bt<|cu ?_;subst H;replace H:=f8;refine am<|I<|U X<|G ?_;obtain rfl:=si H;exact aM<|be X (ay X) fD rl ⟨X,X⟩
 have d:decide ((i1:Int)<(a0.length:Int))=true:=dc O;obtain⟨c1,H,f,j,h⟩:=iL H;unfold DG at H
 try dsimp only at H
 refine I<|lr (bp X X)<|G<|aj<|aD X d<|aQ<|am<|aj<|bn<|I<|Z X<|U X<|aU<|Z X<|Z X<|Z X<|bz H λx4 h5 H=>have g6:=bU h5;lr (bX (α:=Int) (xs:=a0) X X cS Z3 X ab (b.mono fD a) g6.1 g6.2.1)<|lr (cE (α:=Int) X (b.mono fD a) I3 (v:=iv x4) ((bF (s:=1) (x:=x4) X g6.2.2 ag).off O))<|bz H λr7 h8 H=>kD X X ab (vs:=[iv x4]) (cs:=[]) X e0 Tryz.call79 (Zf h8 a)<|G<|iz H (λc H=>?_) λc H=>aB X c<|aQ<|bD<|am<|bg<|lr (cD O X X)<|Z X<|al ?_
 .refine aD X c<|I<|Z X<|U X<|G ?_;have H:=h _ (sj H);subst H;replace H:=f8;obtain rfl:=si H;exact aM<|cg<|ba<|ba<|cg<|ba<|be X (ay X) fD rl ⟨X,X⟩
 exact aw (i1+1,k1,()) fD e0 X ⟨⟨f _ (sj H),by omega⟩,bW⟩
theorem abL{a0 a r}(H:AA a0=some r)(b:M.Sublist L)(c:Rd W F M a a0):Ok Tryz.prog W 78 [Sl.v a,.func (.func 79) #[] #[]] F (L) (Is (.bool r) (L)):=by unfold AA at H;refine bK 9 Tryz.func78 X<|I<|U X<|aU<|Z X<|Z X<|bz H λr1 h2 H=>bH X e0 Tryz.call126 (abV h2 b (c.mono fl rl))<|lr (fT X X)<|U X<|G ?_;obtain rfl:=si H;exact aM<|be X (ay X) fl rl ⟨X,X⟩
theorem Zg{a0 a1 a2 b a od r}(H:pQ a0 a1 a2=some r)(c:M.Sublist L)(d:Rd W F M a a1):Ok Tryz.prog W 81 [.int .u16 a0.toNat,pv b 0,pv od 0] F ((.ak b (enc a) 71)::(.ak od (enc a2) 3)::L) (Is (.bool r) ((.ak b (enc a) 71)::(.ak od (enc a2) 3)::L)):=by
 unfold pQ at H;refine bK 28 Tryz.func81 X<|I<|U X<|aU<|U X<|G<|aj<|I<|lr (ax (i:=0) X X ni (v:=Sl.v a) ag)<|lr (bR (α:=Int) (xs:=a1) ab X X cS (d.mono fl (au c)))<|Z X<|G<|bn ?_;refine dB (dE (α:=Int) (xs:=a1) ab (d.mono fl (au c))) (λvl=>?_);obtain⟨k,H,jU⟩:=bs H;refine cF (σ:=Nat×Nat×Int) (λ(i3,k3,y4)=>[(0,.int .u16 a0.toNat),(2,pv od 0),(5,iv y4),(8,Sl.v a),(9,iv (a1.length:Int)),(10,iv (i3:Int))]) (λ(i3,k3,y4)=>(.ak b (enc a) 71)::(.ak od (enc a2) 3)::L) (λ_=>(λ(i3,k3,y4)=>bC (wB a0 a1) k3 i3 y4=some k/\i3+k3=a1.length)) (λ(i3,k3,y4)=>k3) (0,a1.length,(0:Int)) e0 X ⟨H,by omega⟩ ?_;rintro F5 ⟨i3,k3,y4⟩ gh ⟨H,l⟩;rcases k3 with _|k3
 .have e:decide ((i3:Int)<(a1.length:Int))=false:=cX O;replace H:=ee H;refine I<|lr (bp X X)<|G<|aj<|aB X e<|ct<|bt<|bt<|cu ?_;subst H;replace H:=jU;refine am<|I<|Z X<|lr (ax (i:=1) X X I3 (v:=iv a2) ag)<|lr (fT X X)<|U X<|G ?_;obtain rfl:=si H;exact aM<|be X (ay X) gh rl ⟨X,X⟩
 have e:decide ((i3:Int)<(a1.length:Int))=true:=dc O;obtain⟨c3,H,h⟩:=ef H;unfold wB at H
 try dsimp only at H
 refine I<|lr (bp X X)<|G<|aj<|aD X e<|aQ<|am<|aj<|bn<|I<|Z X<|bz H λx7 h8 H=>have g9:=bU h8;lr (bX (α:=Int) (xs:=a1) X X cS Z3 X ab (d.mono gh (au c)) g9.1 g9.2.1)<|lr (cE (α:=Int) X (d.mono gh (au c)) I3 (v:=iv x7) ((bF (s:=1) (x:=x7) X g9.2.2 ag).off O))<|U X<|U X<|G<|bg<|Z X<|Z X<|Z X<|Z X<|bz H λn10 f H=>?_
 refine lr (IF (i:=a0) (m:=n10) X (congrArg some (congrArg (Value.int .i64) (oh f))))<|lr (Ps (i:=a0>>>n10) (j:=(1:BitVec 16)) X X)<|lr (kE (j:=(((a0>>>n10)&&&(1:BitVec 16)).toNat:Int)) X u4 U3 (bT O O))<|lr (mX X X)<|lr (cp X X)<|U X<|al<|bD<|am<|bg<|lr (cD O X X) ?_;exact Z X<|al<|aw (i3+1,k3,ap (y4+(ap (x7*(((a0>>>n10)&&&(1:BitVec 16)).toNat:Int))))) gh e0 X ⟨⟨h _ (sj H),by omega⟩,bW⟩
theorem ab5{a0 a r}(H:DT a0=some r)(b:M.Sublist L):Ok Tryz.prog W 127 [Sl.v a,.func (.func 128) #[] #[]] F ((.own a 90 1 (aa a0))::L) (λ_ L' v=>v=.tuple #[]/\L'=(.own a 90 1 (aa r))::L):=V9 H
theorem Zl{a0 a1 r}(H:Af a0 a1=some r)(a:M.Sublist L):Ok Tryz.prog W 185 [.int .u16 a0.toNat,.int .u16 a1.toNat] F (L) (Is (.bool r) (L)):=by unfold Af at H;refine bK 9 Tryz.func185 X<|I<|U X<|aU<|Z X<|Z X<|lr (Pr (i:=a0) (j:=a1) X X)<|lr (cx X X)<|U X<|G ?_;obtain rfl:=si H;exact aM<|be X (ay X) fl rl ⟨X,X⟩
theorem Zi{a0 a1 a r}(H:Db a0 a1=some r)(b:M.Sublist L):Ok Tryz.prog W 184 [.int .u16 a0.toNat,pv a 0] F ((.ak a (enc a1) 90)::L) (Is (.bool r) ((.ak a (enc a1) 90)::L)):=by unfold Db at H;refine bK 7 Tryz.func184 X<|I<|U X<|aU<|Z X<|lr (ax (i:=0) X X o0 (v:=.int .u16 a1.toNat) ag)<|bz H λr2 h3 H=>bH X e0 Tryz.call185 (Zl h3 (ai b))<|U X<|G ?_;obtain rfl:=si H;exact aM<|be X (ay X) fl rl ⟨X,X⟩
theorem abZ{a0 gK e ej r}(H:DL a0 gK=some r)(a:M.Sublist L)(b:Rd W F M e a0):Ok Tryz.prog W 156 [Sl.v e,.func (.func 184) #[] #[pv ej 0]] F ((.ak ej (enc gK) 90)::L) (Is (iv r) ((.ak ej (enc gK) 90)::L)):=by
 unfold DL at H;refine bK 19 Tryz.func156 X<|I<|U X<|G<|aj<|I<|Z X<|lr (bR (α:=BitVec 16) (xs:=a0) ab X X l9 (b.mono fl (ai a)))<|Z X<|G<|bn ?_;refine dB (dE (α:=BitVec 16) (xs:=a0) ab (b.mono fl (ai a))) (λvl=>?_);obtain⟨i,H,kg⟩:=dT H;refine cF (σ:=Nat×Nat×Unit) (λ(i2,k2,_u)=>[(0,Sl.v e),(1,.func (.func 184) #[] #[pv ej 0]),(7,iv (a0.length:Int)),(8,iv (i2:Int))]) (λ(i2,k2,_u)=>(.ak ej (enc gK) 90)::L) (λ_=>(λ(i2,k2,_u)=>cM (DM a0 gK) k2 i2 ()=some i/\i2+k2=a0.length)) (λ(i2,k2,_u)=>k2) (0,a0.length,()) e0 X ⟨H,by omega⟩ ?_;rintro F3 ⟨i2,k2,_u⟩ d3 ⟨H,k⟩;rcases k2 with _|k2
 .have d:decide ((i2:Int)<(a0.length:Int))=false:=cX O;replace H:=iK H;refine I<|lr (bp X X)<|G<|aj<|aB X d<|ct<|bt<|bt<|cu ?_;subst H;replace H:=kg;refine am<|I<|U X<|G ?_;obtain rfl:=si H;exact aM<|be X (ay X) d3 rl ⟨X,X⟩
 have d:decide ((i2:Int)<(a0.length:Int))=true:=dc O;obtain⟨c2,H,f,j,h⟩:=iL H;unfold DM at H
 try dsimp only at H
 refine I<|lr (bp X X)<|G<|aj<|aD X d<|aQ<|am<|aj<|bn<|I<|Z X<|U X<|aU<|Z X<|Z X<|Z X<|bz H λx5 h6 H=>have g7:=bU h6;lr (bX (α:=BitVec 16) (xs:=a0) X X l9 rA X ab (b.mono d3 (ai a)) g7.1 g7.2.1)<|lr (cE (α:=BitVec 16) X (b.mono d3 (ai a)) o0 (v:=.int .u16 x5.toNat) ((bF (s:=1) (x:=x5) X g7.2.2 ag).off O))<|bz H λr8 h9 H=>kD X X ab (vs:=[.int .u16 x5.toNat]) (cs:=[pv ej 0]) X e0 Tryz.call184 (Zi h9 a)<|G<|iz H (λc H=>?_) λc H=>aB X c<|aQ<|bD<|am<|bg<|lr (cD O X X)<|Z X<|al ?_
 .refine aD X c<|I<|Z X<|U X<|G ?_;have H:=h _ (sj H);subst H;replace H:=kg;obtain rfl:=si H;exact aM<|cg<|ba<|ba<|cg<|ba<|be X (ay X) d3 rl ⟨X,X⟩
 exact aw (i2+1,k2,()) d3 e0 X ⟨⟨f _ (sj H),by omega⟩,bW⟩
theorem abO{a0 gK a ej r}(H:DC a0 gK=some r)(b:M.Sublist L)(c:Rd W F M a a0):Ok Tryz.prog W 101 [Sl.v a,.func (.func 184) #[] #[pv ej 0]] F ((.ak ej (enc gK) 90)::L) (Is (.bool r) ((.ak ej (enc gK) 90)::L)):=by unfold DC at H;refine bK 9 Tryz.func101 X<|I<|U X<|aU<|Z X<|Z X<|bz H λr2 h3 H=>bH X e0 Tryz.call156 (abZ h3 b (c.mono fl rl))<|lr (fT X X)<|U X<|G ?_;obtain rfl:=si H;exact aM<|be X (ay X) fl rl ⟨X,X⟩
theorem Zj{a0 a1 a r}(H:wC a0 a1=some r)(b:M.Sublist L)(c:Rd W F M a a1):Ok Tryz.prog W 129 [.int .u16 a0.toNat,Sl.v a] F (L) (Is (.bool r) (L)):=by unfold wC at H;refine bK 8 Tryz.func129 X<|I ?_;refine fy X X ab X (cs:=enc a0) X (λb1=>?_);refine U X<|aU<|Z X<|lr (uc (us:=[]) (vs:=[pv b1 0]) cy e0)<|bz H λr3 h4 H=>bH X e0 Tryz.call101 (abO h4 b (c.mono fl rl))<|U X<|G ?_;obtain rfl:=si H;exact aM<|be X (ay X) fl (ai rl) ⟨X,X⟩
theorem Zk{fu a0 gK oc ej oR la r}(H:Ae fu a0 gK oc=some r)(q:M.Sublist L)(Gx:Rd W F M oR gK):Ok Tryz.prog W 80 [iv a0,.func (.func 81) #[] #[pv ej 0,pv la 0]] F ((.ak ej (enc oR) 71)::(.ak la (enc oc) 3)::L) (λ_ L' v=>∃(s3:Sl),v=Sl.v s3/\L'=(.own s3 90 1 (aa r))::(.ak ej (enc oR) 71)::(.ak la (enc oc) 3)::L):=by
 unfold Ae at H;refine bK 41 Tryz.func80 X<|I<|cL 90 1<|U X<|aU<|cL 90 1<|U X<|G<|aj<|I<|Z X<|bz H λn5 h6 H=>?_;refine lr (ID (i:=(1:BitVec 16)) (m:=n5) X (congrArg some (congrArg (Value.int .i64) (oh h6))))<|Z X<|G<|bn ?_;obtain⟨J,H,xJ⟩:=dT H;refine cF (σ:=Nat×(BitVec 16)×Sl×(List (BitVec 16))) (λ(k8,y9,e,c)=>[(1,.func (.func 81) #[] #[pv ej 0,pv la 0]),(5,Sl.v e),(11,.int .u16 ((1:BitVec 16)<<<n5).toNat),(12,.int .u16 y9.toNat)]) (λ(k8,y9,e,c)=>(.own e 90 1 (aa c))::(.own Sl.nil 90 1 (aa ([]:List (BitVec 16))))::(.ak ej (enc oR) 71)::(.ak la (enc oc) 3)::L) (λ_=>(λ(k8,y9,e,c)=>cw (Dc gK oc n5) k8 (y9,c)=some J)) (λ(k8,y9,e,c)=>k8) (fu,(0:BitVec 16),Sl.nil,([]:List (BitVec 16))) e0 X H ?_;rintro ri ⟨k8,y9,e,c⟩ hJ H;rcases k8 with _|k8
 .cases H
 obtain⟨c8,H,u,D,R⟩:=ik H;unfold Dc at H
 try dsimp only at H
 refine I<|lr (bp X X)<|G<|aj<|iy H (λl H=>?_) λl H=>aD X l<|aQ<|am<|aj<|bn<|I<|Z X<|U X<|aU<|Z X<|Z X<|bz H λT B H=>lf 3 X<|lf 3 X<|kD X X ab (vs:=[.int .u16 y9.toNat]) (cs:=[pv ej 0,pv la 0]) X e0 Tryz.call81 (Zg B (au q) (Gx.mono hJ rl))<|G<|iy H (λo H=>?_) λo H=>aD X o<|bg<|Z X<|Z X ?_
 .refine aB X l<|ct<|bt<|bt<|cu ?_;have H:=D _ (sj H);subst H;replace H:=xJ;refine am<|I<|Z X<|bz H λb w H=>?_;refine cl X e0 Tryz.call127 (ab5 w (au (ai q))) (λuO L' v gq hv=>?_);obtain⟨rfl,rfl⟩:=hv;refine aU<|cL 90 1<|U X<|G<|aj<|I<|Z X<|lr (bR (α:=BitVec 16) (xs:=b) ab X X l9 (aC 1 X X X))<|Z X<|G<|bn ?_;refine dB (dE (α:=BitVec 16) (xs:=b) ab (aC 1 X X X)) (λVP=>?_);obtain⟨E,H,sU⟩:=bs H;refine cF (σ:=Nat×Nat×Sl×(List (BitVec 16))) (λ(i20,a,f,d)=>[(7,Sl.v f),(25,Sl.v e),(26,iv (b.length:Int)),(27,iv (i20:Int))]) (λ(i20,a,f,d)=>(.own f 90 1 (aa d))::(.own e 90 1 (aa b))::(.own Sl.nil 90 1 (aa ([]:List (BitVec 16))))::(.ak ej (enc oR) 71)::(.ak la (enc oc) 3)::L) (λ_=>(λ(i20,a,f,d)=>bC (Dd b) a i20 d=some E/\i20+a=b.length)) (λ(i20,a,f,d)=>a) (0,b.length,Sl.nil,([]:List (BitVec 16))) e0 X ⟨H,by omega⟩ ?_;rintro sR ⟨i20,a,f,d⟩ jc ⟨H,Q⟩;rcases a with _|a
  .have p:decide ((i20:Int)<(b.length:Int))=false:=cX O;replace H:=ee H;refine I<|lr (bp X X)<|G<|aj<|aB X p<|ct<|bt<|bt<|cu ?_;subst H;replace H:=sU;refine am<|I<|Z X<|U X<|G ?_;obtain rfl:=si H;exact aM<|be X (ay X) (ft (ft hJ gq) jc) (cn (au rl)) ⟨f,X,X⟩
  have p:decide ((i20:Int)<(b.length:Int))=true:=dc O;obtain⟨P,H,t⟩:=ef H;unfold Dd at H
  try dsimp only at H
  refine I<|lr (bp X X)<|G<|aj<|aD X p<|aQ<|am<|aj<|bn<|I<|bz H λh y H=>have k:=bU y;lr (bX (α:=BitVec 16) (xs:=b) X X l9 rA X ab (aC 1 X X X) k.1 k.2.1)<|lr (cE (α:=BitVec 16) X (aC 1 X X X) o0 (v:=.int .u16 h.toNat) ((bF (s:=1) (x:=h) X k.2.2 ag).off O))<|U X<|aU<|Z X<|Z X<|bz H λS z H=>bH X e0 Tryz.call129 (Zj z rl (aC 0 X X X))<|lr (eG X)<|G<|iy H (λn H=>?_) λn H=>aD X n<|bg<|Z X<|Z X ?_
  .exact aB X n<|aQ<|bD<|am<|bg<|lr (cD O X X)<|Z X<|al<|aw (i20+1,a,f,d) jc e0 X ⟨⟨t _ (sj H),by omega⟩,bW⟩
  refine dW (α:=BitVec 16) (xs:=([h]:List (BitVec 16))) (pv:=[(0,.int .u16 h.toNat)]) X X ab e0 (dY (α:=BitVec 16) (z0:=(0:BitVec 16)) (xs:=([h]:List (BitVec 16))) l9 rA Tryz.zeroValue90 X X X ab X (eF X X)) X X ab (λV _=>?_);obtain⟨ae,A,H⟩:=bs H;refine ed (i:=1) (α:=BitVec 16) (xs:=d) (ys:=([h]:List (BitVec 16))) X X ab X X l9 Tryz.typeInfo90 X X X X X X (aC 0 X X X) X (cZ A) X (λK=>?_);exact U X<|al<|bD<|am<|bg<|lr (cD O X X)<|Z X<|al<|dd (ai rl)<|aw (i20+1,a,K,d++([h]:List (BitVec 16))) jc e0 X ⟨⟨t _ (sj H),by omega⟩,bW⟩
 .exact aB X o<|aQ<|bD<|am<|bg<|lr (vZ (i:=y9) (j:=(1:BitVec 16)) X X)<|Z X<|al<|af 3 X<|af 3 X<|aw (k8,y9+(1:BitVec 16),e,c) hJ e0 X ⟨u _ (sj H),bW⟩
 refine dW (α:=BitVec 16) (xs:=([y9]:List (BitVec 16))) (pv:=[(0,.int .u16 y9.toNat)]) X X ab e0 (dY (α:=BitVec 16) (z0:=(0:BitVec 16)) (xs:=([y9]:List (BitVec 16))) l9 rA Tryz.zeroValue90 X X X ab X (eF X X)) X X ab (λad _=>?_);obtain⟨ah,C,H⟩:=bs H;refine ed (i:=3) (α:=BitVec 16) (xs:=c) (ys:=([y9]:List (BitVec 16))) X X ab X X l9 Tryz.typeInfo90 X X X X X X (aC 0 X X X) X (cZ C) X (λN=>?_);exact U X<|al<|bD<|am<|bg<|lr (vZ (i:=y9) (j:=(1:BitVec 16)) X X)<|Z X<|al<|af 4 X<|af 4 X<|dd (cQ (ai rl))<|aw (k8,y9+(1:BitVec 16),N,c++([y9]:List (BitVec 16))) hJ e0 X ⟨u _ (sj H),bW⟩
theorem Zh{fu a0 a1 c r}(H:ut fu a0 a1=some r)(d:M.Sublist L)(j:Rd W F M c a0):Ok Tryz.prog W 36 [Sl.v c,iv a1] F (L) (λ_ L' v=>∃(s1:Sl),v=.tuple #[Sl.v s1,iv r.2]/\L'=(.own s1 90 1 (aa r.1))::L):=by
 unfold ut at H;refine bK 24 Tryz.func36 X<|I ?_;refine fy X X ab X (cs:=enc c) X (λb1=>?_);refine fy X X ab X (cs:=enc a1) X (λb3=>?_);refine cL 90 1<|U X<|U X<|aU<|lr (ax (i:=2) X X ni (v:=Sl.v c) ag)<|lr (bR (α:=Int) (xs:=a0) ab X X cS (j.mono fl (au (ai d))))<|U X<|G<|aj<|I<|Z X<|bz H λr6 h7 H=>bH X e0 Tryz.call77 (Hp h7 (au (ai d)))<|lr (eG X)<|Z X ?_;obtain⟨n,H,pY⟩:=bs H;refine cG (σ:=Bool) 4 (λe=>[(2,pv b1 0),(3,pv b3 0),(6,iv (a0.length:Int)),(16,.bool e)]) (λe=>(.own Sl.nil 90 1 (aa ([]:List (BitVec 16))))::(.ak b3 (enc a1) 3)::(.ak b1 (enc c) 71)::L) (λ_ e=>e=n) ?_ ?_
 .refine iz H (λa H=>?_) λa H=>lg a (ax (i:=1) X X I3 (v:=iv a1) ag)<|bz H λp k H=>ml X X X a X ab e0 Tryz.call77 (Hp k (au (ai d)))<|lg a (eG X)<|lr (cd X a X)<|al ?_
  .exact aq X a<|aq X a<|aq X a<|lr (cf X a X)<|al<|aw true fl e0 X (si H)
  exact aw (!p) fl e0 X (si H)
 rintro uO e gq hy;subst hy;replace H:=pY;refine Z X ?_;obtain⟨o,H,nX⟩:=bs H;refine cG (σ:=Bool) 3 (λf=>[(2,pv b1 0),(3,pv b3 0),(6,iv (a0.length:Int)),(20,.bool f)]) (λf=>(.own Sl.nil 90 1 (aa ([]:List (BitVec 16))))::(.ak b3 (enc a1) 3)::(.ak b1 (enc c) 71)::L) (λ_ f=>f=o) ?_ ?_
 .refine iz H (λb H=>?_) λb H=>lg b (ax (i:=2) X X ni (v:=Sl.v c) ag)<|bz H λq l H=>ml X X X b X ab e0 Tryz.call78 (abL l (au (ai d)) (j.mono gq rl))<|lr (cd X b X)<|al ?_
  .exact aq X b<|aq X b<|lr (cf X b X)<|al<|aw true fl e0 X (si H)
  exact aw q fl e0 X (si H)
 rintro rj f kM hy;subst hy;replace H:=nX;refine G<|iz H (λh H=>?_) λh H=>aB X h<|aQ<|am<|I<|Z X<|lr (uc (us:=[]) (vs:=[pv b1 0,pv b3 0]) cy e0)<|bz H λt m H=>lf 1 X<|lf 2 X ?_
 .refine aD X h<|I<|cL 90 1<|U X<|U X<|G ?_;obtain rfl:=si H;exact aM<|ba<|da X (ay X) (ay X) (ft gq kM) (cn (ai (au rl))) ⟨Sl.nil,X,X⟩
 refine cl X e0 Tryz.call80 (Zk m (ai d) (j.mono (ft gq kM) rl)) (λsS L' v jd hv=>?_);obtain⟨s,rfl,rfl⟩:=hv;refine U X<|U X<|G ?_;obtain rfl:=si H;exact aM<|da X (ay X) (ay X) (ft (ft gq kM) jd) (cn (ai (au rl))) ⟨s,X,X⟩
theorem UD{a0 a r}(H:yg a0=some r)(b:M.Sublist L)(hT:fA Tryz.prog W)(zD:Rd W F M a a0):Ok Tryz.prog W 37 [Sl.v a] F L (Is (Y.v r) L):=Wb H hT (zD.mono fl b)
theorem ac6{a0 e b c d r}{a:List aE}(H:Ih a0=some r)(f:M.Sublist L)(h:a.map aE.v=a0.all)(j:aW dK W F [] a):Ok Tryz.prog W 38 [pv e 0] F ((.rows (α:=aG) 148 (List.map aE.row a))::(.own b 143 8 (aa a))::(.own c 9 1 (aa a0.aK))::(.own d 9 1 (aa a0.ah))::(.ak e (enc (cj.mk a0 b c d)) 44)::L) (Is (.agg (enc r).toArray) ((.rows (α:=aG) 148 (List.map aE.row a))::(.own b 143 8 (aa a))::(.own c 9 1 (aa a0.aK))::(.own d 9 1 (aa a0.ah))::(.ak e (enc (cj.mk a0 b c d)) 44)::L)):=by unfold Ih at H;refine bK 7 Tryz.func38 X<|I ?_;refine cY (cs:=enc bB.zero) X X ab Tryz.zeroValue41 X (λb6=>?_);refine aU<|Z X<|lr (bP X)<|lr (ar 0 X eJ X d2 X X)<|lr (dN (i:=5) X X jF d2 (ch:=enc a0.aO) el ((JQ ag).off X))<|bL 0 X X X d2 (vs:=enc a0.aO) X el (an.one _) (cs':=enc a0.aO) ci X<|G ?_;obtain rfl:=si H;exact aM<|be X (dZ (i:=0) X X jF d2 el) fl (ai rl) ⟨X,X⟩
theorem OO{a0 e c d b r}{a:List aE}(H:xr a0=some r)(f:M.Sublist L)(h:a.map aE.v=a0.all)(j:aW dK W F [] a):Ok Tryz.prog W 39 [pv e 0] F ((.rows (α:=aG) 148 (List.map aE.row a))::(.own c 143 8 (aa a))::(.own d 9 1 (aa a0.aK))::(.own b 9 1 (aa a0.ah))::(.ak e (enc (cj.mk a0 c d b)) 44)::L) (Is (iv r) ((.rows (α:=aG) 148 (List.map aE.row a))::(.own c 143 8 (aa a))::(.own d 9 1 (aa a0.aK))::(.own b 9 1 (aa a0.ah))::(.ak e (enc (cj.mk a0 c d b)) 44)::L)):=by unfold xr at H;refine bK 8 Tryz.func39 X<|I<|U X<|aU<|Z X<|lr (bP X)<|lr (ar 4 X eJ X dP X X)<|lr (ax (i:=4) X X fd (v:=Sl.v b) ((JR ag).off X))<|lr (bR (α:=Y) (xs:=a0.ah) ab X X bO (aC 3 X X X))<|U X<|G ?_;obtain rfl:=si H;exact aM<|be X (ay X) fl rl ⟨X,X⟩
theorem kb{a0 r}(H:strconv_Itoa a0=some r)(a:M.Sublist L)(hT:fA Tryz.prog W):Ok Tryz.prog W 15 [iv a0] F L (Is (Y.v r) L):=V7 H hT
abbrev cA:=@Ij
abbrev bV:=@Ef
abbrev bx:=@Eg
abbrev mY:=@QO
abbrev jP:=@QP
abbrev v7:=@QQ
abbrev qE:=@SC
abbrev CP:=@SD
abbrev G7:=@SE
abbrev G8:=@SG
abbrev mU:=@SP
abbrev vS:=@SQ
abbrev tZ:=@SR
abbrev mV:=@SS
abbrev zx:=@ST
abbrev vT:=@SU
abbrev zy:=@SV
abbrev CQ:=@SW
abbrev G9:=@SX
abbrev nL:=@S8
abbrev jn:=@S9
abbrev vU:=@Ta
abbrev zz:=@Tb
abbrev kW:=@Ti
abbrev CS:=@Tj
abbrev vW:=@JQ
abbrev rY:=@JR
