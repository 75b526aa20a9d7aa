/-
  The numbers under which this program holds sync.WaitGroup's functions and types.
-/
import Derived.Test.YtklkkoelldkncaaGreatDoorMwP5
import Derived.Test.YtklkkoelldkncaaGreatDoorGoV
set_option linter.unusedSimpArgs false
set_option linter.unusedVariables false
namespace Go.Proofs.YtklkkoelldkncaaGreatDoor
abbrev oB:Go.Conc.Lib.WgLink:={add:=10,done:=12,wait:=14,relMerge:=21,disable:=22,enable:=23,inBubble:=24,associate:=25,fatal:=26,uOr:=27,uAdd:=28,raceRead:=29,uLoad:=30,uStore:=31,disassociate:=32,semrelease:=33,acquire:=38,isAssociated:=39,uCas:=40,raceWrite:=41,semacquire:=42,orU64:=53,addU64:=54,loadU64:=55,storeU64:=56,casU64:=65,tWgP:=83,tUP:=85,tAssoc:=87,tWg:=72,tAU:=69,tU64:=67,tUint:=91,tU32:=70,tPU32:=92,tPAU:=124,tPU64:=126,tNoCopy:=64,tANoCopy:=65,tAlign64:=66}
theorem tI:Go.Conc.Lib.WgLib Tryz.prog oB:=
 ⟨Tryz.func10,Tryz.func12,Tryz.func14,Tryz.func21,Tryz.func22,Tryz.func23,Tryz.func24,Tryz.func25,Tryz.func26,Tryz.func27,Tryz.func28,Tryz.func29,Tryz.func30,Tryz.func31,Tryz.func32,Tryz.func33,Tryz.func38,Tryz.func39,Tryz.func40,Tryz.func41,Tryz.func42,Tryz.func53,Tryz.func54,Tryz.func55,Tryz.func56,Tryz.func65,Tryz.underlying83,Tryz.runUnderlying83,Tryz.sizeOf83,Tryz.isAgg83,Tryz.zeroValue83,Tryz.underlying85,Tryz.runUnderlying85,Tryz.sizeOf85,Tryz.isAgg85,Tryz.zeroValue85,Tryz.underlying87,Tryz.runUnderlying87,Tryz.sizeOf87,Tryz.isAgg87,Tryz.zeroValue87,Tryz.underlying72,Tryz.runUnderlying72,Tryz.sizeOf72,Tryz.isAgg72,Tryz.zeroValue72,Tryz.underlying69,Tryz.runUnderlying69,Tryz.sizeOf69,Tryz.isAgg69,Tryz.zeroValue69,Tryz.underlying67,Tryz.runUnderlying67,Tryz.sizeOf67,Tryz.isAgg67,Tryz.zeroValue67,Tryz.underlying91,Tryz.runUnderlying91,Tryz.sizeOf91,Tryz.isAgg91,Tryz.zeroValue91,Tryz.underlying70,Tryz.runUnderlying70,Tryz.sizeOf70,Tryz.isAgg70,Tryz.zeroValue70,Tryz.underlying92,Tryz.runUnderlying92,Tryz.sizeOf92,Tryz.isAgg92,Tryz.zeroValue92,Tryz.underlying124,Tryz.runUnderlying124,Tryz.sizeOf124,Tryz.isAgg124,Tryz.zeroValue124,Tryz.underlying126,Tryz.runUnderlying126,Tryz.sizeOf126,Tryz.isAgg126,Tryz.zeroValue126,Tryz.underlying0,Tryz.runUnderlying0,Tryz.sizeOf0,Tryz.isAgg0,Tryz.zeroValue0,Tryz.underlying3,Tryz.runUnderlying3,Tryz.sizeOf3,Tryz.isAgg3,Tryz.zeroValue3,Tryz.underlying4,Tryz.runUnderlying4,Tryz.sizeOf4,Tryz.isAgg4,Tryz.zeroValue4,Tryz.underlying9,Tryz.runUnderlying9,Tryz.sizeOf9,Tryz.isAgg9,Tryz.zeroValue9,Tryz.underlying20,Tryz.runUnderlying20,Tryz.sizeOf20,Tryz.isAgg20,Tryz.zeroValue20,Tryz.underlying21,Tryz.runUnderlying21,Tryz.sizeOf21,Tryz.isAgg21,Tryz.zeroValue21,(by kernel_rfl),(by kernel_rfl)⟩
end Go.Proofs.YtklkkoelldkncaaGreatDoor
set_option linter.unusedSimpArgs false
set_option linter.unusedVariables false
namespace Go.Proofs.YtklkkoelldkncaaGreatDoor
open Go.Conc Go.ConcN Go.RowKit Go.Conc.Lib Go.ConcR.Gen an
open Go.ConcR (KK wgBlock WgAt stA smA rd wr DC0)
structure eG where
 W:World
 eY:Nat
 s0:Sl
 rs:List cZ
 fu:Nat
 res:Nat->dk
namespace eG
variable (q:eG)
def N:Nat:=q.W.heap.size
def J:Nat:=q.rs.length
structure Fit:Prop where
 h1:1<=q.eY
 h8:q.eY<=8
 res:∀m x,q.rs[m]?=some x->kI q.fu x.v=some (q.res m)
 hl:Rd q.W (bk.of q.W) [] q.s0 q.rs
 ha:aL cZ.rel q.W (bk.of q.W) [] q.rs
 Mv:gG (bk.of q.W)
def kN:Sl:=⟨some ⟨q.N+1,0,none⟩,q.J,q.J⟩
structure iA(w:World):Prop where
 below:Below q.N q.W w
 size:w.heap.size=q.N+6
 EZ:w.heap[q.N]?=some (.cells #[q.s0.v] 22)
 cells:∃arr,w.heap[q.N+1]?=some (.cells arr 35)/\arr.size=q.J*5
 out:w.heap[q.N+2]?=some (.cells #[q.kN.v] 23)
 ch:w.heap[q.N+3]?=some (.chan 0 #[] false 0 0 false)
 work:w.heap[q.N+4]?=some (.cells #[.chan (some (q.N+3))] 62)
 wg:WgAt 72 (q.N+5) w 0 0
def mY(V:Nat->Option Value)(w:World):Prop:=∃a,w.heap[q.N+1]?=some (.cells a 35)/\a.size=q.J*5/\∀m v,m<q.J->V m=some v->∃x:b7,v=.agg (enc x).toArray/\∀j,j<5->a[m*5+j]?=(enc x)[j]?
def hU(m:Nat)(v:Value)(S:Nat->Prop)(w:World):Prop:=∃a d:Sl,v=.agg (enc (b7.mk (q.res m) a d)).toArray/\gW (World.hp w) a 24 1 (I (q.res m).fv)/\gW (World.hp w) d 42 10 (I (q.res m).fy)/\∀b,b∈a.bH\/b∈d.bH->S b
noncomputable def ct (w:World) (Post:Value->World->Prop):cy:={P:=Tryz.prog,ty:=72,Wg:=q.N+5,ch:=q.N+3,C:=q.N+1,n:=q.eY,J:=q.J,fW:=w,mY:=q.mY,hU:=q.hU,fE:=λm l=>∃j,j<5/\l=.cell ⟨q.N+1,m*5+j,none⟩,Post}
def F0(w:World):bk:=λb=>if b<q.N+6/\b≠q.N+5/\b≠q.N+3/\b≠q.N+1 then w.heap[b]? else none
variable {q:eG}{w w1:World}{Post:Value->World->Prop}
theorem W5(h:q.iA w)(f:q.Fit):(q.ct w Post).Ok where
 out:=λV w2 w3 e h=>by obtain⟨a,d,g⟩:=h;exact⟨a,e.trans d,g⟩
 res:=λm v S w2 w3 e h=>by obtain⟨s,t,d,g,o,i⟩:=h;exact⟨s,t,d,sV (λb k=>e b (i b (.inl k))) g,sV (λb k=>e b (i b (.inr k))) o,i⟩
 mg:=λm l h=>by obtain⟨j,_,rfl⟩:=h;rfl
 FV:=λm A l h n=>by obtain⟨j,x,rfl⟩:=h;obtain⟨y,p,e⟩:=n;simp at e;omega
 wc:=by simp[ct]
 wh:=by simp[ct]
 ch:=by simp[ct]
 ra:=by simp[ct,h.size]
 Br:=by simp[ct,h.size]
 xH:=by simp[ct,h.size]
 n1:=f.h1
 nn:=by have:=f.h8;show q.eY<_;omega
theorem fz(h:q.iA w)(b:Nat):(q.ct w Post).Fz b↔b<q.N+6/\b≠q.N+5/\b≠q.N+3/\b≠q.N+1:=by unfold cy.Fz;simp only[ct,h.size]
theorem Hc{b:Nat}{o:Obj}(e:q.F0 w b=some o):(b<q.N+6/\b≠q.N+5/\b≠q.N+3/\b≠q.N+1)/\w.heap[b]?=some o:=by
 unfold F0 at e;split at e
 .exact⟨by assumption,e⟩
 .cases e
theorem Gf(h:q.iA w)(a:(q.ct w Post).Base w1):SH w (q.F0 w) [] (q.ct w Post).eI w1:=by refine⟨⟨⟨a.os,a.tape,a.output,a.size,λk g=>by omega⟩,λb o e=>?_,λb a=>by simp[cu]at a,λi hi=>by simp at hi,by simp[cu]⟩,λb a=>by simp[cu]at a,λb o e=>.inr ((fz h b).2 (Hc e).1)⟩;obtain⟨d,f⟩:=Hc e;rw[a.block b ((fz h b).2 d)];exact f
theorem aaB(h:q.iA w)(a:St w (q.F0 w) [] w1):St q.W (bk.of q.W) [] w1:=by refine⟨⟨a.below.os.trans h.below.os,a.below.tape.trans h.below.tape,a.below.output.trans h.below.output,iU h.below.size a.below.size,λk g=>by omega⟩,λb o e=>?_,λb f=>by simp[cu]at f,λi hi=>by simp at hi,by simp[cu]⟩;have d:b<q.N:=(gV.1 e).1;refine a.gh b o ?_;unfold F0;rw[ce O,h.below.block b d];exact e
theorem FT{α:Type}[an α]{s:Sl}{xs:List α}(h:q.iA w)(a:Rd q.W (bk.of q.W) [] s xs):Rd w (q.F0 w) [] s xs:=λw1 d=>a w1 (aaB h d)
theorem Oj{b:Nat}(h:q.iA w)(a:b<q.N):q.F0 w b=q.W.heap[b]?:=by unfold F0;rw[ce O,h.below.block b a]
theorem aaR(h:q.iA w)(f:q.Fit):gG (q.F0 w):=by obtain⟨t,d,p,e⟩:=f.Mv;have a:1<q.N:=(gV.1 e).1;exact⟨t,d,p,by rw[Oj h a];exact e⟩
theorem Oi(h:q.iA w):q.F0 w q.N=some (.cells [q.s0.v].toArray 22 (0,0)):=by unfold F0;rw[ce O];exact h.EZ
theorem Ol(h:q.iA w):q.F0 w (q.N+2)=some (.cells [q.kN.v].toArray 23 (0,0)):=by unfold F0;rw[ce O];exact h.out
theorem Om(h:q.iA w):q.F0 w (q.N+4)=some (.cells [.chan (some (q.N+3))].toArray 62 (0,0)):=by unfold F0;rw[ce O];exact h.work
end eG
noncomputable def bot:Frame:={(default:Frame)with fn:=Tryz.prog.funcs.size,defers:=[],mode:=.panicking [goexitEntry]}
noncomputable def qu:Code:=Tryz.f11.body.getD .skip
noncomputable def jf:Code:=match qu with
 |.seq _ (.seq _ (.block _ (.loop c)))=>c
 |_=>.skip
noncomputable def mQ:Array Oper:=match jf with
 |.seq (.region _ o _) _=>o
 |_=>#[]
noncomputable def lO:Code:=match jf with
 |.seq _ y=>y
 |_=>.skip
def call11(q:eG):Deferred:={target:=.fn (.func 11) #[pv (q.N+5) 0,pv (q.N+4) 0,pv q.N 0,pv (q.N+2) 0],args:=#[]}
def kj(q:eG):List Deferred:=[dcall 12 #[pv (q.N+5) 0]]
def lU(q:eG)(g:Goroutine):Prop:=∃T:Array Value,T.size=17/\T[0]?=some (pv (q.N+5) 0)/\T[1]?=some (pv (q.N+4) 0)/\T[2]?=some (pv q.N 0)/\T[3]?=some (pv (q.N+2) 0)/\T[5]?=some (.chan (some (q.N+3)))/\
 g=G ((baseD 11).at ⟨T,kj q⟩ [.inRegion mQ [0,1],.code lO,.inLoop jf,.inBlock 0]) [bot]
def qx(q:eG):List (Nat×Value):=[(0,pv (q.N+5) 0),(1,pv (q.N+4) 0),(2,pv q.N 0),(3,pv (q.N+2) 0),(5,.chan (some (q.N+3)))]
theorem lU.of{q:eG}{a:Act}(h:cG ⟨17,kj q⟩ a (qx q)):lU q (G ((baseD 11).at a [.inRegion mQ [0,1],.code lO,.inLoop jf,.inBlock 0]) [bot]):=by obtain⟨T,d⟩:=a;have hd:d=kj q:=h.defers;subst hd;exact⟨T,h.size,h.get 0 _ X,h.get 1 _ X,h.get 2 _ X,h.get 3 _ X,h.get 5 _ X,X⟩
theorem lU.env{q:eG}{T:Array Value}(h:T.size=17)(j:T[0]?=some (pv (q.N+5) 0))(l:T[1]?=some (pv (q.N+4) 0))(m:T[2]?=some (pv q.N 0))(n:T[3]?=some (pv (q.N+2) 0))(o:T[5]?=some (.chan (some (q.N+3)))):cG ⟨17,kj q⟩ ⟨T,kj q⟩ (qx q):=by
 refine⟨X,h,λt v a=>?_⟩;simp only[qx,look]at a;by_cases d:t=0
 .subst d;simp at a;rw[<-a];exact j
 by_cases e:t=1
 .subst e;simp at a;rw[<-a];exact l
 by_cases f:t=2
 .subst f;simp at a;rw[<-a];exact m
 by_cases g:t=3
 .subst g;simp at a;rw[<-a];exact n
 by_cases i:t=5
 .subst i;simp at a;rw[<-a];exact o
 .have b (k:Nat) (x:¬t=k):(k==t)=false:=beq_false_of_ne (Ne.symm x);rw[b 0 d,b 1 e,b 2 f,b 3 g,b 5 i]at a;cases a
theorem Xa(T:Array Value):QuitsD Tryz.prog 2 0 (G {(baseD 11).at ⟨T,[]⟩ []with mode:=.returning} [bot]):=by
 refine QuitsD.ctl (g':=G bot []) X (λw=>?_) ?_
 .simp[G,stepG,unwind,doReturn,results,Frame.at,baseD,bot,Tryz.func11,Tryz.f11,seen,GStep.after,goexitEntry]
 refine QuitsD.ctl (g':={G bot []with status:=.finished}) X (λw=>?_) ⟨X,X⟩;simp[G,stepG,unwind,bot,goexitEntry,Frame.catches];rfl
theorem RF(q:eG)(w:World):stepG Tryz.prog false (born Tryz.prog (call11 q)) w=.go (G ((baseD 11).at ⟨#[pv (q.N+5) 0,pv (q.N+4) 0,pv q.N 0,pv (q.N+2) 0]++Array.replicate 13 undef,[]⟩ [.code qu]) [bot]) w #[]:=by simp[born,call11,stepG,unwind,callDeferred,invoke,callFunc,Tryz.func11,Tryz.f11,seen,GStep.after,G,Frame.enter,Frame.at,baseD,bot,qu]
end Go.Proofs.YtklkkoelldkncaaGreatDoor
set_option linter.unusedSimpArgs false
set_option linter.unusedVariables false
namespace Go.Proofs.YtklkkoelldkncaaGreatDoor
open Go.Conc Go.ConcN Go.RowKit Go.Conc.Lib Go.ConcR.Gen an
open Go.ConcR (KK wgBlock WgAt stA smA rd wr DC0)
theorem Ro(T:Array Value)(h:T.size=17):∃k m n v3 o p q s t y a d e f g i j,T=#[k,m,n,v3,o,p,q,s,t,y,a,d,e,f,g,i,j]:=by
 obtain⟨l⟩:=T;simp only[cj]at h;rcases l with _|⟨k,l⟩
 .simp at h
 rcases l with _|⟨m,l⟩
 .simp at h
 rcases l with _|⟨n,l⟩
 .simp at h
 rcases l with _|⟨v3,l⟩
 .simp at h
 rcases l with _|⟨o,l⟩
 .simp at h
 rcases l with _|⟨p,l⟩
 .simp at h
 rcases l with _|⟨q,l⟩
 .simp at h
 rcases l with _|⟨s,l⟩
 .simp at h
 rcases l with _|⟨t,l⟩
 .simp at h
 rcases l with _|⟨y,l⟩
 .simp at h
 rcases l with _|⟨a,l⟩
 .simp at h
 rcases l with _|⟨d,l⟩
 .simp at h
 rcases l with _|⟨e,l⟩
 .simp at h
 rcases l with _|⟨f,l⟩
 .simp at h
 rcases l with _|⟨g,l⟩
 .simp at h
 rcases l with _|⟨i,l⟩
 .simp at h
 rcases l with _|⟨j,l⟩
 .simp at h
 rcases l with _|⟨x,l⟩
 .exact⟨k,m,n,v3,o,p,q,s,t,y,a,d,e,f,g,i,j,X⟩
 .simp at h
theorem ZC{q:eG}{g:Goroutine}(h:lU q g)(w:World):stepG Tryz.prog false g w=.comm (core g) #[rcase (q.N+3) cy.z0] true (.recv true) w #[]:=by
 obtain⟨T,j,_,_,_,_,d,rfl⟩:=h;have a:(⟨T,kj q⟩:Act).eval (.tmp 5)=.chan (some (q.N+3)):=by simp[Act.eval,oo,d]
 have f:mQ[0]?=some {dst:=some 6,op:=.recv 62 (.tmp 5) true,type:=0,pos:= "many.go:58",after:=#[],guard:=none}:=X;have i:(execOp (⟨T,kj q⟩:Act).eval {dst:=some 6,op:=.recv 62 (.tmp 5) true,type:=0,pos:= "many.go:58",after:=#[],guard:=none}).run Tryz.prog w=.ok (.comm #[rcase (q.N+3) cy.z0] true (.recv true)) w:=by simp[execOp,a,rcase,Tryz.runUnderlying62,Tryz.zeroValue3,cy.z0]
 have e:(execOp (⟨T,kj q⟩:Act).eval {dst:=some 6,op:=.recv 62 (.tmp 5) true,type:=0,pos:= "many.go:58",after:=#[],guard:=none}).events Tryz.prog w #[]=#[]:=by simp[execOp,a,rcase,Tryz.runUnderlying62,Tryz.zeroValue3]
 rw[stepG_comm f X (by simp[baseD]) i,listed_none e];rfl
theorem served_G(a:Frame)(cs:List Frame)(v:Value):Conc.served (G a cs) v=G (a.finish v) cs:=X
theorem Md{q:eG}{T:Array Value}(v:Value):Conc.served (core (G ((baseD 11).at ⟨T,kj q⟩ [.inRegion mQ [0,1],.code lO,.inLoop jf,.inBlock 0]) [bot])) v=
 G ((baseD 11).at (Act.put ⟨T,kj q⟩ (some 6) v) [.inRegion mQ [1],.code lO,.inLoop jf,.inBlock 0]) [bot]:=by
 rw[core_G,served_G,Frame.finish_at];rfl
set_option maxRecDepth 100000 in
theorem abc{q:eG}{w0:World}{Post:Value->World->Prop}{T:Array Value}(d:T.size=17):
 (q.ct w0 Post).GL false DC0 (q.ct w0 Post).wD 210 (G ((baseD 11).at (Act.put ⟨T,kj q⟩ (some 6) (.tuple #[cy.z0,.bool false])) [.inRegion mQ [1],.code lO,.inLoop jf,.inBlock 0]) [bot]):=by
 obtain⟨m,n,o,v3,s,t,x,y,A,B,f,g,h,i,j,k,l,rfl⟩:=Ro T d;simp only[mQ,lO,jf,qu,Tryz.f11,f7]
 walk_nrm
 (refine .op sZ X X (by k_ne) (λ_ _=>by simp[*,go_sem]) (λw e K a=>?_);go_simp;refine a _ ?_;clear a K e w;walk_nrm;try w_num)
 refine .pure sZ X (λ_=>stepG_region_end) ?_;refine .pure sZ X (λ_=>stepG_seq) ?_;refine .gz sZ X ?_;refine .pure sZ X (λ_=>stepG_exit X) ?_;refine .pure sZ X (λ_=>stepG_end) ?_;refine .pure sZ X (λ_=>stepG_unwind_enter X tI.f_done (nm_done oB) X) ?_
 walk_nrmf doneFn
 exact cy.done (p:=q.ct w0 Post) tI X X (Xa _)
end Go.Proofs.YtklkkoelldkncaaGreatDoor
set_option linter.unusedSimpArgs false
set_option linter.unusedVariables false
set_option maxRecDepth 100000
namespace Go.Proofs.YtklkkoelldkncaaGreatDoor
open Go.Conc Go.ConcN Go.RowKit Go.Conc.Lib Go.ConcR.Gen an
open Go.ConcR (KK wgBlock WgAt stA smA rd wr DC0)
theorem aa6{cs vs:List Value}{m J:Nat}(h:cs.length=J*5)(k:m<J)(d:vs.length=5):∃cs',bA cs (m*5) vs cs'/\cs'.length=J*5/\(∀j,j<5->cs'[m*5+j]?=vs[j]?)/\∀i,(i<m*5\/m*5+5<=i)->cs'[i]?=cs[i]?:=by
 have a:(cs.take (m*5)).length=m*5:=by rw[gn];omega
 have f:((cs.drop (m*5)).take 5).length=5:=by rw[gn,gM];omega
 have e:cs=cs.take (m*5)++((cs.drop (m*5)).take 5++(cs.drop (m*5)).drop 5):=by rw[eD,eD]
 refine⟨cs.take (m*5)++(vs++(cs.drop (m*5)).drop 5),⟨cs.take (m*5),(cs.drop (m*5)).take 5,(cs.drop (m*5)).drop 5,e,a,by rw[f,d],X⟩,?_,λj g=>?_,λi hi=>?_⟩
 .simp only[cr,a,d,gM];omega
 .rw[pz O,a,E4,ou O]
 .rcases hi with hi|hi
  .rw[ou O,Fe hi]
  .rw[pz O,a,pz O,d,nu,qV];congr 1;omega
namespace eG
variable {q:eG}{w0:World}{Post:Value->World->Prop}{Next:Goroutine->Prop}
theorem aa2(h:q.iA w0)(l:∀g,lU q g->Next g){a:Act}(i:cG ⟨17,kj q⟩ a (qx q)){w2:World}(j:(q.ct w0 Post).Base w2)(ops:Array Oper):
 iO Tryz.prog false (λ_ g _=>Next g) (q.ct w0 Post).eI (G ((baseD 11).at a [.inRegion ops [],.inBlock 1,.inLoop jf,.inBlock 0]) [bot]) w2:=by
 letI:Co Tryz.prog:=nc Tryz.prog false (λ_ g _=>Next g)
 have f:dy Tryz.prog ⟨17,kj q⟩ w0 (baseD 11) [.inRegion ops [],.inBlock 1,.inLoop jf,.inBlock 0] [bot] (qx q) (q.F0 w0) []:=by refine GI (dy.inBlock (dy.inLoop ?_));have e:jf=.seq (.region 2 mQ false) lO:=X;rw[show(Go.Item.code jf:Go.Item)=.code (.seq (.region 2 mQ false) lO)from congrArg _ e];refine dy.seq (GH ?_);intro a' k w' d m;exact iO.stop λ_ _=>l _ (lU.of d)
 exact f a _ w2 i (Gf h j)
theorem W7(h:q.iA w0)(hn:∀g,lU q g->Next g){m:Nat}(hm:m<q.J){a:Act}{hd:bG}{w:World}{k l:Sl}{F:bk}{ops:Array Oper}{i:Nat}{o:Oper}(ho:ops[i]?=some o)(d:o={dst:=none,op:=.store 35 (.tmp 16) (.tmp 15),type:=o.type,pos:=o.pos,after:=o.after,guard:=none})
 (B:cG ⟨17,kj q⟩ a ((16,pv (q.N+1) (m*5))::(15,.agg (enc (b7.mk (q.res m) k l)).toArray)::qx q)) (T:SH w0 F [.own k 24 1 (I (q.res m).fv),.own l 42 10 (I (q.res m).fy)] hd w):
 (q.ct w0 Post).tX m Next hd (G ((baseD 11).at a [.inRegion ops [i],.inBlock 1,.inLoop jf,.inBlock 0]) [bot]) w:=by
 refine⟨X,λV hV=>?_⟩;obtain⟨s,h1,h2,h3⟩:=hV;obtain⟨cs',p1,p2,p3,p4⟩:=aa6 (cs:=s.toList) (vs:=enc (b7.mk (q.res m) k l)) (by simpa using h2) hm (an.len _);have hx:a.eval (.tmp 16)=pv (q.N+1) (m*5):=B.eval (x:=.tmp 16) X;have hy:a.eval (.tmp 15)=.agg (enc (b7.mk (q.res m) k l)).toArray:=B.eval (x:=.tmp 15) X;have C:w.heap[q.N+1]?=some (.cells s.toList.toArray 35 (0,0)):=h1;have hr:(execOp a.eval o).run Tryz.prog w=.ok .skip (w.setRow (q.N+1) cs'.toArray):=by rw[d];simp[execOp,hx,hy,Instr.storeAt,Instr.sureAddr,B2 C Tryz.sizeOf35 (v:=.agg (enc (b7.mk (q.res m) k l)).toArray) X (an.len _) p1 (an.one _)]
 have L:nT (q.N+1) (m*5) 5 ((execOp a.eval o).events Tryz.prog w #[]):=by rw[d];simp only[execOp,hx,hy,Instr.storeAt,Instr.sureAddr,Sem.events_bind,Sem.run_pure,Sem.events_pure,Result.evThen_ok];have:=Ve (P:=Tryz.prog) (w:=w) (b:=q.N+1) (off:=m*5) (t:=35) (v:=.agg (enc (b7.mk (q.res m) k l)).toArray) (n:=5) (es:=#[]) (sK (an.len _)) C (λe K=>by simp at K);exact Vf this
 have A:(w.setRow (q.N+1) cs'.toArray).heap[q.N+1]?=some (.cells cs'.toArray 35 (0,0)):=setRow_heap w _ _ _ _ _ C;have p:Region.wanted o (yielded ops a.tmps)=true:=by rw[d];rfl
 refine⟨.agg (enc (b7.mk (q.res m) k l)).toArray,_,_,_,stepG_none ho p (by simp[baseD]) hr,⟨k,l,X,T.holds (.own k 24 1 (I (q.res m).fv)) (by simp),T.holds (.own l 42 10 (I (q.res m).fy)) (by simp),λb D=>T.own b ?_⟩,⟨X,X,X,by simp[World.setRow],λb S=>?_⟩,⟨cs'.toArray,A,by simpa using p2,λm' v' Q f=>?_⟩,λe K=>?_,λw2 H=>?_⟩
 .simp only[cu,List.flatMap_cons,List.flatMap_nil,jH,e9];exact D
 .have y:q.N+1≠b:=λe=>S e.symm;simp only[World.setRow,pA,ck y]
 .by_cases e:m'=m
  .subst e;simp only[upd_same,gU]at f;subst f;exact⟨_,X,λj M=>by simpa using p3 j M⟩
  .rw[upd_ne V _ e]at f;obtain⟨x,W,U4⟩:=h3 m' v' Q f;refine⟨x,W,λj M=>?_⟩;have:=p4 (m'*5+j) O;rw[<-U4 j M];simpa using this
 .obtain⟨k1,j,k2,k3⟩:=L e (mem_seen K);exact⟨k1,j,k2,k3⟩
 .have e:a.put o.dst undef=a:=by rw[d];rfl
  rw[e];exact aa2 h hn (B.sub ⟨X,X,X,X,X,bo⟩) H ops
end eG
end Go.Proofs.YtklkkoelldkncaaGreatDoor
set_option linter.unusedSimpArgs false
set_option linter.unusedVariables false
set_option maxRecDepth 100000
namespace Go.Proofs.YtklkkoelldkncaaGreatDoor
open Go.Conc Go.ConcN Go.RowKit Go.Conc.Lib Go.ConcR.Gen an
open Go.ConcR (KK wgBlock WgAt stA smA rd wr DC0)
namespace eG
variable {q:eG}{w0:World}{Post:Value->World->Prop}{Next:Goroutine->Prop}
set_option maxHeartbeats 1000000 in
theorem fA(h:q.iA w0)(f:q.Fit)(L:∀g,lU q g->Next g){m:Nat}(s:m<q.J){g:Goroutine}(K:lU q g){w:World}(H:(q.ct w0 Post).Base w):
 iO Tryz.prog false ((q.ct w0 Post).tX m Next) (q.ct w0 Post).eI (Conc.served (core g) (.tuple #[.int .i64 m,.bool true])) w:=by
 obtain⟨T,W,t2,t3,t4,t5,t6,rfl⟩:=K;rw[Md]
 letI:Co Tryz.prog:=nc Tryz.prog false ((q.ct w0 Post).tX m Next)
 have t:(baseD 11).kind≠.early:=by simp[baseD]
 obtain⟨x,y⟩:∃x,q.rs[m]?=some x:=⟨_,je (show m<q.rs.length from s)⟩
 have hrel:cZ.rel w0 (q.F0 w0) [] x:=FT h (f.ha x (eN y));have A:dy Tryz.prog ⟨17,kj q⟩ w0 (baseD 11) [.inRegion mQ [1],.code lO,.inLoop jf,.inBlock 0] [bot] ((6,.tuple #[.int .i64 m,.bool true])::qx q) (q.F0 w0) []:=by
  refine Nr t X ?_;refine lr (cn (v:=.bool true) X X) (ng ?_);rw[show(Go.Item.code lO:Go.Item)=.code (match lO with|.seq (.cond c _ z) (.block _ (.seq (.region P S _) (.region Q V _)))=>.seq (.cond c .skip z) (.block 1 (.seq (.region P S.toList.toArray false) (.region Q V.toList.toArray true)))|x=>x)from X];simp only[lO,jf,qu,Tryz.f11,f7];refine dy.seq (dy.jp X X (dy.skip (dy.block (dy.seq (dy.region t ?_)))));refine lr (cn (v:=iv m) X X) (ag X (ng ?_))
  refine dy.last (σ:=Sl×Sl) 8 (λp=>(16,pv (q.N+1) (m*5))::(15,.agg (enc (b7.mk (q.res m) p.1 p.2)).toArray)::qx q) (λp=>[.own p.1 24 1 (I (q.res m).fv),.own p.2 42 10 (I (q.res m).fy)]) (λ_ _=>True) t (by kernel_rfl) X
   (gy (by kernel_rfl) (by kernel_rfl) (by kernel_rfl)) (by kernel_rfl) (λe j=>?_) ?_
  .refine d8 (λhd w=>SH w0 (q.F0 w0) [] hd w) (λ_ w h=>trivial) ?_;refine aB X e j 0 (.refl _) X (zN (v:=q.kN.v) X (Ol h) Tryz.isAgg23 (iM _)) ?_;refine aB X e j 1 (.refl _) X (ar X) ?_;refine aB X e j 2 (.refl _) X (zN (v:=q.s0.v) X (Oi h) Tryz.isAgg22 (iM _)) ?_;refine aB X e j 3 (.refl _) X (ar X) ?_;refine aB X e j 4 (.refl _) X (cp (α:=cZ) (xs:=q.rs) (i:=(m:Int)) X X Tryz.runUnderlying22 Tryz.sizeOf29 X ab (FT h f.hl) O (by have:m<q.rs.length:=s;omega)) ?_;refine aB X e j 5 (.refl _) X (ik (α:=cZ) (xs:=q.rs) (ch:=enc x) X (FT h f.hl) Tryz.isAgg29 Tryz.sizeOf29 (an.len _) ab ((tf y (iM _)).off (by simp;rfl))) ?_;refine cP 6 (λk=>?_);refine cl X (vs:=[.agg (enc (cZ.mk x.v x.h1)).toArray]) ⟨X,bo⟩ Tryz.call13 (V0 (f.res m x y) (.refl []) (aaR h f) hrel) (λD L2 v o M=>?_);obtain⟨B,C,rfl,rfl⟩:=M;refine aC (gP k (λ_ w n=>(n.weaken o).sublist (List.nil_sublist _)) ?_);refine cP 7 (λk=>?_);refine lr (NT (b:=q.N+1) (off:=0) (len:=q.J) (cap:=q.J) (i:=m) X X Tryz.runUnderlying23 Tryz.sizeOf35 s) ?_;refine aC (gP k (λ_ w n=>(n.weaken o).sublist (List.nil_sublist _)) ?_);refine eM (by kernel_rfl) ?_;exact eK (B,C) o ⟨by simp[look],X,X,X,X,X,X,bo⟩ X bo
  .rintro D ⟨B,C⟩ o-
   intro a hd w F n;exact iO.stop λw1 r=>W7 h L s X X F (n.rely r)
 have l:=(lU.env (q:=q) W t2 t3 t4 t5 t6).put (d:=6) (by show 6<17;decide) (.tuple #[.int .i64 m,.bool true]);exact A _ _ w l (Gf h H)
theorem LV{g:Goroutine}(a:lU q g):(q.ct w0 Post).tY g:=by
 refine⟨?_,ZC a,λw e=>?_⟩
 .obtain⟨T,_,_,_,_,_,_,rfl⟩:=a;rfl
 .obtain⟨T,d,_,_,_,_,_,rfl⟩:=a;rw[Md];exact⟨_,abc d w e⟩
theorem recv(h:q.iA w0)(f:q.Fit):∀(r:Nat)(g:Goroutine),lU q g->(q.ct w0 Post).Recv r g
 |0,_,a=>LV a
 |r+1,_,a=>⟨LV a,λ_ i _ e=>fA h f (λg' d=>recv h f r g' d) i a e⟩
theorem RB(h:q.iA w0)(f:q.Fit){w:World}(A:(q.ct w0 Post).Base w):iO Tryz.prog false (λ_ g _=>(q.ct w0 Post).Recv (q.ct w0 Post).J g) (q.ct w0 Post).eI (born Tryz.prog (call11 q)) w:=by
 letI:Co Tryz.prog:=nc Tryz.prog false (λ_ g _=>(q.ct w0 Post).Recv (q.ct w0 Post).J g)
 have y:(baseD 11).kind≠.early:=by simp[baseD]
 refine kr (C:=nc Tryz.prog false (λ_ g _=>(q.ct w0 Post).Recv (q.ct w0 Post).J g)) X (λw1=>RF q w1) ?_;rw[show(Go.Item.code qu:Go.Item)=.code (match qu with|.seq (.region i o _) (.seq (.region j r _) (.block z (.loop _)))=>.seq (.region i o false) (.seq (.region j r.toList.toArray false) (.block z (.loop jf)))|x=>x)from X];simp only[qu,Tryz.f11,f7];refine kr (C:=nc Tryz.prog false (λ_ g _=>(q.ct w0 Post).Recv (q.ct w0 Post).J g)) X (λw1=>stepG_seq) (kr (C:=nc Tryz.prog false (λ_ g _=>(q.ct w0 Post).Recv (q.ct w0 Post).J g)) X (λw1=>stepG_region) (kr (C:=nc Tryz.prog false (λ_ g _=>(q.ct w0 Post).Recv (q.ct w0 Post).J g)) X (λw1=>stepG_defer (f:=12) (i:=0) (rest:=[]) X X y X) ?_));refine Ns (n:=⟨17,kj q⟩) (w0:=w0) (e:=[(0,pv (q.N+5) 0),(1,pv (q.N+4) 0),(2,pv q.N 0),(3,pv (q.N+2) 0)]) (F:=q.F0 w0) (L:=[]) ?_ ⟨by simp[Act.put,kj,Act.eval],by simp[Act.put],λt v a=>?_⟩ (Gf h A)
 .refine GI (dy.seq (dy.region y ?_));refine lr (zN (v:=.chan (some (q.N+3))) X (Om h) Tryz.isAgg62 (iM _)) (ng ?_);refine dy.block (dy.loop ?_);have e:jf=.seq (.region 2 mQ false) lO:=X;rw[show((Go.Item.code jf:Go.Item)::[.inLoop jf,.inBlock 0])=.code (.seq (.region 2 mQ false) lO)::[.inLoop jf,.inBlock 0]from congrArg (λc=>Go.Item.code c::[.inLoop jf,.inBlock 0]) e];refine dy.seq (GH ?_);intro a' B w' d D;exact iO.stop λ_ _=>recv h f _ _ (lU.of (d.sub ⟨X,X,X,X,X,bo⟩))
 simp only[look]at a;by_cases l:t=0
 .subst l;simp at a;rw[<-a];rfl
 by_cases m:t=1
 .subst m;simp at a;rw[<-a];rfl
 by_cases p:t=2
 .subst p;simp at a;rw[<-a];rfl
 by_cases s:t=3
 .subst s;simp at a;rw[<-a];rfl
 .have b (k:Nat) (x:¬t=k):(k==t)=false:=beq_false_of_ne (Ne.symm x);rw[b 0 l,b 1 m,b 2 p,b 3 s]at a;cases a
end eG
end Go.Proofs.YtklkkoelldkncaaGreatDoor
set_option linter.unusedSimpArgs false
set_option linter.unusedVariables false
set_option maxRecDepth 100000
namespace Go.Proofs.YtklkkoelldkncaaGreatDoor
open Go.Conc Go.ConcN Go.RowKit Go.Conc.Lib Go.ConcR.Gen an
open Go.ConcR (KK wgBlock WgAt stA smA rd wr DC0)
theorem wJ(T:Array Value)(h:T.size=37):∃V W v2 v3 v4 v5 v6 v7 v8 v9 a d e f g i j k m n o p s t y A B C D F H K L M P Q S,T=#[V,W,v2,v3,v4,v5,v6,v7,v8,v9,a,d,e,f,g,i,j,k,m,n,o,p,s,t,y,A,B,C,D,F,H,K,L,M,P,Q,S]:=by
 obtain⟨l⟩:=T;simp only[cj]at h;rcases l with _|⟨V,l⟩
 .simp at h
 rcases l with _|⟨W,l⟩
 .simp at h
 rcases l with _|⟨v2,l⟩
 .simp at h
 rcases l with _|⟨v3,l⟩
 .simp at h
 rcases l with _|⟨v4,l⟩
 .simp at h
 rcases l with _|⟨v5,l⟩
 .simp at h
 rcases l with _|⟨v6,l⟩
 .simp at h
 rcases l with _|⟨v7,l⟩
 .simp at h
 rcases l with _|⟨v8,l⟩
 .simp at h
 rcases l with _|⟨v9,l⟩
 .simp at h
 rcases l with _|⟨a,l⟩
 .simp at h
 rcases l with _|⟨d,l⟩
 .simp at h
 rcases l with _|⟨e,l⟩
 .simp at h
 rcases l with _|⟨f,l⟩
 .simp at h
 rcases l with _|⟨g,l⟩
 .simp at h
 rcases l with _|⟨i,l⟩
 .simp at h
 rcases l with _|⟨j,l⟩
 .simp at h
 rcases l with _|⟨k,l⟩
 .simp at h
 rcases l with _|⟨m,l⟩
 .simp at h
 rcases l with _|⟨n,l⟩
 .simp at h
 rcases l with _|⟨o,l⟩
 .simp at h
 rcases l with _|⟨p,l⟩
 .simp at h
 rcases l with _|⟨s,l⟩
 .simp at h
 rcases l with _|⟨t,l⟩
 .simp at h
 rcases l with _|⟨y,l⟩
 .simp at h
 rcases l with _|⟨A,l⟩
 .simp at h
 rcases l with _|⟨B,l⟩
 .simp at h
 rcases l with _|⟨C,l⟩
 .simp at h
 rcases l with _|⟨D,l⟩
 .simp at h
 rcases l with _|⟨F,l⟩
 .simp at h
 rcases l with _|⟨H,l⟩
 .simp at h
 rcases l with _|⟨K,l⟩
 .simp at h
 rcases l with _|⟨L,l⟩
 .simp at h
 rcases l with _|⟨M,l⟩
 .simp at h
 rcases l with _|⟨P,l⟩
 .simp at h
 rcases l with _|⟨Q,l⟩
 .simp at h
 rcases l with _|⟨S,l⟩
 .simp at h
 rcases l with _|⟨x,l⟩
 .exact⟨V,W,v2,v3,v4,v5,v6,v7,v8,v9,a,d,e,f,g,i,j,k,m,n,o,p,s,t,y,A,B,C,D,F,H,K,L,M,P,Q,S,X⟩
 .simp at h
noncomputable def iD:Code:=Tryz.f4.body.getD .skip
noncomputable def cA:Code:=match iD with
 |.seq _ (.seq _ (.seq _ (.seq _ (.seq _ (.seq (.seq _ (.block _ (.loop c))) _)))))=>c
 |_=>.skip
noncomputable def mU:Code:=match iD with
 |.seq _ (.seq _ (.seq _ (.seq _ (.seq _ (.seq _ r)))))=>r
 |_=>.skip
noncomputable def cB:Code:=match mU with
 |.seq (.seq _ (.block _ (.loop c))) _=>c
 |_=>.skip
noncomputable def yB:Code:=match mU with
 |.seq _ r=>r
 |_=>.skip
noncomputable def Fw:Array Oper:=match cA with
 |.seq _ (.seq _ (.seq (.block _ (.seq _ (.region _ o _))) _))=>o
 |_=>#[]
noncomputable def mf:Code:=match cA with
 |.seq _ (.seq _ (.seq _ r))=>r
 |_=>.skip
noncomputable def vg:Array Oper:=match yB with
 |.seq _ (.seq (.region _ o _) _)=>o
 |_=>#[]
noncomputable def nK:Code:=match yB with
 |.seq _ (.seq _ r)=>r
 |_=>.skip
def zZ(q:eG)(a:Act):Prop:=a.defers=[]/\a.tmps.size=37/\a.tmps[6]?=some (pv (q.N+2) 0)
def iZ(q:eG)(cs:List Frame)(g:Goroutine)(w:World):Prop:=∃a,zZ q a/\ConcN.Gen.AnchWN oB (λ_=>True) (q.N+5) ((base 4).at a [.inRegion vg [0],.code nK]) cs g w
namespace eG
variable {q:eG}{w0:World}{Post:Value->World->Prop}{cs:List Frame}
theorem Rg{g:Goroutine}{w:World}(h:iZ q cs g w):g.status=.running:=by obtain⟨a,_,T,rfl,_⟩:=h;rfl
theorem Rf(d:∀a,zZ q a->∀w,(q.ct w0 Post).qi (G ((base 4).at (a.put (some 35) (.tuple #[])) [.inRegion vg [],.code nK]) cs) w)(g:Goroutine)(w:World)(h:iZ q cs g w):
 ∃m,Goes Tryz.prog true (q.ct w0 Post).RL (q.ct w0 Post).D0 ((q.ct w0 Post).AtW1 (iZ q cs)) m g w:=by
 obtain⟨a,e,f⟩:=h;exact cy.waitRound (p:=q.ct w0 Post) tI X (A:=iZ q cs) (λg w i=>⟨a,e,i⟩) (d a e) g w f
section
variable (T:Array Value)(hT:T.size=37)
set_option maxHeartbeats 2000000 in
theorem aav(T:Array Value)(hT:T.size=37)(C:T[6]?=some (pv (q.N+2) 0))(D:T[8]?=some (pv (q.N+5) 0))(k:T[34]?=some (.chan (some (q.N+3))))(ops:Array Oper){o:Oper}(l:ops[1]?=some o)(d:o.op=.call {callee:=.builtin .close,args:=#[.tmp 34],argTypes:=#[62]})(a:o.dst=none)(j:o.guard=none):
 (q.ct w0 Post).ml (iZ q cs) 0 (G ((base 4).at ⟨T,[]⟩ [.inRegion ops [1],.code (.seq (.region 17 vg false) nK)]) cs):=by
 have B:(⟨T,[]⟩:Act).eval (.tmp 34)=.chan (some (q.N+3)):=by simp[Act.eval,oo,k]
 refine⟨X,?_,_,X,λw s r F x=>(stepG_close l (by simp[Region.wanted,j]) (base_kind 4) d B x (by kernel_rfl)).trans X,λw m=>⟨204,?_⟩⟩
 .unfold mayWake;simp only[G,Frame.at,l,mB,d]
 .refine(?_:(q.ct w0 Post).GL true (q.ct w0 Post).D0 ((q.ct w0 Post).AtKd (iZ q cs)) 204 _) w m;clear m w;have y:zZ q ⟨T,[]⟩:=⟨X,hT,C⟩
  have t:∀g w,ConcN.Gen.AnchWN oB (λ_=>True) (q.N+5) ((base 4).at ⟨T,[]⟩ [.inRegion vg [0],.code nK]) cs g w->iZ q cs g w:=λg w h=>⟨_,y,h⟩
  have n:(⟨T,[]⟩:Act).eval (.tmp 8)=pv (q.N+5) 0:=by simp[Act.eval,oo,D]
  rw[a];refine .pure cO X (λ_=>stepG_region_end) (.pure cO X (λ_=>stepG_seq) (.pure cO X (λ_=>stepG_region) ?_));refine .via cO X (λ_ _ h=>goes_call (f:=14) (fn:=waitFn oB) (c:=body_wait oB) (i:=0) (rest:=[]) X X (base_kind 4) X tI.f_wait (nm_wait oB) X h) ?_;rw[Array.size_map];have e:#[Operand.tmp 8].map (⟨T,[]⟩:Act).eval++Array.replicate 83 undef=#[.pointer (some ⟨q.N+5,0,none⟩)]++Array.replicate 83 undef:=by simp[n]
  exact cy.waitStart (p:=q.ct w0 Post) tI X (A:=iZ q cs) (b₀:=base 4) (a₀:=⟨T,[]⟩) (ops₀:=vg) (i₀:=0) (rest₀:=[]) (k₀:=[.code nK]) (cs:=cs) t e
end
theorem Hz(f:q.Fit):q.J<=9223372036854775807:=by
 have:=f.hl.le ab q.W (St.first q.W);exact iU this ab
set_option maxHeartbeats 4000000 in
theorem aau(h:q.iA w0)(f:q.Fit):∀(i c:Nat)(T:Array Value),T.size=37->T[6]?=some (pv (q.N+2) 0)->T[7]?=some (pv (q.N+4) 0)->T[8]?=some (pv (q.N+5) 0)->T[27]?=some (iv q.J)->T[28]?=some (iv c)->c+i=q.J->
 (q.ct w0 Post).GB (λg _=>(q.ct w0 Post).ml (iZ q cs) i g) 40 (G ((base 4).at ⟨T,[]⟩ [.code cB,.inLoop cB,.inBlock 2,.code yB]) cs):=by
 have k:(q.ct w0 Post).Fz (q.N+4):=(fz h _).2 O;have hJ:=Hz f;intro i
 induction i with
 |zero=>
  intro c T hT l m n e j hc;obtain⟨v0,v1,v2,v3,v4,v5,v6,v7,v8,v9,o,p,s,t,x,y,A,B,C,D,F,H,L,M,P,Q,S,V,W,zd,v30,ze,zf,zg,zh,zi,zk,rfl⟩:=wJ T hT;simp only[qW,pB,sQ,gU]at l m n e j;subst l m n e j;have q1:decide (c<q.J)=false:=cX O;simp only[cB,mU,iD,Tryz.f4,f7];refine .pure cO X (λ_=>stepG_seq) ?_
  (refine .pure cO X (λ_=>stepG_region) ?_;simp only[cj,bN,bV,Nat.reduceAdd,cb,List.range,List.range.loop])
  (refine .op cO X X (by k_ne) (λ_ _=>by simp[*,go_sem]) (λw d K a=>?_);go_simp;refine a _ ?_;clear a K d w;walk_nrm;try w_num)
  refine .pure cO X (λ_=>stepG_region_end) ?_;refine .pure cO X (λ_=>stepG_seq) ?_;refine .gz cO X ?_;refine .pure cO X (λ_=>stepG_exit X) ?_;simp only[yB,mU,iD,Tryz.f4,f7];refine .pure cO X (λ_=>stepG_seq) ?_
  (refine .pure cO X (λ_=>stepG_region) ?_;simp only[cj,bN,bV,Nat.reduceAdd,cb,List.range,List.range.loop])
  refine cy.GB.Fk (c:=q.N+4) (v:=.chan (some (q.N+3))) X (base_kind 4) (by simp[Act.eval]) h.work k Tryz.isAgg62 ?_
  walk_nrm
  exact .stop λw _=>aav _ (by simp) (by simp) (by simp) (by simp) _ X X X X
 |succ i ih=>
  intro c T hT l m n e j hc;obtain⟨v0,v1,v2,v3,v4,v5,v6,v7,v8,v9,o,p,s,t,x,y,A,B,C,D,F,H,L,M,P,Q,S,V,W,zd,v30,ze,zf,zg,zh,zi,zk,rfl⟩:=wJ T hT;simp only[qW,pB,sQ,gU]at l m n e j;subst l m n e j;have q1:decide (c<q.J)=true:=dl O;have q2:IntKind.i64.wrap ((c:Int)+1)=((c+1:Nat):Int):=by rw[IntKind.wrap_i64];omega
  simp only[cB,mU,iD,Tryz.f4,f7];refine .pure cO X (λ_=>stepG_seq) ?_
  (refine .pure cO X (λ_=>stepG_region) ?_;simp only[cj,bN,bV,Nat.reduceAdd,cb,List.range,List.range.loop])
  (refine .op cO X X (by k_ne) (λ_ _=>by simp[*,go_sem]) (λw d K a=>?_);go_simp;refine a _ ?_;clear a K d w;walk_nrm;try w_num)
  refine .pure cO X (λ_=>stepG_region_end) ?_;refine .pure cO X (λ_=>stepG_seq) ?_;refine .jp cO X ?_;refine .pure cO X (λ_=>stepG_skip) ?_;refine .pure cO X (λ_=>stepG_seq) ?_;refine .pure cO X (λ_=>stepG_block) ?_;refine .pure cO X (λ_=>stepG_seq) ?_
  (refine .pure cO X (λ_=>stepG_region) ?_;simp only[cj,bN,bV,Nat.reduceAdd,cb,List.range,List.range.loop])
  iterate 2 (refine .op cO X X (by k_ne) (λ_ _=>by simp[*,go_sem]) (λw d K a=>?_);go_simp;refine a _ ?_;clear a K d w;walk_nrm;try w_num)
  refine .pure cO X (λ_=>stepG_region_end) ?_
  (refine .pure cO X (λ_=>stepG_region) ?_;simp only[cj,bN,bV,Nat.reduceAdd,cb,List.range,List.range.loop])
  refine cy.GB.Fk (c:=q.N+4) (v:=.chan (some (q.N+3))) X (base_kind 4) (by simp[Act.eval]) h.work k Tryz.isAgg62 ?_
  walk_nrm
  (refine .op cO X X (by k_ne) (λ_ _=>by simp[*,go_sem]) (λw d K a=>?_);go_simp;refine a _ ?_;clear a K d w;walk_nrm;try w_num)
  have e1:((q.J:Int)-((i+1:Nat):Int))=(c:Int):=by omega
  refine .stop λw _=>⟨X,⟨.tuple #[],λw=>?_⟩,λw d=>⟨40+7,?_⟩⟩
  .rw[show((q.ct w0 Post).J:Int)=(q.J:Int)from X,e1];exact RW X X (base_kind 4) (by simp[execOp,scase,Act.eval];rfl) (by simp[execOp,Act.eval])
  .rw[Z2];refine(?_:(q.ct w0 Post).GB (λg _=>(q.ct w0 Post).ml (iZ q cs) i g) (40+7) _) w d;clear d w
   walk_nrm
   refine .pure cO X (λ_=>stepG_region_end) ?_;refine .pure cO X (λ_=>stepG_inBlock) ?_
   (refine .pure cO X (λ_=>stepG_region) ?_;simp only[cj,bN,bV,Nat.reduceAdd,cb,List.range,List.range.loop])
   iterate 2 (refine .op cO X X (by k_ne) (λ_ _=>by simp[*,go_sem]) (λw d K a=>?_);go_simp;refine a _ ?_;clear a K d w;walk_nrm;try w_num)
   refine .pure cO X (λ_=>stepG_region_end) ?_;refine .pure cO X (λ_=>stepG_inLoop) ?_;exact ih (c+1) _ (by simp) (by simp) (by simp) (by simp) (by simp) (by simp) O
noncomputable def p1 (T:Array Value) (cs:List Frame):Goroutine:=G ((base 4).at ⟨T,[]⟩ [.inRegion Fw [],.inBlock 1,.code mf,.inLoop cA,.inBlock 0,.code mU]) cs
set_option maxHeartbeats 4000000 in
theorem Mo(h:q.iA w0)(f:q.Fit){r i:Nat}(hi:i<q.eY)(next:∀(T:Array Value),T.size=37->T[3]?=some (pv q.N 0)->T[6]?=some (pv (q.N+2) 0)->T[7]?=some (pv (q.N+4) 0)->T[8]?=some (pv (q.N+5) 0)->T[20]?=some (iv q.eY)->T[21]?=some (iv i)->∀w,(q.ct w0 Post).Live w->(q.ct w0 Post).kV (iZ q cs) r (p1 T cs) w)
 {T:Array Value} (hT:T.size=37) (j:T[3]?=some (pv q.N 0)) (k:T[6]?=some (pv (q.N+2) 0)) (l:T[7]?=some (pv (q.N+4) 0)) (m:T[8]?=some (pv (q.N+5) 0)) (e:T[20]?=some (iv q.eY)) (g:T[21]?=some (iv i)):
 (q.ct w0 Post).GL true (q.ct w0 Post).D0 ((q.ct w0 Post).AtKdS ((q.ct w0 Post).kV (iZ q cs) r)) 212 (G ((base 4).at ⟨T,[]⟩ [.code cA,.inLoop cA,.inBlock 0,.code mU]) cs):=by
 obtain⟨v0,v1,v2,v3,v4,v5,v6,v7,v8,v9,o,s,t,x,y,A,B,C,D,F,H,L,M,P,Q,S,V,W,Gs,zd,v30,ze,zf,zg,zh,zi,zk,rfl⟩:=wJ T hT;simp only[qW,pB,sQ,gU]at j k l m e g;subst j k l m e g;have q1:decide (i<q.eY)=true:=dl hi;simp only[cA,iD,Tryz.f4,f7];refine .pure cO X (λ_=>stepG_seq) ?_
 (refine .pure cO X (λ_=>stepG_region) ?_;simp only[cj,bN,bV,Nat.reduceAdd,cb,List.range,List.range.loop])
 (refine .op cO X X (by k_ne) (λ_ _=>by simp[*,go_sem]) (λw d K a=>?_);go_simp;refine a _ ?_;clear a K d w;walk_nrm;try w_num)
 refine .pure cO X (λ_=>stepG_region_end) ?_;refine .pure cO X (λ_=>stepG_seq) ?_;refine .jp cO X ?_;refine .pure cO X (λ_=>stepG_skip) ?_;refine .pure cO X (λ_=>stepG_seq) ?_;refine .pure cO X (λ_=>stepG_block) ?_;refine .pure cO X (λ_=>stepG_seq) ?_
 (refine .pure cO X (λ_=>stepG_region) ?_;simp only[cj,bN,bV,Nat.reduceAdd,cb,List.range,List.range.loop])
 refine .via cO X (λ_ _ h=>goes_call (f:=10) (fn:=addFn oB) (c:=body_add oB) (i:=0) (rest:=[]) X X (base_kind 4) X tI.f_add (nm_add oB) X h) ?_;rw[Array.size_map];refine cy.addPos (p:=q.ct w0 Post) tI X (Next:=(q.ct w0 Post).kV (iZ q cs) r) (mT:=10) ?_ ?_
 .simp[Act.eval,ct];rfl
 walk_nrm
 refine .pure cO X (λ_=>stepG_region_end) ?_
 (refine .pure cO X (λ_=>stepG_region) ?_;simp only[cj,bN,bV,Nat.reduceAdd,cb,List.range,List.range.loop])
 (refine .op cO X X (by k_ne) (λ_ _=>by simp[*,go_sem]) (λw d K a=>?_);go_simp;refine a _ ?_;clear a K d w;walk_nrm;try w_num)
 refine .stop λw d=>⟨X,_,born Tryz.prog (call11 q),aay X X (base_kind 4) (by simp[execOp,Act.eval,resolve,Deferred.ofValue,call11]) X (by simp[execOp,Act.eval,resolve,Deferred.ofValue]),X,λn=>RB h f n,?_⟩
 exact next _ (by simp) (by simp) (by simp) (by simp) (by simp) (by simp) (by simp) w d
theorem Kj(f:q.Fit):q.s0.len=q.J:=by
 obtain⟨_,_,h⟩:=f.hl q.W (St.first q.W);exact h.len ab
set_option maxHeartbeats 4000000 in
theorem spn(h:q.iA w0)(f:q.Fit):∀(r i:Nat),i+1+r=q.eY->∀(T:Array Value),T.size=37->T[3]?=some (pv q.N 0)->T[6]?=some (pv (q.N+2) 0)->T[7]?=some (pv (q.N+4) 0)->T[8]?=some (pv (q.N+5) 0)->T[20]?=some (iv q.eY)->T[21]?=some (iv i)->
 ∀w,(q.ct w0 Post).Live w->(q.ct w0 Post).kV (iZ q cs) r (p1 T cs) w:=by
 have h8:=f.h8;have t:(q.ct w0 Post).Fz q.N:=(fz h _).2 O;intro r
 induction r with
 |zero=>
  intro i hi T hT l m n o d j w s hb;refine⟨63,(?_:(q.ct w0 Post).GB (λg _=>(q.ct w0 Post).ml (iZ q cs) (q.ct w0 Post).J g) 63 _) w hb⟩;clear s hb w;obtain⟨v0,v1,v2,v3,v4,v5,v6,v7,v8,v9,x,y,A,B,C,D,F,H,L,M,P,Q,S,V,W,MJ,MK,ML,Gs,zd,v30,ze,zf,zg,zh,zi,zk,rfl⟩:=wJ T hT;simp only[qW,pB,sQ,gU]at l m n o d j;subst l m n o d j;have q1:decide (i+1<q.eY)=false:=cX O;have q2:IntKind.i64.wrap ((i:Int)+1)=(i:Int)+1:=by rw[IntKind.wrap_i64];omega
  have q3:decide ((i:Int)+1<(q.eY:Int))=false:=cX O;simp only[p1,Fw,mf,cA,iD,Tryz.f4,f7];refine .pure cO X (λ_=>stepG_region_end) ?_;refine .pure cO X (λ_=>stepG_inBlock) ?_
  (refine .pure cO X (λ_=>stepG_region) ?_;simp only[cj,bN,bV,Nat.reduceAdd,cb,List.range,List.range.loop])
  iterate 2 (refine .op cO X X (by k_ne) (λ_ _=>by simp[*,go_sem]) (λw k K a=>?_);go_simp;refine a _ ?_;clear a K k w;walk_nrm;try w_num)
  refine .pure cO X (λ_=>stepG_region_end) ?_;refine .pure cO X (λ_=>stepG_inLoop) ?_;refine .pure cO X (λ_=>stepG_seq) ?_
  (refine .pure cO X (λ_=>stepG_region) ?_;simp only[cj,bN,bV,Nat.reduceAdd,cb,List.range,List.range.loop])
  (refine .op cO X X (by k_ne) (λ_ _=>by simp[*,go_sem]) (λw k K a=>?_);go_simp;refine a _ ?_;clear a K k w;walk_nrm;try w_num)
  refine .pure cO X (λ_=>stepG_region_end) ?_;refine .pure cO X (λ_=>stepG_seq) ?_;refine .gz cO X ?_;refine .pure cO X (λ_=>stepG_exit X) ?_;simp only[mU,iD,Tryz.f4,f7]
  iterate 2 (refine .pure cO X (λ_=>stepG_seq) ?_)
  (refine .pure cO X (λ_=>stepG_region) ?_;simp only[cj,bN,bV,Nat.reduceAdd,cb,List.range,List.range.loop])
  refine cy.GB.Fk (c:=q.N) (v:=.slice q.s0.a q.s0.len q.s0.cap) X (base_kind 4) (by simp[Act.eval]) h.EZ t Tryz.isAgg22 ?_
  walk_nrm
  have p:∀w,(underlying 22).run (q.ct w0 Post).P w=.ok (.slice 29) w:=Tryz.runUnderlying22;refine cy.GB.ld X X (base_kind 4) (.int .i64 q.s0.len) (λw _=>by simp[execOp,Act.eval,resolve,invoke,builtin,Builtin.len_,p,goInt]) (λw _ e he=>by simp[execOp,Act.eval,resolve,invoke,builtin,Builtin.len_,p]at he) ?_
  walk_nrm
  (refine .op cO X X (by k_ne) (λ_ _=>by simp[*,go_sem]) (λw k K a=>?_);go_simp;refine a _ ?_;clear a K k w;walk_nrm;try w_num)
  refine .pure cO X (λ_=>stepG_region_end) ?_;refine .pure cO X (λ_=>stepG_block) ?_;refine .pure cO X (λ_=>stepG_loop) ?_;exact aau h f q.J 0 _ (by simp) (by simp) (by simp) (by simp) (by simp[Kj f]) (by simp) O
 |succ r ih=>
  intro i hi T hT l m n o d j w s;refine⟨219,(?_:(q.ct w0 Post).GL true (q.ct w0 Post).D0 ((q.ct w0 Post).AtKdS ((q.ct w0 Post).kV (iZ q cs) r)) 219 _) w s⟩;clear s w;obtain⟨v0,v1,v2,v3,v4,v5,v6,v7,v8,v9,x,y,A,B,C,D,F,H,L,M,P,Q,S,V,W,MJ,MK,ML,Gs,zd,v30,ze,zf,zg,zh,zi,zk,rfl⟩:=wJ T hT;simp only[qW,pB,sQ,gU]at l m n o d j;subst l m n o d j;have q2:IntKind.i64.wrap ((i:Int)+1)=(i:Int)+1:=by rw[IntKind.wrap_i64];omega
  simp only[p1,Fw,mf,cA,iD,Tryz.f4,f7];refine .pure cO X (λ_=>stepG_region_end) ?_;refine .pure cO X (λ_=>stepG_inBlock) ?_
  (refine .pure cO X (λ_=>stepG_region) ?_;simp only[cj,bN,bV,Nat.reduceAdd,cb,List.range,List.range.loop])
  iterate 2 (refine .op cO X X (by k_ne) (λ_ _=>by simp[*,go_sem]) (λw k K a=>?_);go_simp;refine a _ ?_;clear a K k w;walk_nrm;try w_num)
  refine .pure cO X (λ_=>stepG_region_end) ?_;refine .pure cO X (λ_=>stepG_inLoop) ?_;exact Mo h f (i:=i+1) O (ih (i+1) O) (by simp) (by simp) (by simp) (by simp) (by simp) (by simp) (by simp)
end eG
end Go.Proofs.YtklkkoelldkncaaGreatDoor
set_option linter.unusedSimpArgs false
set_option linter.unusedVariables false
set_option maxRecDepth 100000
namespace Go.Proofs.YtklkkoelldkncaaGreatDoor
open Go.Conc Go.ConcN Go.RowKit Go.Conc.Lib Go.ConcR.Gen an
open Go.ConcR (KK wgBlock WgAt stA smA rd wr DC0)
section
variable {P:Program}{C:Co P}{a:Act}{h:bG}{w:World}{cs:List Frame}
theorem abl{f:FuncId}{fn:Func}{c:Code}{Post:Value->bG->World->Prop}{c0:Frame}(l:P.funcs[f]?=some fn)(o:wk P c (bodyPost P fn Post) a h w)(m:∀v g w',Post v g w'->C.K g (G (c0.finish v) cs) w'):
 C.K h (G ((base f).at a [.code c]) (c0::cs)) w:=by
 have d:∀(a':Act)(g:bG)(w':World)(todo:List Go.Item),bodyPost P fn Post .ret a' g w'->C.K g (G {(base f).at a' todo with mode:=.returning} (c0::cs)) w':=by rintro a' g w' todo ⟨hd,n⟩;refine C.step X λw1 r=>?_;obtain⟨v,i,j,k⟩:=n w1 r;exact⟨_,w1,_,Gl (b:=base f) X hd l i,j _,by rw[rT];exact m _ _ _ k⟩
 refine o (base f) [] _ (by simp[base]) λe a' g w' q=>?_
 cases e with
 |normal=>exact kr X (λ_=>stepG_end) (d a' g w' [] q)
 |ret=>exact λtodo=>d a' g w' todo q
 |_=>exact q.elim
end
theorem aaD{P:Program}{a:Act}{f:FuncId}{fn:Func}{todo:List Go.Item}{v:Value}{w:World}(hd:a.defers=[])(e:P.funcs[f]?=some fn)(d:P.inits.idxOf? f=none)(g:(results fn a.tmps).run P w=.ok v w):
 stepG P true (G {(base f).at a todo with mode:=.returning} []) w=.ended (.done v) w (seen P f ((results fn a.tmps).events P w #[])):=by
 simp[G,stepG,unwind,doReturn,Frame.at,base,hd,e,g,d,GStep.after]
theorem Gw{P:Program}{S:bG->Goroutine->World->Prop}{a:Act}{h:bG}{w:World}{f:FuncId}{fn:Func}{Post:Value->bG->World->Prop}{todo:List Go.Item}(n:P.funcs[f]?=some fn)(i:P.inits.idxOf? f=none)
 (m:∀g d w' v es,g.status=.running->stepG P true g w'=.ended (.done v) w' es->(∀e∈es,ja d w'.heap.size e)->Post v d w'->S d g w') (q:bodyPost P fn Post .ret a h w):
 iO P true S h (G {(base f).at a todo with mode:=.returning} []) w:=by
 obtain⟨hd,o⟩:=q;refine iO.stop λw1 r=>?_;obtain⟨v,j,k,l⟩:=o w1 r;exact m _ _ _ v _ X (aaD hd n i j) (k f).ev l
theorem M7{P:Program}{S:bG->Goroutine->World->Prop}{a:Act}{h:bG}{w:World}{f:FuncId}{fn:Func}{Post:Value->bG->World->Prop}{ops:Array Oper}{l:List Oper}{i:Nat}{y:Code}(o:P.funcs[f]?=some fn)(k:P.inits.idxOf? f=none)
 (n:∀g d w' v es,g.status=.running->stepG P true g w'=.ended (.done v) w' es->(∀e∈es,ja d w'.heap.size e)->Post v d w'->S d g w') (p:∀j,l[j]?=ops[i+j]?)
 (q:letI:Co P:=nc P true S;gv P ops (j9 (wk P y (bodyPost P fn Post)) (bodyPost P fn Post)) l a h w):
 iO P true S h (G ((base f).at a [.inRegion ops (List.range' i l.length),.code y]) []) w:=by
 letI C:Co P:=nc P true S
 have m:∀e a' d w',bodyPost P fn Post e a' d w'->rL C (base f) [] [] e a' d w':=λe a' d w' q=>by
  cases e with
  |normal=>exact kr (C:=C) X (λ_=>stepG_end) (Gw (todo:=[]) o k n q)
  |ret=>exact λtodo=>Gw o k n q
  |_=>exact q.elim
 refine Cw (C:=C) l i p q (by simp[base]) λx a' d w' q=>?_
 cases x with
 |normal=>exact q (base f) [] [] (by simp[base]) m
 |ret=>exact λtodo=>Gw o k n q
 |_=>exact q.elim
noncomputable def nb:Code:=Tryz.f3.body.getD .skip
noncomputable def jv:Array Oper:=match nb with
 |.seq _ (.seq (.region _ o _) _)=>o
 |_=>#[]
noncomputable def p5:Code:=match nb with
 |.seq _ (.seq _ y)=>y
 |_=>.skip
noncomputable def c0 (a:Act):Frame:=(base 3).at a [.inRegion jv (List.range' 2 (jv.size-2)),.code p5]
theorem Ko{fu:Nat}{res:Nat->dk}:∀(l:List fN)(k:Nat),(∀m x,l[m]?=some x->kI fu x=some (res (k+m)))->oE fu l=some ((List.range' k l.length).map res)
 |[],_,_=>rfl
 |x::l,k,h=>by
  have d:=h 0 x X;have e:=Ko (res:=res) l (k+1) λm y f=>by rw[show k+1+m=k+(m+1) by omega];exact h (m+1) y (by simpa using f)
  simp only[oE,d,e,gK,bN,List.range'_succ,ow,mA]
namespace eG
variable {q:eG}{w0:World}
def j8(q:eG)(v:Value)(w:World):Prop:=v=.bool true/\Below q.N q.W w
def F1(q:eG)(w:World):bk:=λb=>if b<w.heap.size/\b≠q.N+5 then w.heap[b]? else none
theorem ZQ(f:q.Fit):oD q.fu q.eY (q.rs.map cZ.v)=some ((List.range q.J).map q.res,0):=by
 have g:=f.h1;have i:=f.h8;unfold oD
 rw[show(decide ((q.eY:Int)<1)||decide ((q.eY:Int)>8))=false by simp;omega,lF,
  Ko (res:=q.res) (q.rs.map cZ.v) 0 λm x d=>by
   rw[kD]at d;obtain⟨y,e,rfl⟩:=pw.1 d
   rw[cb];exact f.res m y e]
 simp[J,E1]
theorem CL{w:World}{b:Nat}{o:Obj}(d:w.heap[b]?=some o)(e:b≠q.N+5):q.F1 w b=some o:=by unfold F1;rw[ce ⟨(gV.1 d).1,e⟩,d]
theorem Oz{w:World}(h:q.iA w0)(f:(q.ct w0 q.j8).Base w):cS (bk.of q.W) (q.F1 w):=λb o e=>by have d:b<q.N:=(gV.1 e).1;exact CL ((f.block b ((fz h b).2 O)).trans ((h.below.block b d).trans e)) O
theorem sh1{w:World}(h:q.iA w0)(d:(q.ct w0 q.j8).Base w):SH q.W (q.F1 w) [] ((q.ct w0 q.j8).EP w) w:=by
 refine⟨⟨⟨d.os.trans h.below.os,d.tape.trans h.below.tape,d.output.trans h.below.output,iU h.below.size d.size,λk f=>by omega⟩,λb o e=>?_,λb d=>by simp[cu]at d,λi hi=>by simp at hi,by simp[cu]⟩,λb d=>by simp[cu]at d,λb o e=>.inl ?_⟩
 .unfold F1 at e;split at e
  .exact e
  .cases e
 .unfold F1 at e;split at e
  .assumption
  .cases e
theorem outs{w:World}(h:q.iA w0)(f':q.Fit)(hF:(q.ct w0 q.j8).Hq w):∃t:List b7,t.map b7.v=(List.range q.J).map q.res/\Rd q.W (q.F1 w) [] q.kN t/\aL b7.rel q.W (q.F1 w) [] t:=by
 classical
 obtain⟨y,_,V,S,⟨o,T,h2,h3⟩,B,hS,_⟩:=hF;have one:∀m,m<q.J->∃x:b7,x.v=q.res m/\gW (World.hp w) x.h1 24 1 (I x.v.fv)/\gW (World.hp w) x.h3 42 10 (I x.v.fy)/\(∀j,j<5->o[m*5+j]?=(enc x)[j]?)/\∀b,b∈x.h1.bH\/b∈x.h3.bH->q.N+6<=b/\b<w.heap.size:=λm d=>by
  obtain⟨v,F,W,s3,e,M,Q,hs⟩:=B m d;obtain⟨x,ex,L⟩:=h3 m v d F;have:enc x=enc (b7.mk (q.res m) W s3):=by have:=ex.symm.trans e;simpa using this
  refine⟨b7.mk (q.res m) W s3,X,M,Q,λj D=>by rw[<-this];exact L j D,λb l=>?_⟩;have:=hS m b d (hs b l);rw[show(q.ct w0 q.j8).fW=w0 from X,h.size]at this;exact this
 let f:Nat->b7:=λm=>if d:m<q.J then Classical.choose (one m d)else b7.mk (q.res m) Sl.nil Sl.nil
 have H:∀m,m<q.J->(f m).v=q.res m/\gW (World.hp w) (f m).h1 24 1 (I (f m).v.fv)/\gW (World.hp w) (f m).h3 42 10 (I (f m).v.fy)/\(∀j,j<5->o[m*5+j]?=(enc (f m))[j]?)/\∀b,b∈(f m).h1.bH\/b∈(f m).h3.bH->q.N+6<=b/\b<w.heap.size:=λm d=>by have e:f m=Classical.choose (one m d):=dif_pos d;rw[e];exact Classical.choose_spec (one m d)
 have n:((List.range q.J).map f).length=q.J:=by simp
 have A:o=(I ((List.range q.J).map f)).toArray:=by
  apply AX;intro i;have hl:(I ((List.range q.J).map f)).length=q.J*5:=by rw[d7,n];rfl
  by_cases hi:i<q.J*5
  .have d:i/5<q.J:=by omega
   have D:i%5<5:=uG _ O;have e:i=i/5*5+i%5:=by omega
   have g:bu (I ((List.range q.J).map f)) (i/5*5+0) (enc (f (i/5))):=tf (i:=i/5) (k:=0) (by simp[d]) (iM _);have F:(enc (f (i/5)))[i%5]?=some (enc (f (i/5)))[i%5]:=je (by rw[an.len];exact D);have:=g.at F;rw[mA]at this;rw[e,(H _ d).2.2.2.1 _ D,qW,this,F]
  .rw[Array.getElem?_eq_none O,qW,nv O]
 have keep:∀w',St q.W (q.F1 w) [] w'->∀b,b≠q.N+5->b<w.heap.size->World.hp w' b=World.hp w b:=λw' s b K p=>by have e:w.heap[b]?=some w.heap[b]:=xx p;show w'.heap[b]?=w.heap[b]?;rw[e];exact s.gh b _ (CL e K)
 refine⟨(List.range q.J).map f,?_,λw' s=>⟨35,(0,0),?_⟩,λx L=>?_⟩
 .rw[List.map_map];exact List.map_congr_left λm d=>(H m (by simpa using d)).1
 .have p:q.N+1<w.heap.size:=(gV.1 T).1;refine⟨by rw[d7,n];rfl,iU (Hz f') ab,.inr ⟨q.N+1,0,[],[],X,?_,X,dO _,?_⟩⟩
  .rw[keep w' s _ O p];show w.heap[q.N+1]?=_;rw[T,A];simp
  .simp[d7,kN]
 .obtain⟨m,d,rfl⟩:=mE.1 L;have d:m<q.J:=by simpa using d
  obtain⟨_,M,Q,_,l⟩:=H m d
  exact⟨λw' s=>⟨24,(0,0),sV (λb y=>keep w' s b (by have:=l b (.inl y);omega) (l b (.inl y)).2) M⟩,
   λw' s=>⟨42,(0,0),sV (λb y=>keep w' s b (by have:=l b (.inr y);omega) (l b (.inr y)).2) Q⟩⟩
theorem abd{w0:World}{F d:bk}{h:bG}{w:World}(g:SH w0 d [] h w)(f:cS F d):SH w0 F [] h w:=
 ⟨g.toSt.weaken f,λb i=>by simp[cu]at i,λb o e=>g.rd b o (f b o e)⟩
set_option maxHeartbeats 1000000 in
theorem fin(h:q.iA w0)(f:q.Fit)(H:nH q.fu q.eY (q.rs.map cZ.v)=some true){p:Act}(B:cG ⟨159,[]⟩ p [(17,Sl.v q.s0),(16,iv q.eY),(4,.bool false),(0,iv q.eY),(1,Sl.v q.s0)])(a:Act)(F:zZ q a)(w:World):
 (q.ct w0 q.j8).qi (G ((base 4).at (a.put (some 35) (.tuple #[])) [.inRegion vg [],.code nK]) [c0 p]) w:=by
 refine⟨X,λw s=>?_⟩;obtain⟨T,m1,m2,m3⟩:=outs h f s;have D:=sh1 h s.1
 letI C:Co Tryz.prog:=nc Tryz.prog true (q.ct w0 q.j8).AtRet
 obtain⟨i0,o0,i1,o1,W,o3,l,y,A,hL⟩:=HE (C:=C) (sa1:=q.s0) (pZ:=q.rs) H q.W (bk.of q.W) [] [] (.refl _) f.Mv X f.hl f.ha _ (ZQ f) (q.F1 w) q.kN T (Oz h s.1) m1 m2 m3;have V:jv=(o1::W::o3::l).toArray:=by simp only[jv,nb,A,f7]
 have r3:p5=y:=by simp only[p5,nb,A,f7]
 have d3:(jv[2]?).bind (·.dst)=some 18:=X;refine kr (C:=C) X (λ_=>stepG_region_end) ?_;refine abl (C:=C) (f:=4) (c:=nK) Tryz.func4 (Post:=lQ q.W (q.F1 w) (Is (.tuple #[Sl.v q.kN,iv 0]) [])) ?_ ?_
 .have m:q.F1 w (q.N+2)=some (.cells [q.kN.v].toArray 23 (0,0)):=CL ((s.1.block _ ((fz h _).2 O)).trans h.out) O;have Q:Cd Tryz.prog ⟨37,[]⟩ q.W (bodyPost Tryz.prog Tryz.f4 (lQ q.W (q.F1 w) (Is (.tuple #[Sl.v q.kN,iv 0]) []))) nK [(6,pv (q.N+2) 0)] (q.F1 w) []:=by
   rw[show nK=(match nK with|.seq (.region i o _) _=>.seq (.region i o.toList.toArray false) .ret|x=>x)from X];simp only[nK,yB,mU,iD,Tryz.f4,f7];refine ae<|lr (zN (v:=q.kN.v) X m Tryz.isAgg23 (iM _))<|ag X<|ag X<|aa ?_;refine aV ?_;exact dC X (aO X) (aO X) fl rl ⟨X,X⟩
  refine Q _ _ _ ⟨F.1,by simp[Act.put,F.2.1],λt v n=>?_⟩ D;simp only[look]at n;by_cases e:t=6
  .subst e;simp at n;subst n;simp[Act.put,Ff,F.2.2]
  .rw[show(6==t)=false from beq_false_of_ne (Ne.symm e)]at n;cases n
 .rintro v h' w' ⟨F',L',L,M,rfl,rfl⟩;have hx:(c0 p).finish (.tuple #[Sl.v q.kN,iv 0])=(base 3).at (p.put (some 18) (.tuple #[Sl.v q.kN,iv 0])) [.inRegion (o1::W::o3::l).toArray (List.range' 3 l.length),.code y]:=by
   have e4:jv.size-2=l.length+1:=by rw[V];simp
   unfold c0;rw[e4,List.range'_succ,Frame.finish_at,d3,V,r3]
  rw[hx];refine M7 (S:=(q.ct w0 q.j8).AtRet) (f:=3) (i:=3) Tryz.func3 (by kernel_rfl) ?_ (λj=>by simp[nt 3 j]) (hL _ _ _ (B.put (d:=18) ab _) (abd M L));rintro g h2 w2 v es hs he K ⟨F2,L2,f1,k,rfl,rfl⟩;refine⟨hs,_,es,he,K,X,k.below.os,k.below.tape,k.below.output,k.below.size,λb A=>?_⟩;have e:q.W.heap[b]?=some q.W.heap[b]:=xx A;rw[e];exact k.gh b _ (f1 b _ e)
end eG
end Go.Proofs.YtklkkoelldkncaaGreatDoor
set_option linter.unusedSimpArgs false
set_option linter.unusedVariables false
set_option maxRecDepth 100000
namespace Go.Proofs.YtklkkoelldkncaaGreatDoor
open Go.Conc Go.ConcN Go.RowKit Go.Conc.Lib Go.ConcR.Gen an
open Go.ConcR (KK wgBlock WgAt stA smA rd wr DC0 ofEvent_cell)
theorem gA{Wg:Nat}(x:Event)(h:rN x):EvL Wg x:=by obtain⟨d,wr,e⟩:=x;rcases h with⟨f,h⟩|h<;>(simp only at h;subst h;exact⟨λy a=>by simp[MemAct.ofEvent,MemAct.touch?]at a,by simp,by simp,by simp⟩)
theorem Sm{Wg B:Nat}(f:B≠Wg)(x:Event)(j:x.sync=false)(h:gH x.loc=some B):EvL Wg x:=by
 obtain⟨g,wr,k⟩:=x
 cases g with
 |cell a=>refine⟨λy d=>?_,by simp,by simp,by simp⟩;simp only[ofEvent_cell,MemAct.touch?,gU]at d;subst d;simp only[gH,gU]at h;rintro⟨a',e,i⟩;cases e;exact f (h.symm.trans i)
 |obj r=>refine⟨λy d=>?_,by simp,by simp,by simp⟩;rintro⟨a',e,i⟩;simp only at j;subst j;cases wr<;>simp[MemAct.ofEvent,MemAct.touch?]at d<;>subst d<;>cases e
 |_=>simp[gH]at h
theorem Sa(args:Array Value):Frame.enter Tryz.prog 3 args .normal=(base 3).at ⟨args++Array.replicate (159-args.size) undef,[]⟩ [.code nb]:=by simp[Frame.enter,Frame.at,Tryz.func3,base,nb,Tryz.f3]
theorem Sb(args:Array Value):Frame.enter Tryz.prog 4 args .normal=(base 4).at ⟨args++Array.replicate (37-args.size) undef,[]⟩ [.code iD]:=by simp[Frame.enter,Frame.at,Tryz.func4,base,iD,Tryz.f4]
theorem DX{N m:Nat}{args:List Value}(h:args.length+m=N):cG ⟨N,[]⟩ ⟨args.toArray++Array.replicate m undef,[]⟩ (sg 0 args):=by subst h;refine⟨X,by simp,λt v d=>?_⟩;have:=(Fl args 0 t v d).2;simp only[qR]at this;have a:=(ff.1 this).1;rw[E8 (by simpa using a)];simpa using this
set_option maxHeartbeats 4000000 in
theorem Km{hi:Int}{a:Sl}{W:World}{Wg:Nat}{S:Goroutine->World->Prop}(h:∀e,cG ⟨159,[]⟩ e [(17,Sl.v a),(16,iv hi),(4,.bool false),(0,iv hi),(1,Sl.v a)]->
 Lone Tryz.prog (EvL Wg) S (G ((base 4).at ⟨#[iv hi,Sl.v a]++Array.replicate 35 undef,[]⟩ [.code iD]) [c0 e]) W):Lone Tryz.prog (EvL Wg) S (G (Frame.enter Tryz.prog 3 #[iv hi,Sl.v a] .normal) []) W:=by
 rw[Sa];have d:(base 3).kind≠.early:=base_kind 3;rw[show(Go.Item.code nb:Go.Item)=.code (match nb with|.seq (.region i o _) (.seq (.region j _ _) _)=>.seq (.region i o false) (.seq (.region j jv false) p5)|x=>x)from X];simp only[nb,Tryz.f3,f7];refine .pure X stepG_seq<|.pure X stepG_region ?_;have n:cG ⟨159,[]⟩ ⟨#[iv hi,Sl.v a]++Array.replicate (159-2) undef,[]⟩ [(0,iv hi),(1,Sl.v a)]:=DX (args:=[iv hi,Sl.v a]) X;refine .jk X gA d X X ab n (it (v:=.bool false) X) (λp l=>.pure X stepG_region_end<|.pure X stepG_seq<|.pure X stepG_region ?_);rw[show List.range jv.size=0::1::2::List.range' 3 (jv.size-3)from X];refine .jk X gA d X X ab l (ar X) (λs m=>.jk X gA d X X ab m (ar X) (λk g=>?_));refine .call (f:=4) (xs:=[.tmp 16,.tmp 17]) (vs:=[iv hi,Sl.v a]) X d g ⟨X,X,bo⟩ Tryz.func4 X Tryz.call4 ?_;rw[Sb];exact h k (g.sub ⟨X,X,X,X,X,bo⟩)
namespace eG
variable {q:eG}
def w6(q:eG)(z:Array Value):World:=(((((q.W.alloc (.cells #[q.s0.v] 22)).alloc (.cells (madeCells z (q.J*5)) 35)).alloc (.cells #[q.kN.v] 23)).alloc (.chan 0 #[] false 0 0 false)).alloc (.cells #[.chan (some (q.N+3))] 62)).alloc (.cells #[.int .u64 0,.int .u32 0] 72)
theorem Cq(z:Array Value):(q.w6 z).heap=q.W.heap++#[.cells #[q.s0.v] 22,.cells (madeCells z (q.J*5)) 35,.cells #[q.kN.v] 23,.chan 0 #[] false 0 0 false,.cells #[.chan (some (q.N+3))] 62,.cells #[.int .u64 0,.int .u32 0] 72]:=by have a:∀(w:World)(o:Obj),(w.alloc o).heap=w.heap.push o:=λ_ _=>rfl;apply lc;simp only[w6,a,Array.toList_push,Array.toList_append,f9,qU,uD]
theorem vQ(z:Array Value){i:Nat}{o:Obj}(h:#[.cells #[q.s0.v] 22,.cells (madeCells z (q.J*5)) 35,.cells #[q.kN.v] 23,.chan 0 #[] false 0 0 false,.cells #[.chan (some (q.N+3))] 62,.cells #[.int .u64 0,.int .u32 0] 72][i]?=some o):(q.w6 z).heap[q.N+i]?=some o:=by rw[Cq,Array.getElem?_append_right (by simp[N])];simpa[N]using h
theorem Io(z:Array Value):q.iA (q.w6 z) where
 below:=⟨X,X,X,by rw[Cq];simp,λb a=>by rw[Cq,E8 a]⟩
 size:=by rw[Cq];simp[N]
 EZ:=vQ (i:=0) z X
 cells:=⟨_,vQ (i:=1) z X,size_madeCells _ _⟩
 out:=vQ (i:=2) z X
 ch:=vQ (i:=3) z X
 work:=vQ (i:=4) z X
 wg:=vQ (i:=5) z X
def Nq(q:eG)(g:Goroutine):Prop:=∃a T,cG ⟨159,[]⟩ a [(17,Sl.v q.s0),(16,iv q.eY),(4,.bool false),(0,iv q.eY),(1,Sl.v q.s0)]/\T.size=37/\T[3]?=some (pv q.N 0)/\T[6]?=some (pv (q.N+2) 0)/\T[7]?=some (pv (q.N+4) 0)/\T[8]?=some (pv (q.N+5) 0)/\T[20]?=some (iv q.eY)/\T[21]?=some (iv 0)/\
 g=G ((base 4).at ⟨T,[]⟩ [.code cA,.inLoop cA,.inBlock 0,.code mU]) [c0 a]
set_option maxHeartbeats 4000000 in
theorem VY(f:q.Fit)(H:q.J<=1048576){j:Act}(F:cG ⟨159,[]⟩ j [(17,Sl.v q.s0),(16,iv q.eY),(4,.bool false),(0,iv q.eY),(1,Sl.v q.s0)]):
 Lone Tryz.prog (EvL (q.N+5)) (λg w=>q.Nq g/\∃z,w=q.w6 z) (G ((base 4).at ⟨#[iv q.eY,Sl.v q.s0]++Array.replicate 35 undef,[]⟩ [.code iD]) [c0 j]) q.W:=by
 have d:(base 4).kind≠.early:=base_kind 4;have p:=f.h1;have h8:=f.h8;obtain⟨o,e⟩:∃z,Tryz.t35.zero=some z:=⟨_,X⟩
 rw[show(Go.Item.code iD:Go.Item)=.code (match iD with
  |.seq (.region L o1 _) (.seq (.seq (.region M V _) (.cond t x y)) (.seq (.region l W _) (.seq (.region P o4 _) (.seq (.region Q o5 _) (.seq (.seq (.region S o6 _) (.block 0 (.loop _))) _)))))=>
   .seq (.region L o1 false) (.seq (.seq (.region M V false) (.cond t x y)) (.seq (.region l W false) (.seq (.region P o4 false) (.seq (.region Q o5 false) (.seq (.seq (.region S o6 false) (.block 0 (.loop cA))) mU)))))
  |x=>x)from X]
 simp only[iD,Tryz.f4,f7];have K:cG ⟨37,[]⟩ ⟨#[iv q.eY,Sl.v q.s0]++Array.replicate 35 undef,[]⟩ [(0,iv q.eY),(1,Sl.v q.s0)]:=DX (args:=[iv q.eY,Sl.v q.s0]) X;refine .pure X stepG_seq<|.pure X stepG_region ?_;refine .box X X d X X ab K X (cs':=[Sl.v q.s0]) X (λa h=>?_);refine .jk X gA d X X ab h (it X) (λa h=>?_);refine .jk X gA d X X ab h (it X) (λa h=>.pure X stepG_region_end<|.pure X stepG_seq<|.pure X stepG_seq<|.pure X stepG_region ?_);have s:decide ((q.eY:Int)<1)=false:=cX O;have A:decide ((q.eY:Int)>8)=false:=cX O;refine .jk X gA d X X ab h (ar X) (λa h=>?_);refine .jk X gA d X X ab h (bF X X) (λa h=>?_);rw[s]at h;refine .jk X gA d X X ab h (ar X) (λa h=>?_);refine .B0 X gA d X X X X X ab h (ar X) (λa h=>?_);refine .B0 X gA d X X X X X ab h (ef X X) (λa h=>?_);rw[A]at h;refine .jk X gA d X X ab h (cx X X X) (λa h=>.pure X stepG_region_end<|.pure X (stepG_cond (t:=false) (h.eval X))<|.pure X stepG_skip<|.pure X stepG_seq<|.pure X stepG_region ?_);have k:∀i,i≠5->∀x:Event,x.sync=false->gH x.loc=some (q.N+i)->EvL (q.N+5) x:=λi hi x p D=>Sm (B:=q.N+i) O x p D;refine .load X X d X X ab h X (B:=q.N) (c:=Sl.v q.s0) (t':=22) (heap_alloc_new q.W _) Tryz.isAgg22 (k 0 ab) gA (λa h=>?_);refine .jk X gA d X X ab h (N0 (ad:=q.s0.a) (len:=q.s0.len) (cap:=q.s0.cap) X X Tryz.runUnderlying22) (λa h=>?_);rw[Kj f]at h;have n:Tryz.prog.info? 35=some Tryz.t35:=by kernel_rfl
 have l:Tryz.prog.info? 3=some Tryz.t3:=by kernel_rfl
 refine .make (m:=q.J) X X d X X ab h X Tryz.underlying23 n e ab H (λa h=>?_);simp only[World.size_alloc]at h;refine .alloc X X d X X ab h Tryz.zeroValue23 (cs':=[.slice none 0 0]) X (λa h=>?_);simp only[World.size_alloc]at h;refine .store (v:=q.kN.v) (B:=q.N+2) X X d X X h X (by simp only[World.size_alloc,N]) X X X Tryz.sizeOf23 (k 2 ab) gA (.pure X stepG_region_end<|.pure X stepG_seq<|.pure X stepG_region ?_);refine .chan X X d X X ab h Tryz.underlying62 l (λa h=>?_);simp only[World.size_alloc]at h;refine .alloc X X d X X ab h Tryz.zeroValue62 (cs':=[.chan none]) X (λa h=>?_);simp only[World.size_alloc]at h;refine .store (v:=.chan (some (q.N+3))) (B:=q.N+4) X X d X X h X (by simp only[World.size_alloc,N]) X X X Tryz.sizeOf62 (k 4 ab) gA (.pure X stepG_region_end<|.pure X stepG_seq<|.pure X stepG_region ?_);refine .alloc X X d X X ab h Tryz.zeroValue72 (cs':=[.int .u64 0,.int .u32 0]) X (λa h=>.pure X stepG_region_end<|.pure X stepG_seq<|.pure X stepG_seq<|.pure X stepG_region ?_);simp only[World.size_alloc]at h;refine .jk X gA d X X ab h (ar X) (λa h=>?_);refine .jk X gA d X X ab h (ar X) (λa h=>.pure X stepG_region_end<|.pure X stepG_block<|.pure X stepG_loop ?_);refine .stop ⟨⟨j,a.tmps,F,h.size,h.get 3 _ X,h.get 6 _ X,h.get 7 _ X,h.get 8 _ X,h.get 20 _ X,h.get 21 _ X,?_⟩,o.cells,X⟩;obtain⟨T,C⟩:=a;obtain rfl:C=[]:=h.defers;rfl
end eG
end Go.Proofs.YtklkkoelldkncaaGreatDoor
set_option linter.unusedSimpArgs false
set_option linter.unusedVariables false
set_option maxRecDepth 100000
namespace Go.Proofs.YtklkkoelldkncaaGreatDoor
open Go.Conc Go.ConcN Go.RowKit Go.Conc.Lib Go.ConcR.Gen an
open Go.ConcR (KK wgBlock WgAt stA smA rd wr DC0 ofEvent_cell)
namespace eG
variable {q:eG}
theorem aaA(f:q.Fit){z:Array Value}{a:Act}{T:Array Value}(j:T.size=37)(m:T[3]?=some (pv q.N 0))(n:T[6]?=some (pv (q.N+2) 0))(o:T[7]?=some (pv (q.N+4) 0))(p:T[8]?=some (pv (q.N+5) 0))(e:T[20]?=some (iv q.eY))(g:T[21]?=some (iv 0)):
 (q.ct (q.w6 z) q.j8).kV (iZ q [c0 a]) q.eY (G ((base 4).at ⟨T,[]⟩ [.code cA,.inLoop cA,.inBlock 0,.code mU]) [c0 a]) (q.w6 z):=by
 have h:=Io (q:=q) z;have s:=f.h1;obtain⟨r,l⟩:∃r,q.eY=r+1:=⟨q.eY-1,by omega⟩
 have d:=Mo (Post:=q.j8) (cs:=[c0 a]) h f (r:=r) (i:=0) O (spn h f r 0 O) j m n o p e g;have k:(q.ct (q.w6 z) q.j8).Live (q.w6 z):=⟨0,0,h.wg⟩
 rw[show(q.ct (q.w6 z) q.j8).kV (iZ q [c0 a]) q.eY=(q.ct (q.w6 z) q.j8).kV (iZ q [c0 a]) (r+1)from by rw[l]];exact⟨212,d (q.w6 z) k⟩
theorem ZN(f:q.Fit)(hJ:q.J<=1048576)(H:nH q.fu q.eY (q.rs.map cZ.v)=some true):
 ∃M last o w' t',runNT Tryz.prog (M+1) (solo (G (Frame.enter Tryz.prog 3 #[iv q.eY,Sl.v q.s0] .normal) []) q.W) #[]=(.ended o w',t')/\
  runN Tryz.prog M (solo (G (Frame.enter Tryz.prog 3 #[iv q.eY,Sl.v q.s0] .normal) []) q.W)=.next last/\step Tryz.prog last=.ended o w'/\Conc.Good Tryz.prog q.j8 last o w' t':=by
 obtain⟨n,F⟩:=Km (λy B=>VY f hJ B);obtain⟨k0,a0,w0,u,r0,⟨⟨y,T,B,hT,t3,t6,t7,t8,L,P,rfl⟩,z,rfl⟩,hu⟩:=solo_goesE #[] F;have h:=Io (q:=q) z;have l:=W5 (Post:=q.j8) h f;have i:∀op∈#[]++u,op.g=0/\(∀x,op.act.touch? =some x->¬ShN (q.N+5) x.loc)/\op.act≠.mark .disable/\op.act≠.mark .enable/\op.act≠.mark (.release (stA (q.N+5))):=λop s=>by simp only[Array.empty_append]at s;obtain⟨F,e,t,k⟩:=hu op s;have j:∀m,op.act=.mark m->e.loc=.mark m:=λm j=>Go.ConcR.loc_of_ofEvent (k▸j);exact⟨F,λx d=>t.1 x (k▸d),λd=>t.2.1 (j _ d),λd=>t.2.2.1 (j _ d),λd=>t.2.2.2 (j _ d)⟩
 obtain⟨A,C,D⟩:=h.cells;obtain⟨μ,hI⟩:=cy.start (p:=q.ct (q.w6 z) q.j8) (AnchW:=iZ q [c0 y]) l i (aaA f hT t3 t6 t7 t8 L P) h.wg ⟨_,_,_,h.ch⟩ ⟨A,C,D,λm v _ hv=>by cases hv⟩;obtain⟨N,last,o,Q,t',S,V,W,e4⟩:=cy.runs (p:=q.ct (q.w6 z) q.j8) (AnchW:=iZ q [c0 y]) l (λg w K=>Rg K) (λg w K=>Rf (λa ha w=>fin h f H B a ha w) g w K) hI;refine⟨k0+N,last,o,Q,t',?_,?_,W,e4⟩
 .rw[qP,runNT_add,r0];exact S
 .rw[runN_add,<-runNT_fst Tryz.prog _ _ #[],r0];exact V
end eG
def GJ(hi:Int)(d:Sl)(g:Goroutine):Prop:=∃a,cG ⟨159,[]⟩ a [(18,.tuple #[Sl.v Sl.nil,iv 1]),(17,Sl.v d),(16,iv hi),(4,.bool false),(0,iv hi),(1,Sl.v d)]/\
 g=G ((base 3).at a [.inRegion jv (List.range' 3 (jv.size-3)),.code p5]) []
set_option maxHeartbeats 4000000 in
theorem WA{hi:Int}{f:Sl}{W:World}(k:hi<1\/hi>8){j:Act}(C:cG ⟨159,[]⟩ j [(17,Sl.v f),(16,iv hi),(4,.bool false),(0,iv hi),(1,Sl.v f)]):
 Lone Tryz.prog (EvL W.heap.size) (λg w=>GJ hi f g/\w=W.alloc (.cells #[Sl.v f] 22)) (G ((base 4).at ⟨#[iv hi,Sl.v f]++Array.replicate 35 undef,[]⟩ [.code iD]) [c0 j]) W:=by
 have i:(base 4).kind≠.early:=base_kind 4
 rw[show(Go.Item.code iD:Go.Item)=.code (match iD with
  |.seq (.region H o1 _) (.seq (.seq (.region K L _) (.cond t (.seq (.region o p _) r) y)) z)=>
   .seq (.region H o1 false) (.seq (.seq (.region K L false) (.cond t (.seq (.region o p false) .ret) y)) z)
  |x=>x)from X]
 simp only[iD,Tryz.f4,f7];have D:cG ⟨37,[]⟩ ⟨#[iv hi,Sl.v f]++Array.replicate 35 undef,[]⟩ [(0,iv hi),(1,Sl.v f)]:=DX (args:=[iv hi,Sl.v f]) X;refine .pure X stepG_seq<|.pure X stepG_region ?_;refine .box X X i X X ab D X (cs':=[Sl.v f]) X (λa h=>?_);refine .jk X gA i X X ab h (it X) (λa h=>?_);refine .jk X gA i X X ab h (it X) (λa h=>.pure X stepG_region_end<|.pure X stepG_seq<|.pure X stepG_seq<|.pure X stepG_region ?_);refine .jk X gA i X X ab h (ar X) (λa h=>?_);refine .jk X gA i X X ab h (bF X X) (λa h=>?_);refine .jk X gA i X X ab h (ar X) (λa h=>?_)
 have tail:∀(a:Act)(e:List (Nat×Value))(ops:Array Oper)(z:List Go.Item),cG ⟨37,[]⟩ a ((15,.bool true)::e)->
  Lone Tryz.prog (EvL W.heap.size) (λg w=>GJ hi f g/\w=W.alloc (.cells #[Sl.v f] 22)) (G ((base 4).at a (.inRegion ops []::.code (match iD with|.seq _ (.seq (.seq _ (.cond t (.seq (.region o p _) _) y)) _)=>.cond t (.seq (.region o p false) .ret) y|x=>x)::z)) [c0 j]) (W.alloc (.cells #[Sl.v f] 22)):=by
  intro a e ops z h;simp only[iD,Tryz.f4,f7];refine .pure X stepG_region_end<|.pure X (stepG_cond (t:=true) (h.eval X))<|.pure X stepG_seq<|.pure X stepG_region ?_;refine .jk X gA i X X ab h (it X) (λa h=>?_);refine .jk X gA i X X ab h (it X) (λa h=>.pure X stepG_region_end<|.pure X stepG_ret' ?_);have F:(results Tryz.f4 a.tmps).run Tryz.prog (W.alloc (.cells #[Sl.v f] 22))=.ok (.tuple #[Sl.v Sl.nil,iv 1]) (W.alloc (.cells #[Sl.v f] 22)):=by have A:=h.get 4 _ X;have B:=h.get 5 _ X;rw[results_tmp2 (t:=4) (u:=5) X];simp[oo,A,B,Sl.v,Sl.nil]
  refine .step X (Gl (b:=base 4) X h.defers Tryz.func4 F) (λx n=>?_) ?_
  .have:=mem_seen n;simp[results,Tryz.f4]at this
  .have n:(c0 j).finish (.tuple #[Sl.v Sl.nil,iv 1])=(base 3).at (j.put (some 18) (.tuple #[Sl.v Sl.nil,iv 1])) [.inRegion jv (List.range' 3 (jv.size-3)),.code p5]:=by
    unfold c0;rw[show List.range' 2 (jv.size-2)=2::List.range' 3 (jv.size-3)from X,Frame.finish_at];rfl
   rw[n];exact .stop ⟨⟨_,C.put (d:=18) ab _,X⟩,X⟩
 by_cases m:hi<1
 .have l:decide (hi<1)=true:=dl m;rw[l]at h;refine .LY X X X X X X ab h (λa h=>?_);refine .LY X X X X X X ab h (λa h=>?_);refine .jk X gA i X X ab h (cD (v:=.bool true) X X X) (λa h=>?_);exact tail a _ _ _ h
 .have l:decide (hi<1)=false:=cX m;have s:decide (hi>8)=true:=dl (k.resolve_left m);rw[l]at h;refine .B0 X gA i X X X X X ab h (ar X) (λa h=>?_);refine .B0 X gA i X X X X X ab h (ef X X) (λa h=>?_);rw[s]at h;refine .jk X gA i X X ab h (cx (v:=.bool true) X X X) (λa h=>?_);exact tail a _ _ _ h
def Ab(W:World)(v:Value)(w:World):Prop:=v=.bool true/\Below W.heap.size W w
theorem ZO{fu:Nat}{hi:Int}{h:Sl}{rs:List cZ}{W:World}(a:hi<1\/hi>8)(hl:Rd W (bk.of W) [] h rs)(T:aL cZ.rel W (bk.of W) [] rs)(ht:gG (bk.of W))(H:nH fu hi (rs.map cZ.v)=some true):
 ∃M last o w' t',runNT Tryz.prog (M+1) (solo (G (Frame.enter Tryz.prog 3 #[iv hi,Sl.v h] .normal) []) W) #[]=(.ended o w',t')/\
  runN Tryz.prog M (solo (G (Frame.enter Tryz.prog 3 #[iv hi,Sl.v h] .normal) []) W)=.next last/\step Tryz.prog last=.ended o w'/\Conc.Good Tryz.prog (Ab W) last o w' t':=by
 obtain⟨n,hg⟩:=Km (Wg:=W.heap.size) (λD x=>WA a x);obtain⟨k0,a0,w0,u,r0,⟨⟨D,x,rfl⟩,rfl⟩,hu⟩:=solo_goesE #[] hg
 letI C:Co Tryz.prog:=nc Tryz.prog true (Ends Tryz.prog (Ab W))
 have S:oD fu hi (rs.map cZ.v)=some ([],1):=by unfold oD;rw[show(decide (hi<1)||decide (hi>8))=true by simpa using a,l6]
 obtain⟨i0,o0,i1,o1,o2,o3,l,y,d,Q⟩:=HE (C:=C) (sa1:=h) (pZ:=rs) H W (bk.of W) [] [] (.refl _) ht X hl T _ S (bk.of W) Sl.nil [] fl X j3 aL.nil;have s:jv=(o1::o2::o3::l).toArray:=by simp only[jv,nb,d,f7]
 have r3:p5=y:=by simp only[p5,nb,d,f7]
 have A:SH W (bk.of W) [] ⟨λ_=>True,λ_=>False⟩ (W.alloc (.cells #[Sl.v h] 22)):=by refine⟨⟨⟨X,X,X,by simp,λk hk=>by omega⟩,λb o e=>?_,λb d=>by simp[cu]at d,λi hi=>by simp at hi,by simp[cu]⟩,λb d=>trivial,λb o e=>.inl bo⟩;rw[Below.heap_alloc _ _ _ (gV.1 e).1];exact e
 have p:iO Tryz.prog true (Ends Tryz.prog (Ab W)) ⟨λ_=>True,λ_=>False⟩ (G ((base 3).at D [.inRegion jv (List.range' 3 (jv.size-3)),.code p5]) []) (W.alloc (.cells #[Sl.v h] 22)):=by rw[show jv.size-3=l.length by rw[s];simp,s,r3];refine M7 (f:=3) (i:=3) Tryz.func3 (by kernel_rfl) ?_ (λj=>by simp[nt 3 j]) (Q _ _ _ x A);rintro g h2 w2 v es hs V um ⟨F2,L2,P,m,rfl,rfl⟩;refine⟨hs,_,es,V,X,m.below.os,m.below.tape,m.below.output,m.below.size,λb d=>?_⟩;have e:W.heap[b]?=some W.heap[b]:=xx d;rw[e];exact m.gh b _ (P b _ e)
 obtain⟨N,last,o,w',t',F,K,s,L⟩:=SC (t:=#[]++u) (λop B=>(hu op (by simpa using B)).1) p;refine⟨k0+N,last,o,w',t',?_,?_,s,L⟩
 .rw[qP,runNT_add,r0];exact F
 .rw[runN_add,<-runNT_fst Tryz.prog _ _ #[],r0];exact K
theorem IX{fu:Nat}:∀{l:List fN}{rs:List dk},oE fu l=some rs->∀(m:Nat)(x:fN),l[m]?=some x->∃r,kI fu x=some r
 |[],_,_,m,x,a=>by simp at a
 |y::l,rs,h,m,x,a=>by
  simp only[oE]at h;obtain⟨r,d,h⟩:=sN.1 h;obtain⟨f,e,h⟩:=sN.1 h
  cases m with
  |zero=>simp at a;subst a;exact⟨r,d⟩
  |succ m=>exact IX e m x (by simpa using a)
theorem Tl{fu:Nat}{hi:Int}{l:List fN}{b:Bool}(H:nH fu hi l=some b):∃r,oD fu hi l=some r:=by unfold nH at H;obtain⟨r,a,H⟩:=bs H;exact⟨r,a⟩
theorem Ti(hi:Int):(hi<1\/hi>8)\/∃k:Nat,hi=(k:Int)/\1<=k/\k<=8:=by
 by_cases h:hi<1\/hi>8
 .exact .inl h
 .exact .inr ⟨hi.toNat,by omega,by omega,by omega⟩
theorem ZR{fu k:Nat}{l:List fN}{r:(List dk)×Int}(e:1<=k)(f:k<=8)(h:oD fu k l=some r):∃a,oE fu l=some a:=by unfold oD at h;rw[show(decide ((k:Int)<1)||decide ((k:Int)>8))=false by simp;omega,lF]at h;obtain⟨a,d,_⟩:=sN.1 h;exact⟨a,d⟩
def Mh(W:World)(k:Nat)(a:Sl)(rs:List cZ)(fu:Nat):eG:=⟨W,k,a,rs,fu,λm=>((rs[m]?).bind λx=>kI fu x.v).getD dk.zero⟩
theorem aaa{W:World}{k:Nat}{e:Sl}{rs:List cZ}{fu:Nat}{a:List dk}(f:1<=k)(g:k<=8)(j:Rd W (bk.of W) [] e rs)(i:aL cZ.rel W (bk.of W) [] rs)(n:gG (bk.of W))(h:oE fu (rs.map cZ.v)=some a):(Mh W k e rs fu).Fit:=
 ⟨f,g,λm x d=>by
  have d:rs[m]?=some x:=d;obtain⟨r,l⟩:=IX h m x.v (by rw[kD,d];rfl);show kI fu x.v=some (((rs[m]?).bind λx=>kI fu x.v).getD dk.zero)
  rw[d,gK,l,f7],j,i,n⟩
theorem aa0{fu:Nat}{hi:Int}{e:Sl}{rs:List cZ}{W:World}(l:rs.length<=1048576)(i:Rd W (bk.of W) [] e rs)(h:aL cZ.rel W (bk.of W) [] rs)(j:gG (bk.of W))(H:nH fu hi (rs.map cZ.v)=some true):
 ∃M last o w' t',runNT Tryz.prog (M+1) (solo (G (Frame.enter Tryz.prog 3 #[iv hi,Sl.v e] .normal) []) W) #[]=(.ended o w',t')/\
  runN Tryz.prog M (solo (G (Frame.enter Tryz.prog 3 #[iv hi,Sl.v e] .normal) []) W)=.next last/\step Tryz.prog last=.ended o w'/\Conc.Good Tryz.prog (Ab W) last o w' t':=by
 obtain d|⟨k,rfl,f,g⟩:=Ti hi
 .exact ZO d i h j H
 obtain⟨a,m⟩:=ZR f g (Tl H).choose_spec;exact eG.ZN (q:=Mh W k e rs fu) (aaa f g i h j m) l H
