/-
  A communication: who offers what; a worker at its receive.
-/
import Derived.Test.YtklkkoelldkncaaGreatDoorGoMG
import Derived.Conc.WgGenN3
set_option linter.unusedSimpArgs false
set_option linter.unusedVariables false
namespace Go.Proofs.YtklkkoelldkncaaGreatDoor
open Go.Conc Go.ConcN
open Go.ConcR (KK wgBlock WgAt stA smA rd wr DC0 g_of_ofEvents)
namespace cy
section
variable {p:cy}{AnchW:Goroutine->World->Prop}{gs gs':Array Goroutine}{w w':World}{sl:Option (Nat×Nat)}{t u:Trace}{j d0:Nat}{D:Nat->WX}{bD:Nat}{V:Nat->Option Value}{S:Nat->Nat->Prop}{ci:Nat->Nat}{T0:Tr}{a:Goroutine}{tag:dn}
theorem WS.noSend{rem s d:Nat}{T:Tr}{h:bG}{c:Option Nat}{g:Goroutine}(x:p.WS rem s T d h c g w)(r:Nat):offersAt g r true=[]:=by
 rcases x.status with⟨_,_,e⟩|⟨_,e⟩|⟨e,_⟩
 .exact offersAt_of_not_blocked (by rw[e];simp) _ _
 .exact offersAt_of_not_blocked (by rcases e with e|e<;>rw[e]<;>simp) _ _
 .cases x<;>first|omega|exact offersAt_parked_recv' _ _ _ _ _
theorem WS.Bx{rem s d:Nat}{T:Tr}{h:bG}{c:Option Nat}{g:Goroutine}(x:p.WS rem s T d h c g w)(f:s≠8)(r:Nat):offersAt g r false=[]:=by
 rcases x.status with⟨_,_,e⟩|⟨_,e⟩|⟨e,_⟩
 .exact offersAt_of_not_blocked (by rw[e];simp) _ _
 .exact offersAt_of_not_blocked (by rcases e with e|e<;>rw[e]<;>simp) _ _
 .exact absurd e f
theorem MS.Bx(f:∀g w,AnchW g w->g.status=.running){d:Nat}{T:Tr}(x:p.MS AnchW tag j T d a w)(r:Nat):offersAt a r false=[]:=by
 rcases x.status f with⟨e,_⟩|⟨_,e⟩
 .exact offersAt_of_not_blocked (by rw[e];simp) _ _
 .cases x with
  |fR _ _=>exact offersAt_parked_send' _ _ _ _ _ _
  |blk k=>obtain⟨_,h,_⟩:=k w (RL.refl w);unfold offersAt;simp[h]
  |_=>exact e.elim
theorem MS.noSend(f:∀g w,AnchW g w->g.status=.running){d:Nat}{T:Tr}(x:p.MS AnchW tag j T d a w)(hp:∀i,tag≠.fR i)(r:Nat):offersAt a r true=[]:=by
 rcases x.status f with⟨e,_⟩|⟨_,e⟩
 .exact offersAt_of_not_blocked (by rw[e];simp) _ _
 .cases x with
  |fR _ _=>exact absurd X (hp _)
  |blk k=>obtain⟨_,h,_⟩:=k w (RL.refl w);unfold offersAt;simp[h]
  |_=>exact e.elim
theorem LX{a:Addr}{t u:Trace}{k r:Nat}(h:RelBy a t k r)(m:∀op∈u,op.act.touch? =none):RelBy a (t++u) k r:=h.app λi hi _ g=>by
 obtain⟨x,n,_⟩:=g;obtain⟨act,d,e⟩:=sN.1 n;obtain⟨op,f,rfl⟩:=pw.1 d;have l:u[i-t.size]?=some op:=by rw[Array.getElem?_append]at f;simpa[Nat.not_lt.2 hi]using f
 rw[m op (my l)]at e;cases e
theorem Me{w:World}{d c cap s r:Nat}{e:Array Value}{cl g:Bool}:ka c w ((w.at d).setChan c cap e cl s r g):=⟨X,X,X,by simp[World.setChan,World.at],λb f=>by simp[World.setChan,World.at,Ne.symm f]⟩
structure oU(p:cy)(j:Nat)(u:Trace):Prop where
 g:∀op∈u,op.g<=j
 touch:∀op∈u,op.act.touch? =none
 IU:∀op∈u,op.act≠.mark .disable/\op.act≠.mark .enable
 rel:∀op∈u,op.act≠.mark (.release (stA p.Wg))
theorem Cm.comm(k:p.Ok)(h:p.Cm gs w t j d0 D bD V S ci){i:Nat}(hi:i<j){d:WX}{pG:Nat}{qs:Nat->Nat}(F:ka p.ch w w')(pm:gs'.size=gs.size)(Q:∀n,n<j->n≠i->gs'[n+1]?=gs[n+1]?)
 (uo:∃g,gs'[i+1]?=some g/\p.WS (p.J-pG) d.stage d.tree d.deaf d.h d.cur g w') (W:d.made=(D i).made) (M:∀b,d.h.o b->(D i).h.o b) (Ey:∀b,d.h.r b->p.Fz b) (T:(D i).cur=none)
 (hn:(pG=bD/\qs=ci/\d.cur=none)\/(pG=bD+1/\qs=upd ci bD i/\d.cur=some bD)) (hd:d.deaf=(D i).deaf) (iS:7<=d.stage) (K:oU p j u):
 p.Cm gs' w' (t++u) j d0 (upd D i d) pG V S qs:=by
 have rl:p.RL w w':=⟨F.live (Ne.symm k.wh),F.base λx=>x.2.2.1 X⟩
 have hH:=k.xH;have A:∀n,(upd D i d n).made=(D n).made:=λn=>by
  by_cases e:n=i
  .subst e;rw[upd_same,W]
  .rw[upd_ne D _ e]
 have av:bD<=pG:=by omega
 have C:∀m,m<bD->qs m=ci m:=λm hm=>by
  rcases hn with⟨_,rfl,_⟩|⟨_,rfl,_⟩
  .rfl
  .exact upd_ne ci _ O
 refine⟨by rw[pm,h.size],λn f=>?_,λn f b x=>?_,λi1 i2 b o B x y=>?_,λn f b x=>?_,λn f b x=>?_,λn f m x=>?_,λm hm=>?_,λm v e=>?_,h.p7,?_,h.norel.app K.rel,by rw[Deaf_still t 0 _ K.IU,h.deaf0],λn f=>?_,λn f hs=>?_,rl.2 h.base,k.out _ w _ (F.block _ k.ch) h.out⟩
 .by_cases e:n=i
  .subst e;rw[upd_same];exact uo
  .obtain⟨x,hx,sE⟩:=h.wk n f;exact⟨x,by rw[Q n f e];exact hx,by rw[upd_ne D _ e];exact(sE.less O).rely (F.rely (ut k h f hH) λy=>(h.hr n f _ y).2.2.1 X) rl⟩
 .rw[A]at x;rw[F.size];exact h.made n f b x
 .rw[A]at x y;exact h.sep i1 i2 b o B x y
 .rw[A];by_cases e:n=i
  .subst e;rw[upd_same]at x;exact h.own n f b (M b x)
  .rw[upd_ne D _ e]at x;exact h.own n f b x
 .by_cases e:n=i
  .subst e;rw[upd_same]at x;exact Ey b x
  .rw[upd_ne D _ e]at x;exact h.hr n f b x
 .by_cases e:n=i
  .subst e;rw[upd_same]at x;rcases hn with⟨_,_,L⟩|⟨rfl,rfl,L⟩
   .rw[L]at x;cases x
   .rw[L]at x;cases x;refine⟨by omega,upd_same _ _ _,?_⟩
    cases e:V bD with
    |none=>rfl
    |some v=>have:=(h.res bD v e).1;omega
  .rw[upd_ne D _ e]at x;obtain⟨o,B,H⟩:=h.cur n f m x;exact⟨by omega,by rw[C m o];exact B,H⟩
 .by_cases s:m<bD
  .obtain⟨o,B⟩:=h.fA m s;rw[C m s];refine⟨o,B.imp id λx=>?_⟩;rw[upd_ne D _ λe=>by rw[e,T]at x;cases x];exact x
  .rcases hn with⟨o,_,_⟩|⟨o,rfl,L⟩
   .omega
   .obtain rfl:m=bD:=by omega
    rw[upd_same];exact⟨hi,.inr (by rw[upd_same];exact L)⟩
 .obtain⟨o,B,H⟩:=h.res m v e;rw[C m o,A];refine⟨by omega,k.res _ _ _ w _ (λb x=>F.block b λe'=>by subst e';have:=(h.made _ (h.fA m o).1 _ (H _ x).1).1;omega) B,λb x=>⟨(H b x).1,λy=>?_⟩⟩;by_cases e:ci m=i
  .rw[e,upd_same]at y;exact(H b x).2 (e▸M b y)
  .rw[upd_ne D _ e]at y;exact(H b x).2 y
 .refine TI.comm (h.ti.Gr (λq hq l x=>?_) (λl x=>.inl x) λl x=>?_) λop P=>⟨K.g op P,K.touch op P⟩
  .rcases x with⟨o,B,x⟩|x
   rotate_left
   .exact .inl (.inr x)
   rcases x with⟨b,e,x⟩|⟨m,hm,e,x⟩
   .rw[A]at x;exact .inl (.inl ⟨o,B,.inl ⟨b,e,x⟩⟩)
   .by_cases s:m<bD
    .exact .inl (.inl ⟨o,B,.inr ⟨m,s,by rw[<-C m s];exact e,x⟩⟩)
    .exact .inr (.inr ⟨m,by omega,x⟩)
  .rw[F.size]at x;exact x.imp id λ⟨m,hm,y⟩=>⟨m,by omega,y⟩
 .rw[Deaf_still t _ _ K.IU,h.deafW n f];by_cases e:n=i
  .subst e;rw[upd_same,hd]
  .rw[upd_ne D _ e]
 .by_cases e:n=i
  .subst e;rw[upd_same]at hs;omega
  .rw[upd_ne D _ e]at hs;obtain⟨r,hr⟩:=h.rel n f hs;exact⟨r,LX hr K.touch⟩
theorem oU.of{es:List MemOp}(e:∀op∈es,op.g<=j)(f:∀op∈es,∃c q,op.act=.send c q\/op.act=.sendDone c q\/(∃cap,op.act=.recv c q cap)\/op.act=.recvDone c q\/op.act=.recvClosed c):oU p j es.toArray:=by
 refine⟨λop h=>e op (by simpa using h),λop h=>?_,λop h=>?_,λop h=>?_⟩<;>
  obtain⟨c,q,d|d|⟨cap,d⟩|d|d⟩:=f op (by simpa using h)<;>rw[d]<;>simp[MemAct.touch?]
theorem Fy{i:Nat}{send:Bool}{r:Nat}(h:∀q g,q≠i->gs[q]?=some g->offersAt g r send=[]):partners (gs.setIfInBounds i Conc.ph) r send=[]:=
 partners_nil λq g e=>by
  rcases getElem?_stand gs i q g e with⟨_,rfl⟩|⟨d,e⟩
  .rfl
  .exact h q g d e
theorem Ad{i:Nat}(hi:i<j)(d:WX):eH j (upd D i d)+(D i).stage=eH j D+d.stage:=sumTo_upd D d (λx=>x.stage) hi
theorem xz{i:Nat}{d:WX}(f:min d.stage 7=min (D i).stage 7)(q:Nat):(kd (upd D i d) q).stage=(kd D q).stage:=by
 simp only[kd];by_cases e:q=i
 .subst e;rw[upd_same,f]
 .rw[upd_ne D _ e]
theorem Ag{i:Nat}{d:WX}(e:min d.stage 7=min (D i).stage 7):Vc j (kd (upd D i d))=Vc j (kd D):=sumTo_congr λq _=>by have:=xz e q;simp only[ConcN.cnt,this]
theorem ZB(k:p.Ok)(lu:∀g w,AnchW g w->g.status=.running)(ha:gs[0]?=some a)(P:p.MS AnchW tag j T0 d0 a w)(h:p.Cm gs w t j d0 D bD V S ci)(hc:p.gF w j tag D)(hl:bD+p.left tag=p.J)(pj:j<=p.n)
 {st sm:Int} (iT:WgAt p.ty p.Wg w st sm) (o:ConcN.Mode j (kd D) tag.dV st sm)
 {i r:Nat} (hi:i<j) {g:Goroutine} {hh:bG} (hg:gs[i+1]?=some g) (L:(D i).stage=9) (lC:(D i).deaf=0) (la:(D i).cur=none) (AK:(D i).h=hh) (JQ:hh.r=p.Fz) (hr:p.J-bD<=r) (hR:p.Recv r g):
 ∃xK ops gw,runT p.P (crowd gs w sl) (i+1)=(.next xK,ops)/\p.M3 gw (p.ph (Vc j (kd D)) tag+eH j D,fF D,T0)/\p.jP AnchW gw xK (t++ops):=by
 have hZ:=hR.z;obtain⟨jr,np,Tv⟩:=hZ;have nf:tag≠.fin:=Mode.xM o hi O;have np:=np w;have M:stepG p.P (i+1==0) g w=.comm (core g) #[rcase p.ch z0] true (.recv true) w #[]:=by simpa using np
 have av:i+1<gs.size:=by rw[h.size];omega
 have me:∀x:Goroutine,(gs.setIfInBounds (i+1) x)[i+1]?=some x:=λx=>by simp[av]
 have KH:∀(x:Goroutine)(q:Nat),q≠i->(gs.setIfInBounds (i+1) x)[q+1]?=gs[q+1]?:=λx q n=>l8 O;have W:∀x:Goroutine,(gs.setIfInBounds (i+1) x)[0]?=some a:=λx=>by rw[l8 O];exact ha
 have fs:∀(gg:Goroutine)(v:Value)(ok:Bool),gg.finishComm p.P #[rcase p.ch z0] (.recv true) 0 v ok=Conc.served gg (.tuple #[v,.bool ok]):=λgg v ok=>by rw[finishComm_recv];rfl
 have y:∀(send:Bool),(send=false->∀i',i'<j->(D i').stage≠8)->(∀q g,q≠i+1->q≠0->gs[q]?=some g->offersAt g p.ch send=[]):=λsend hs q g' n h0 AJ=>by
  obtain⟨q',rfl⟩:∃q',q=q'+1:=⟨q-1,by omega⟩
  have JO:q'<j:=by have:=(gV.1 AJ).1;rw[h.size]at this;omega
  obtain⟨x,H,sE⟩:=h.wk q' JO;rw[AJ]at H;cases H
  cases send with
  |true=>exact sE.noSend _
  |false=>exact sE.Bx (hs X q' JO) _
 by_cases f:tag.op
 .obtain⟨⟨s,r',tm,C⟩,F⟩:=hc.op f;by_cases hp:∃Q,tag=.fR Q
  . -- the starter is parked: they meet
   obtain⟨Q,rfl⟩:=hp
   cases P with
   |@fR _ z g0 _ xf Ui=>
   have Uy:partners (gs.setIfInBounds (i+1) Conc.ph) p.ch true=[(0,0)]:=by
    have h0:(gs.setIfInBounds (i+1) Conc.ph)[0]?=some (parked (core g0) #[scase p.ch (.int .i64 ((p.J:Int)-(Q+1:Nat))) z] .send):=W _;rw[partners_one h0 λq x n H=>?_,offersAt_parked_send,ce X];· rfl
    rcases getElem?_stand gs (i+1) q x H with⟨_,rfl⟩|⟨K,H⟩
    .rfl
    .exact y true (by simp) q x K n H
   have l:=crowd_recv_meets (sl:=sl) hg M C O ha Uy;rw[fs,finishComm_send]at l;simp only[left]at hl;have mu:((p.J:Int)-(Q+1:Nat))=(bD:Int):=by omega
   rw[mu]at l
   cases r with
   |zero=>omega
   |succ r=>
   have ht:ka p.ch w ((w.at w.drawn).setChan p.ch 0 #[] false (s+1) (r'+1) tm):=Me;have UY:(w.at w.drawn)=w:=X;rw[UY]at ht;have rl:p.RL w (w.setChan p.ch 0 #[] false (s+1) (r'+1) tm):=⟨ht.live (Ne.symm k.wh),ht.base λx=>x.2.2.1 X⟩
   obtain⟨T,hT⟩:=hR.2 bD O _ (rl.2 h.base);obtain⟨m,hm⟩:=Ui _ (rl.2 h.base);have n:oU p p.n (#[{g:=0,fn:=g0.frame.fn,pos:=g0.frame.place,act:=.send p.ch s},{g:=i+1,fn:=g.frame.fn,pos:=g.frame.place,act:=.recv p.ch r' 0},{g:=0,fn:=g0.frame.fn,pos:=g0.frame.place,act:=.sendDone p.ch s},{g:=i+1,fn:=g.frame.fn,pos:=g.frame.place,act:=.recvDone p.ch r'}]:Trace):=
    oU.of (es:=[_,_,_,_]) (λop f=>by simp at f;rcases f with rfl|rfl|rfl|rfl<;>simp<;>omega) (λop f=>by simp at f;rcases f with rfl|rfl|rfl|rfl<;>simp)
   have A:=h.comm k hi (gs':=(gs.setIfInBounds 0 (Conc.served (core g0) undef)).setIfInBounds (i+1) (Conc.served (core g) (.tuple #[.int .i64 bD,.bool true]))) (d:=⟨10,T,0,p.eI,some bD,(D i).made⟩) (pG:=bD+1) (qs:=upd ci bD i) ht (by simp)
    (λq n K=>by rw[l8 O,l8 O]) ⟨_,by simp[av],.fA (r:=r) O X hT⟩ X (λb x=>x.elim) (λb x=>x) la (.inr ⟨X,X,X⟩) lC.symm (by simp) n
   have B:min (10:Nat) 7=min (D i).stage 7:=by rw[L];rfl
   refine⟨_,_,(p.ph (Vc p.n (kd (upd D i ⟨10,T,0,p.eI,some bD,(D i).made⟩))) (.snd Q)+eH p.n (upd D i ⟨10,T,0,p.eI,some bD,(D i).made⟩),fF (upd D i ⟨10,T,0,p.eI,some bD,(D i).made⟩),.nat m),l,?_,_,_,sl,_,0,.snd Q,_,bD+1,V,S,upd ci bD i,.nat m,Conc.served (core g0) undef,st,sm,X,?_,.snd O hm,?_,?_,?_,?_,?_,?_,X⟩
   .refine Prod.Lex.left _ _ ?_;have:=Ad hi (D:=D) ⟨10,T,0,p.eI,some bD,(D i).made⟩;simp only[L]at this;rw[Ag B];simp only[ph];omega
   .rw[l8 O];simp[h.size]
   .have e:∀x:Trace,t++(MemOp.ofEvents (i+1) g.frame.fn g.frame.place #[]++x)=t++x:=λx=>by simp[MemOp.ofEvents]
    rw[e];exact A
   .unfold WgAt at*;rw[ht.block _ k.wh];exact iT
   .exact ConcN.Mode.congr (λq _=>xz B q) o
   .refine⟨λ_=>⟨⟨s+1,r'+1,tm,?_⟩,λq n=>?_⟩,λx=>absurd bo x,λq e=>by cases e⟩
    .have:=(gV.1 C).1;simp[World.setChan,this]
    .by_cases e:q=i
     .subst e;rw[upd_same];simp
     .rw[upd_ne D _ e];exact F q n
   .simp only[left];omega
   .simp
  . -- nobody sends: it is parked
   have hp:∀Q,tag≠.fR Q:=λQ e=>hp ⟨Q,e⟩;have xk:partners (gs.setIfInBounds (i+1) Conc.ph) p.ch true=[]:=Fy λq x n H=>by
    by_cases h0:q=0
    .subst h0;rw[ha]at H;cases H;exact P.noSend lu hp _
    .exact y true (by simp) q x n h0 H
   have l:=crowd_waits (sl:=sl) hg M (λcc xc=>by simp at xc;subst xc;exact ways_recv_none C xk)
   have A:=h.comm k hi (gs':=gs.setIfInBounds (i+1) (parked (core g) #[rcase p.ch z0] (.recv true))) (u:=#[]) (d:=⟨8,.leaf,0,hh,none,(D i).made⟩) (pG:=bD) (qs:=ci) (.refl _ w) (by simp)
    (λq n K=>KH _ q K) ⟨_,me _,.pV hr JQ hR⟩ X (λb x=>by rw[AK];exact x) (λb x=>by rw[<-JQ];exact x) la (.inl ⟨X,X,X⟩) lC.symm (by simp) ⟨by simp,by simp,by simp,by simp⟩
   have B:min (8:Nat) 7=min (D i).stage 7:=by rw[L];rfl
   refine⟨_,_,(p.ph (Vc j (kd (upd D i ⟨8,.leaf,0,hh,none,(D i).made⟩))) tag+eH j (upd D i ⟨8,.leaf,0,hh,none,(D i).made⟩),fF (upd D i ⟨8,.leaf,0,hh,none,(D i).made⟩),T0),l,?_,_,w,sl,j,d0,tag,_,bD,V,S,ci,T0,a,st,sm,X,W _,P,?_,iT,?_,?_,hl,λe=>absurd e nf,X⟩
   .refine Prod.Lex.left _ _ ?_;have:=Ad hi (D:=D) ⟨8,.leaf,0,hh,none,(D i).made⟩;simp only[L]at this;rw[Ag B];omega
   .simpa[MemOp.ofEvents]using A
   .exact ConcN.Mode.congr (λq _=>xz B q) o
   .refine⟨λ_=>⟨⟨s,r',tm,C⟩,λq n=>?_⟩,λx=>absurd f x,λq e=>absurd e (hp q)⟩;by_cases e:q=i
    .subst e;rw[upd_same];simp
    .rw[upd_ne D _ e];exact F q n
 . -- it is closed
  obtain⟨⟨s,r',tm,C⟩,F⟩:=hc.sh f;have xk:partners (gs.setIfInBounds (i+1) Conc.ph) p.ch true=[]:=Fy λq x n H=>by
   by_cases h0:q=0
   .subst h0;rw[ha]at H;cases H;exact P.noSend lu (λQ e=>f (by rw[e];trivial)) _
   .exact y true (by simp) q x n h0 H
  have l:=crowd_recv_closed (sl:=sl) hg M C xk;rw[fs]at l;obtain⟨m,hm⟩:=Tv w ⟨_,_,iT⟩;have n:oU p j (#[{g:=i+1,fn:=g.frame.fn,pos:=g.frame.place,act:=.recvClosed p.ch}]:Trace):=
   oU.of (es:=[_]) (λop f=>by simp at f;rcases f with rfl;simp;omega) (λop f=>by simp at f;rcases f with rfl;simp)
  have A:=h.comm k hi (gs':=gs.setIfInBounds (i+1) (Conc.served (core g) (.tuple #[z0,.bool false]))) (d:=⟨7,.nat m,0,p.eI,none,(D i).made⟩) (pG:=bD) (qs:=ci) (.refl _ w) (by simp)
   (λq n K=>KH _ q K) ⟨_,me _,.r0 hm⟩ X (λb x=>x.elim) (λb x=>x) la (.inl ⟨X,X,X⟩) lC.symm (by simp) n
  have B:min (7:Nat) 7=min (D i).stage 7:=by rw[L];rfl
  refine⟨_,_,(p.ph (Vc j (kd (upd D i ⟨7,.nat m,0,p.eI,none,(D i).made⟩))) tag+eH j (upd D i ⟨7,.nat m,0,p.eI,none,(D i).made⟩),fF (upd D i ⟨7,.nat m,0,p.eI,none,(D i).made⟩),T0),l,?_,_,w,sl,j,d0,tag,_,bD,V,S,ci,T0,a,st,sm,X,W _,P,?_,iT,?_,?_,hl,λe=>absurd e nf,X⟩
  .refine Prod.Lex.left _ _ ?_;have:=Ad hi (D:=D) ⟨7,.nat m,0,p.eI,none,(D i).made⟩;simp only[L]at this;rw[Ag B];omega
  .have e:∀x:Trace,t++(MemOp.ofEvents (i+1) g.frame.fn g.frame.place #[]++x)=t++x:=λx=>by simp[MemOp.ofEvents]
   rw[e];exact A
  .exact ConcN.Mode.congr (λq _=>xz B q) o
  .refine⟨λx=>absurd x f,λ_=>⟨⟨s,r',tm,C⟩,λq n=>?_⟩,λq e=>by subst e;exact absurd bo f⟩;by_cases e:q=i
   .subst e;rw[upd_same];simp
   .rw[upd_ne D _ e];exact F q n
end
end cy
end Go.Proofs.YtklkkoelldkncaaGreatDoor
namespace Go.Proofs.YtklkkoelldkncaaGreatDoor
open Go.Conc Go.ConcN
open Go.ConcR (KK wgBlock WgAt stA smA rd wr DC0 g_of_ofEvents Bk ofEvent_loc_mark ofEvent_cell ofEvent_mk)
namespace cy
section
variable {p:cy}{AnchW:Goroutine->World->Prop}{gs gs':Array Goroutine}{w w':World}{sl:Option (Nat×Nat)}{t u:Trace}{j d0:Nat}{D:Nat->WX}{bD:Nat}{V:Nat->Option Value}{S:Nat->Nat->Prop}{ci:Nat->Nat}{T0:Tr}{a:Goroutine}{tag tag':dn}
theorem stepWorker(k:p.Ok)(l:∀g w,AnchW g w->g.status=.running)(Q:gs[0]?=some a)(o:p.MS AnchW tag j T0 d0 a w)(h:p.Cm gs w t j d0 D bD V S ci)(hc:p.gF w j tag D)(hl:bD+p.left tag=p.J)(n:j<=p.n)
 {st sm:Int} (A:WgAt p.ty p.Wg w st sm) (d:ConcN.Mode j (kd D) tag.dV st sm) (W:tag=.fin->AcqAll p.Wg j t)
 {i:Nat} (hi:i<j) {g:Goroutine} (L:gs[i+1]?=some g) (H:g.status=.running):
 ∃K ops gw,runT p.P (crowd gs w sl) (i+1)=(.next K,ops)/\p.M3 gw (p.ph (Vc j (kd D)) tag+eH j D,fF D,T0)/\p.jP AnchW gw K (t++ops):=by
 by_cases h7:(D i).stage<=7
 .exact R8 k l Q o h hc hl n A d W hi L H h7
 have nf:tag≠.fin:=Mode.xM d hi O;obtain⟨P,m,M⟩:=h.wk i hi;obtain rfl:g=P:=by rw[L]at m;exact dF m
 generalize q:(D i).stage=s at M;generalize mw:(D i).tree=T at M;generalize C:(D i).deaf=dd at M;generalize B:(D i).cur=c at M;generalize F:(D i).h=hh at M;rw[q]at h7
 cases M with
 |idle hr hF x=>
  cases T with
  |mk f=>exact KI k l Q o h hc hl n A d nf hi L q mw C F B O hF x λT' h' g' w' e y=>.idle hr e y
  |leaf=>exact ZB k l Q o h hc hl n A d hi L q C B F hF hr (x w (.refl _ _))
 |pV _ _ _=>cases H
 |fA hr hF x=>
  cases T with
  |mk f=>exact KI k l Q o h hc hl n A d nf hi L q mw C F B O hF x λT' h' g' w' e y=>.fA hr e y
  |leaf=>exact W6 k l Q o h hc hl n A d nf hi L q C B hr (by rw[F];exact x w (.refl _ _))
 |r0 _=>omega
 |k1 _=>omega
 |d1 _=>omega
 |d2 _=>omega
 |d3 _=>omega
 |d4 _=>omega
 |quit _=>omega
theorem gF.to(d:p.gF w j tag D)(e:w'.heap[p.ch]?=w.heap[p.ch]?)(f:tag'.op↔tag.op)(hp:∀i,tag'≠.fR i):p.gF w' j tag' D:=
 ⟨λx=>by rw[e];exact d.op (f.1 x),λx=>by rw[e];exact d.sh λy=>x (f.2 y),λi x=>absurd x (hp i)⟩
theorem gF.w8(d:p.gF w j tag D)(e:w'.heap[p.ch]?=w.heap[p.ch]?):∀i,i<j->(D i).stage=8->∃s r g,w'.heap[p.ch]?=some (.chan 0 #[] false s r g):=λi hi f=>by
 rw[e];by_cases x:tag.op
 .exact(d.op x).1
 .exact absurd f ((d.sh x).2 i hi)
theorem lE(k:p.Ok)(ha:gs[0]?=some a)(h:p.Cm gs w t j d0 D bD V S ci)(L:p.gF w j tag D)(hl:bD+p.left tag=p.J){Q P:Int}(H:WgAt p.ty p.Wg w Q P)(g:ConcN.Mode j (kd D) tag.dV Q P)(m:tag=.fin->AcqAll p.Wg j t)
 {a':Goroutine} {es:Array Event} {K:Tr} (F:stepG p.P true a w=.go a' w' es) (hD:p.D0 w w' es) (y:p.MS AnchW tag j K d0 a' w') (hT:K.lt T0) (hp:∀i,tag≠.fR i):
 ∃d ops B,runT p.P (crowd gs w sl) 0=(.next d,ops)/\p.M3 B (p.ph (Vc j (kd D)) tag+eH j D,fF D,T0)/\p.jP AnchW B d (t++ops):=by
 obtain⟨rfl,s⟩:=hD;have M:∀e∈es,(e.loc≠.mark .disable/\e.loc≠.mark .enable)/\∀q,e.loc≠.mark (.release q):=λe f=>by
  rcases s e f with⟨ad,_,rfl|rfl⟩|⟨_,_,b,o,_⟩
  .simp
  .simp
  .refine⟨⟨λx=>?_,λx=>?_⟩,λq x=>?_⟩<;>rw[x]at o<;>cases o
 have C:deafBehind d0 es=d0:=deafBehind_idle (λe f=>(M e f).1) d0;refine Gm k ha h hl F (RL.refl _) (λi _=>.refl _ _) X (λ_ _=>rfl) X (λop A=>?_) (λe f=>(M e f).2 _) (by rw[C];exact y) H g (L.w8 X) (L.to X Iff.rfl hp) X (λe=>(m e).app λi r _ hr=>hr.appOther g_of_ofEvents O) (.inr ⟨X,hT⟩);rw[ofEvents_eq]at A;obtain⟨e,f,rfl⟩:=pp.1 A;refine⟨X,λx l=>?_⟩;rcases s e f with⟨ad,n,rfl|rfl⟩|⟨T,W,b,o,hF⟩
 .simp only[MemAct.ofEvent,MemAct.touch?,gU]at l;subst l;exact .inl ⟨⟨ad,X,n⟩,by simp,λ_=>rfl⟩
 .simp only[MemAct.ofEvent,MemAct.touch?,gU]at l;subst l;exact .inl ⟨⟨ad,X,n⟩,by simp,λ_=>rfl⟩
 .simp only[Ft T o,gU]at l;subst l;exact .inr (.inr ⟨⟨b,o,hF⟩,W,by simp⟩)
theorem mo(k:p.Ok)(H:gs[0]?=some a)(h:p.Cm gs w t j d0 D bD V S ci)(C:p.gF w j tag D)(K:bD+p.left tag=p.J)
 {a':Goroutine} {es:Array Event} {B:Tr} {st' sm':Int} (q:stepG p.P true a w=.go a' w' es) (d:ka p.Wg w w') (g:WgAt p.ty p.Wg w' st' sm') (m:∀e∈es,Bk p.Wg e) (n:p.MS AnchW tag' j B (deafBehind d0 es) a' w') (f:ConcN.Mode j (kd D) tag'.dV st' sm')
 (A:tag'≠.fin) (L:tag'.op↔tag.op) (hp:∀i,tag'≠.fR i) (s:p.left tag'=p.left tag)
 (y:p.ph (Vc j (kd D)) tag'<p.ph (Vc j (kd D)) tag\/(p.ph (Vc j (kd D)) tag'=p.ph (Vc j (kd D)) tag/\B.lt T0)):
 ∃l ops o,runT p.P (crowd gs w sl) 0=(.next l,ops)/\p.M3 o (p.ph (Vc j (kd D)) tag+eH j D,fF D,T0)/\p.jP AnchW o l (t++ops):=by
 have F:=k.ra
 exact Gm k H h K q ⟨λ_=>⟨_,_,g⟩,d.base λx=>x.2.1 X⟩ (λi hi=>d.rely (ut k h hi F) λx=>(h.hr i hi _ x).2.1 X) d.size (λb M=>d.block b O) (d.block _ (Ne.symm k.wc))
  (KD m) (norel_of_Bk m) n g f (C.w8 (d.block _ (Ne.symm k.wh))) (C.to (d.block _ (Ne.symm k.wh)) L hp) s (λe=>absurd e A) y
theorem MT(k:p.Ok)(B:gs[0]?=some a)(h:p.Cm gs w t p.n 1 D bD V S ci)(C:p.gF w p.n .w1 D)(K:bD+p.left .w1=p.J){Q P:Int}(g:WgAt p.ty p.Wg w Q P)(d:ConcN.Mode p.n (kd D) dn.w1.dV Q P){m:Nat}
 (x:Goes p.P true p.RL p.D0 (p.AtW1 AnchW) m a w):
 ∃i ops y,runT p.P (crowd gs w sl) 0=(.next i,ops)/\p.M3 y (p.ph (Vc p.n (kd D)) .w1+eH p.n D,fF D,.nat m)/\p.jP AnchW y i (t++ops):=by
 have AO:=k.nn;rcases Goes.cases x with n|⟨m',rfl,l⟩
 .obtain⟨_,o⟩:=n w (RL.refl w);obtain⟨ho,rfl,rfl,_⟩:=ConcN.Mode.open_inv d bo;have hV:=Vc_le p.n (kd D);obtain⟨a',f,T,L⟩:=o (Vc p.n (kd D)) O (by simpa[dn.dV,pend]using g);have q:∀e∈#[rd (stA p.Wg)],Bk p.Wg e:=by intro e M;simp at M;subst M;exact bk_cell _ _ X
  by_cases A:Vc p.n (kd D)=0
  .obtain⟨s,H⟩:=T A;refine mo (tag':=.ke) k B h C K f (.refl _ w) g q (.ke H) ?_ (by simp) Iff.rfl (by simp) X (.inl (by simp only[ph];omega));have e:((Vc p.n (kd D)+pend (dn.dV .w1):Nat):Int)*KK=0:=by rw[A];simp[dn.dV,pend]
   rw[e];exact .fin bo (allQuit_of ho A)
  .obtain⟨s,H⟩:=L A;exact mo (tag':=.w2 (Vc p.n (kd D))) k B h C K f (.refl _ w) g q (.w2 H) (ConcN.Mode.reopen d bo bo X (λvs e=>by cases e;omega)) (by simp) Iff.rfl (by simp) X (.inl (by simp only[ph];omega))
 .obtain⟨a',w',es,f,W,F⟩:=l w (RL.refl w);exact lE k B h C K g d (by simp) f W (.w1 F) (Tr.jJ m') (by simp)
theorem M3.MD{e f:Nat}{x y z:(Nat->Tr)×Tr}{d:Nat×((Nat->Tr)×Tr)}(h:p.M3 d (e,x))(g:e<f):p.M3 d (f,y):=by
 obtain⟨k,l⟩:=d;rcases Prod.lex_def.1 h with h|⟨i,_⟩<;>simp only at*
 .exact Prod.Lex.left _ _ O
 .exact Prod.Lex.left _ _ O
end
end cy
namespace cy
section
variable {p:cy}{AnchW:Goroutine->World->Prop}{gs gs':Array Goroutine}{w w':World}{sl:Option (Nat×Nat)}{t u:Trace}{j d0:Nat}{D:Nat->WX}{bD:Nat}{V:Nat->Option Value}{S:Nat->Nat->Prop}{ci:Nat->Nat}{T0:Tr}{a:Goroutine}{tag tag':dn}
theorem Cm.spawn(h:p.Cm gs w t j 0 D 0 V S ci){a' k:Goroutine}{x y:MemOp}{T:Tr}(C:x.g=0/\x.act=.go (j+1))(F:y.g=j+1/\y.act=.start)(P:Own p.P false (λ_ g _=>p.Recv p.J g) T p.eI k w):
 p.Cm ((gs.setIfInBounds 0 a').push k) w (t++#[x,y]) (j+1) 0 (upd D j ⟨9,T,0,p.eI,none,λ_=>False⟩) 0 V S ci:=by
 have s:∀op∈#[x,y],op=x\/op=y:=by intro op n;simpa using n
 have A:∀op∈#[x,y],op.act≠.mark .disable/\op.act≠.mark .enable:=by
  intro op n;rcases s op n with rfl|rfl
  .rw[C.2];exact⟨by simp,by simp⟩
  .rw[F.2];exact⟨by simp,by simp⟩
 have lt:∀i,i<j+1->i<j\/i=j:=λi hi=>by omega
 have f:∀{i},i<j->i≠j:=λh=>by omega
 refine⟨by simp[h.size],λi hi=>?_,λi hi b x=>?_,λi M b H L x y=>?_,λi hi b x=>?_,λi hi b x=>?_,λi hi m x=>?_,λm s=>by omega,λm v e=>?_,h.p7,?_,h.norel.app λop n=>?_,by rw[Deaf_still t 0 _ A,h.deaf0],λi hi=>?_,λi hi B=>?_,h.base,h.out⟩
 .rcases lt i hi with d|rfl
  .obtain⟨g,W,K⟩:=h.wk i d;refine⟨g,?_,by rw[upd_ne D _ (f d)];exact K⟩;rw[Array.getElem?_push_lt (by simp[h.size];omega),<-xx,l8 O];exact W
  .refine⟨k,?_,by rw[upd_same];exact .idle (r:=p.J) O X P⟩;rw[show i+1=(gs.setIfInBounds 0 a').size by simp[h.size],Array.getElem?_push_size]
 .rcases lt i hi with d|rfl
  .rw[upd_ne D _ (f d)]at x;exact h.made i d b x
  .rw[upd_same]at x;exact x.elim
 .rcases lt i H with d|rfl
  .rcases lt M L with o|rfl
   .rw[upd_ne D _ (f d)]at x;rw[upd_ne D _ (f o)]at y;exact h.sep i M b d o x y
   .rw[upd_same]at y;exact y.elim
  .rw[upd_same]at x;exact x.elim
 .rcases lt i hi with d|rfl
  .rw[upd_ne D _ (f d)]at x ⊢;exact h.own i d b x
  .rw[upd_same]at x;exact x.elim
 .rcases lt i hi with d|rfl
  .rw[upd_ne D _ (f d)]at x;exact h.hr i d b x
  .rw[upd_same]at x;exact x
 .rcases lt i hi with d|rfl
  .rw[upd_ne D _ (f d)]at x;exact h.cur i d m x
  .rw[upd_same]at x;cases x
 .exact absurd (h.res m v e).1 O
 .refine(h.ti.fork (λl x=>by rcases x with x|x<;>omega) C F h.deaf0).Gr (λq hq l x=>?_) (λl x=>.inl x) (λl x=>x);rcases x with⟨H,L,x⟩|x
  rotate_left
  .exact .inl (.inr x)
  rcases x with⟨b,e,x⟩|⟨m,s,_⟩
  .rcases lt (q-1) O with d|e'
   .rw[upd_ne D _ (f d)]at x;exact .inl (.inl ⟨H,by omega,.inl ⟨b,e,x⟩⟩)
   .rw[e',upd_same]at x;exact x.elim
  .omega
 .rcases s op n with rfl|rfl
  .rw[C.2];simp
  .rw[F.2];simp
 .rw[Deaf_still t _ _ A];rcases lt i hi with d|rfl
  .rw[h.deafW i d,upd_ne D _ (f d)]
  .rw[upd_same];exact Deaf_absent λa op Q e=>by have:=h.ti.gs a op Q;omega
 .rcases lt i hi with d|rfl
  .rw[upd_ne D _ (f d)]at B;obtain⟨r,hr⟩:=h.rel i d B;refine⟨r,hr.appNot λop n=>?_⟩;rcases s op n with rfl|rfl
   .rw[C.1];omega
   .rw[F.1];omega
  .rw[upd_same]at B;simp at B
theorem QV{d:WX}:eH (j+1) (upd D j d)=eH j D+d.stage:=by simp only[eH,sumTo,upd_same];rw[sumTo_upd_out D _ (λx=>x.stage) (dO _)]
theorem Q1{d:WX}(e:5<=d.stage):Vc (j+1) (kd (upd D j d))=Vc j (kd D)+1:=by
 rw[Fg];simp only[Vc,sumTo,upd_same];rw[sumTo_upd_out (kd D) _ ConcN.cnt (dO _)];have:ConcN.cnt ⟨min d.stage 7,0,0⟩=1:=by simp only[ConcN.cnt];rw[ce O]
 rw[this]
theorem aax(k:p.Ok){r m:Nat}(hr:r<p.n)(ha:gs[0]?=some a)(h:p.Cm gs w t (p.n-(r+1)) 0 D bD V S ci)(hc:p.gF w (p.n-(r+1)) (.sp r 2) D)(hl:bD+p.left (.sp r 2)=p.J){st sm:Int}(M:WgAt p.ty p.Wg w st sm)(H:ConcN.Mode (p.n-(r+1)) (kd D) (dn.sp r 2).dV st sm)
 (x:p.AtGo (p.kV AnchW r) a w):
 ∃C ops W,runT p.P (crowd gs w sl) 0=(.next C,ops)/\p.M3 W (p.ph (Vc (p.n-(r+1)) (kd D)) (.sp r 2)+eH (p.n-(r+1)) D,fF D,.nat m)/\p.jP AnchW W C (t++ops):=by
 obtain⟨_,a',q,UL,hcr,Q,s⟩:=x;obtain rfl:bD=0:=by simp only[left]at hl;omega
 obtain⟨T,hT⟩:=Q h.base;obtain⟨ho,rfl,rfl,_⟩:=ConcN.Mode.open_inv H bo;have f:=runT_crowd_spawn (P:=p.P) (sl:=sl) (i:=0) ha (by simpa using UL);rw[h.size]at f;have l:=h.spawn (a':=a') (x:={g:=0,fn:=a.frame.fn,pos:=a.frame.place,act:=.go (p.n-(r+1)+1)}) (y:={g:=p.n-(r+1)+1,fn:=q.frame.fn,pos:=a.frame.place,act:=.start}) ⟨X,X⟩ ⟨X,X⟩ hT;have eV:=Q1 (j:=p.n-(r+1)) (D:=D) (d:=⟨9,T,0,p.eI,none,λ_=>False⟩) (by simp);have eS:=QV (j:=p.n-(r+1)) (D:=D) (d:=⟨9,T,0,p.eI,none,λ_=>False⟩);have A:OpenSt (p.n-(r+1)+1) (kd (upd D (p.n-(r+1)) ⟨9,T,0,p.eI,none,λ_=>False⟩)):=λi hi=>by
  rw[Fg];by_cases e:i=p.n-(r+1)
  .subst e;rw[upd_same];simp
  .rw[upd_ne _ _ e];exact ho i O
 have K:((gs.setIfInBounds 0 a').push q)[0]?=some a':=by rw[Array.getElem?_push_lt (by simp[h.size]),<-xx];simp[h.size]
 have L:=hc.op bo
 have o:∀tag':dn,tag'.op->(∀i,tag'≠.fR i)->p.gF w (p.n-(r+1)+1) tag' (upd D (p.n-(r+1)) ⟨9,T,0,p.eI,none,λ_=>False⟩):=λtag' h1 h2=>⟨λ_=>⟨L.1,λi hi=>by
  by_cases e:i=p.n-(r+1)
  .subst e;rw[upd_same];simp
  .rw[upd_ne D _ e];exact L.2 i O⟩,λx=>absurd h1 x,λi e=>absurd e (h2 i)⟩
 have ej:p.n-(r+1)+1=p.n-r:=by omega
 simp only at eS;rw[ej]at f l eV eS A o;have F:∀tag':dn,pend tag'.dV=0->((Vc (p.n-(r+1)) (kd D)+pend (dn.dV (.sp r 2)):Nat):Int)*KK=((Vc (p.n-r) (kd (upd D (p.n-(r+1)) ⟨9,T,0,p.eI,none,λ_=>False⟩))+pend tag'.dV:Nat):Int)*KK:=λtag' hp=>by rw[eV,hp];simp[dn.dV,pend]
 cases r with
 |zero=>
  obtain⟨n,hk⟩:=s h.base;simp only[qR]at f l eV eS A F o
  refine⟨_,_,(p.ph (Vc p.n (kd (upd D (p.n-(0+1)) ⟨9,T,0,p.eI,none,λ_=>False⟩))) (.snd p.J)+eH p.n (upd D (p.n-(0+1)) ⟨9,T,0,p.eI,none,λ_=>False⟩),fF (upd D (p.n-(0+1)) ⟨9,T,0,p.eI,none,λ_=>False⟩),.nat n),f,Prod.Lex.left _ _ (by simp only[ph];omega),
   _,w,sl,p.n,0,.snd p.J,_,0,V,S,ci,.nat n,a',_,_,X,K,.snd (dO _) hk,by simpa[MemOp.ofEvents]using l,M,?_,o _ bo (by simp),by simp[left],by simp,X⟩
  rw[F (.snd p.J) X];exact .opn bo A (by simp[dn.dV])
 |succ B=>
  obtain⟨n,hk⟩:=s
  refine⟨_,_,(p.ph (Vc (p.n-(B+1)) (kd (upd D (p.n-(B+1+1)) ⟨9,T,0,p.eI,none,λ_=>False⟩))) (.sp B 5)+eH (p.n-(B+1)) (upd D (p.n-(B+1+1)) ⟨9,T,0,p.eI,none,λ_=>False⟩),fF (upd D (p.n-(B+1+1)) ⟨9,T,0,p.eI,none,λ_=>False⟩),.nat n),f,Prod.Lex.left _ _ (by simp only[ph];omega),
   _,w,sl,p.n-(B+1),0,.sp B 5,_,0,V,S,ci,.nat n,a',_,_,X,K,.skd O hk,by simpa[MemOp.ofEvents]using l,M,?_,o _ bo (by simp),by simp[left],by simp,X⟩
  rw[F (.sp B 5) X];exact .opn bo A (by simp[dn.dV])
end
end cy
namespace cy
section
variable {p:cy}{AnchW:Goroutine->World->Prop}{gs gs':Array Goroutine}{w w':World}{sl:Option (Nat×Nat)}{t u:Trace}{j d0:Nat}{D:Nat->WX}{bD:Nat}{V:Nat->Option Value}{S:Nat->Nat->Prop}{ci:Nat->Nat}{T0:Tr}{a:Goroutine}{tag tag':dn}
theorem WS.parked{rem s d:Nat}{T:Tr}{h:bG}{c:Option Nat}{g:Goroutine}(x:p.WS rem s T d h c g w)(f:s=8):∃e r,g=Conc.parked (core e) #[rcase p.ch z0] (.recv true)/\rem<=r/\h.r=p.Fz/\p.Recv r e/\c=none/\d=0/\T=.leaf:=by
 cases x<;>first|omega|exact⟨_,_,X,by assumption,by assumption,by assumption,X,X,X⟩
theorem WJ{g g':Goroutine}{cs cs':Array CommCase}{sh e:CommShape}(h:Conc.parked g cs sh=Conc.parked g' cs' e):(∀v,Conc.served g v=Conc.served g' v)/\g.frame=g'.frame/\sh=e:=by obtain⟨f,c,s,d,o⟩:=g;obtain⟨f',i,m,k,l⟩:=g';simp only[Conc.parked,Goroutine.mk.injEq,gU,Prod.mk.injEq]at h;obtain⟨rfl,rfl,_,rfl,_,rfl⟩:=h;exact⟨λv=>rfl,X,X⟩
theorem dD(k:p.Ok){i m:Nat}(hi:i+1<=p.J)(ha:gs[0]?=some a)(h:p.Cm gs w t p.n 0 D bD V S ci)(hc:p.gF w p.n (.snd (i+1)) D)(hl:bD+p.left (.snd (i+1))=p.J){st sm:Int}(iT:WgAt p.ty p.Wg w st sm)(F:ConcN.Mode p.n (kd D) (dn.snd (i+1)).dV st sm)
 (x:p.ml AnchW (i+1) a):
 ∃Q ops gw,runT p.P (crowd gs w sl) 0=(.next Q,ops)/\p.M3 gw (p.ph (Vc p.n (kd D)) (.snd (i+1))+eH p.n D,fF D,.nat m)/\p.jP AnchW gw Q (t++ops):=by
 obtain⟨jr,⟨z,iS⟩,H⟩:=x;have iS:=iS w;have P:stepG p.P (0==0) a w=.comm (core a) #[scase p.ch (.int .i64 ((p.J:Int)-(i+1:Nat))) z] true .send w #[]:=by simpa using iS
 obtain⟨⟨s,r',tm,uj⟩,JS⟩:=hc.op bo;simp only[left]at hl;have mu:((p.J:Int)-(i+1:Nat))=(bD:Int):=by omega
 have up:0<gs.size:=by rw[h.size];omega
 by_cases h8:∃q,q<p.n/\(D q).stage=8
 . -- some worker is parked
  have mt:partners (gs.setIfInBounds 0 Conc.ph) p.ch false≠[]:=λe=>by obtain⟨q,A,h8⟩:=h8;obtain⟨g,B,L⟩:=h.wk q A;obtain⟨g0,_,rfl,_⟩:=L.parked h8;have:(q+1,0)∈partners (gs.setIfInBounds 0 Conc.ph) p.ch false:=mem_partners.2 ⟨_,by rw[l8 O];exact B,by rw[offersAt_parked_recv,ce X];simp⟩;rw[e]at this;cases this
  have key:∀(q:Nat)(g:Goroutine),gs[q+1]?=some g->offersAt g p.ch false≠[]->∃A:q<p.n,(D q).stage=8:=λq g B ho=>by
   have l:q<p.n:=by have:=(gV.1 B).1;rw[h.size]at this;omega
   obtain⟨x,M,L⟩:=h.wk q l;rw[B]at M;cases M;refine⟨l,Classical.byContradiction λo=>ho (L.Bx o _)⟩
  have qI:∀q kk,(q,kk)∈partners (gs.setIfInBounds 0 Conc.ph) p.ch false->kk=0/\q≠0/\∃gj zj Mi,gs[q]?=some (Conc.parked gj #[rcase p.ch zj] Mi):=λq kk hm=>by
   obtain⟨g,B,ho⟩:=mem_partners.1 hm;rcases getElem?_stand gs 0 q g B with⟨_,rfl⟩|⟨A,B⟩
   .cases ho
   .obtain⟨f,rfl⟩:∃f,q=f+1:=⟨q-1,by omega⟩
    obtain⟨l,o⟩:=key f g B λe=>by rw[e]at ho;cases ho
    obtain⟨x,M,L⟩:=h.wk f l;rw[B]at M;cases M;obtain⟨g0,_,rfl,_⟩:=L.parked o;rw[offersAt_parked_recv,ce X]at ho;exact⟨by simpa using ho,by omega,_,_,_,B⟩
  obtain⟨q,gj,zj,Mi,d,Uz,JK,n⟩:=crowd_send_meets_some (sl:=sl) ha P uj mt qI;obtain⟨f,rfl⟩:∃f,q=f+1:=⟨q-1,by omega⟩
  obtain⟨l,o⟩:=key f _ JK (by simp[offersAt,Conc.parked,rcase]);obtain⟨x,M,L⟩:=h.wk f l;rw[JK]at M;cases M;obtain⟨g0,r,Uw,hr,hF,hR,la,lC,_⟩:=L.parked o;obtain⟨UM,TL,rfl⟩:=WJ Uw;rw[finishComm_recv,finishComm_send,UM,mu,TL]at n;simp only[recvd,jX]at n
  cases r with
  |zero=>omega
  |succ r=>
  have ht:ka p.ch w ((w.at d).setChan p.ch 0 #[] false (s+1) (r'+1) tm):=Me;have rl:p.RL w ((w.at d).setChan p.ch 0 #[] false (s+1) (r'+1) tm):=⟨ht.live (Ne.symm k.wh),ht.base λx=>x.2.2.1 X⟩
  obtain⟨T,hT⟩:=hR.2 bD O _ (rl.2 h.base);obtain⟨W,hm⟩:=H _ (rl.2 h.base);have A:oU p p.n (#[{g:=0,fn:=a.frame.fn,pos:=a.frame.place,act:=.send p.ch s},{g:=f+1,fn:=g0.frame.fn,pos:=g0.frame.place,act:=.recv p.ch r' 0},{g:=0,fn:=a.frame.fn,pos:=a.frame.place,act:=.sendDone p.ch s},{g:=f+1,fn:=g0.frame.fn,pos:=g0.frame.place,act:=.recvDone p.ch r'}]:Trace):=
   oU.of (es:=[_,_,_,_]) (λop K=>by simp at K;rcases K with rfl|rfl|rfl|rfl<;>simp<;>omega) (λop K=>by simp at K;rcases K with rfl|rfl|rfl|rfl<;>simp)
  have Uc:f+1<gs.size:=by rw[h.size];omega
  have C:=h.comm k l (gs':=(gs.setIfInBounds (f+1) (Conc.served (core g0) (.tuple #[.int .i64 bD,.bool true]))).setIfInBounds 0 (Conc.served (core a) undef)) (d:=⟨10,T,0,p.eI,some bD,(D f).made⟩) (pG:=bD+1) (qs:=upd ci bD f) ht (by simp)
   (λq A mt=>by rw[l8 O,l8 O]) ⟨_,by rw[l8 O];simp[Uc],.fA (r:=r) O X hT⟩ X (λb x=>x.elim) (λb x=>x) la (.inr ⟨X,X,X⟩) lC.symm (by simp) A
  have AM:min (10:Nat) 7=min (D f).stage 7:=by rw[o];rfl
  refine⟨_,_,(p.ph (Vc p.n (kd (upd D f ⟨10,T,0,p.eI,some bD,(D f).made⟩))) (.snd i)+eH p.n (upd D f ⟨10,T,0,p.eI,some bD,(D f).made⟩),fF (upd D f ⟨10,T,0,p.eI,some bD,(D f).made⟩),.nat W),n,?_,_,_,sl,p.n,0,.snd i,_,bD+1,V,S,upd ci bD f,.nat W,Conc.served (core a) undef,st,sm,X,by simp[up],.snd O hm,?_,?_,?_,?_,?_,by simp,X⟩
  .refine Prod.Lex.left _ _ ?_;have:=Ad l (D:=D) ⟨10,T,0,p.eI,some bD,(D f).made⟩;simp only[o]at this;rw[Ag AM];simp only[ph];omega
  .have e:∀x:Trace,t++(MemOp.ofEvents 0 a.frame.fn a.frame.place #[]++x)=t++x:=λx=>by simp[MemOp.ofEvents]
   rw[e];exact C
  .unfold WgAt at*;rw[ht.block _ k.wh];exact iT
  .exact ConcN.Mode.congr (λq _=>xz AM q) F
  .refine⟨λ_=>⟨⟨s+1,r'+1,tm,?_⟩,λq A=>?_⟩,λx=>absurd bo x,λq e=>by cases e⟩
   .have:=(gV.1 uj).1;simp[World.setChan,World.at,this]
   .by_cases e:q=f
    .subst e;rw[upd_same];simp
    .rw[upd_ne D _ e];exact JS q A
  .simp only[left];omega
 . -- nobody receives: it is parked
  have h8:∀q,q<p.n->(D q).stage≠8:=λq A e=>h8 ⟨q,A,e⟩;have xk:partners (gs.setIfInBounds 0 Conc.ph) p.ch false=[]:=Fy λq x A M=>by
   obtain⟨f,rfl⟩:∃f,q=f+1:=⟨q-1,by omega⟩
   have l:f<p.n:=by have:=(gV.1 M).1;rw[h.size]at this;omega
   obtain⟨y,hy,L⟩:=h.wk f l;rw[M]at hy;cases hy;exact L.Bx (h8 f l) _
  have n:=crowd_waits (sl:=sl) ha P (λcc xc=>by simp at xc;subst xc;exact ways_send_none uj (by simp) xk)
  have C:p.Cm (gs.setIfInBounds 0 (Conc.parked (core a) #[scase p.ch (.int .i64 ((p.J:Int)-(i+1:Nat))) z] .send)) w t p.n 0 D bD V S ci:={h with
   size:=by simp[h.size]
   wk:=λq A=>let⟨g,B,L⟩:=h.wk q A;⟨g,by rw[l8 O];exact B,L⟩}
  refine⟨_,_,(p.ph (Vc p.n (kd D)) (.fR i)+eH p.n D,fF D,.leaf),n,?_,_,w,sl,p.n,0,.fR i,D,bD,V,S,ci,.leaf,Conc.parked (core a) #[scase p.ch (.int .i64 ((p.J:Int)-(i+1:Nat))) z] .send,st,sm,X,Array.getElem?_setIfInBounds_self_of_lt up,.fR O H,by simpa[MemOp.ofEvents]using C,iT,F,⟨λ_=>hc.op bo,λx=>absurd bo x,λ_ _=>h8⟩,hl,by simp,X⟩;exact Prod.Lex.left _ _ (by simp only[ph];omega)
theorem Recv.congr{r:Nat}{g g':Goroutine}(i:g'.frame=g.frame)(k:g'.callers=g.callers)(l:g'.dying=g.dying)(q:g'.status=.running)(h:p.Recv r g):p.Recv r g':=by
 have e:core g'=core g:=by obtain⟨f,c,s,d,o⟩:=g;obtain⟨f',F,L,H,K⟩:=g';simp only at i k l;subst i k l;rfl
 have n:p.tY g->p.tY g':=λ⟨M,B,C⟩=>⟨q,λw=>by rw[e,<-B w];exact stepG_same i k l w,λw y=>by rw[e];exact C w y⟩
 cases r with
 |zero=>exact n h
 |succ r=>exact⟨n h.1,λm A w x=>by rw[e];exact h.2 m A w x⟩
def kR(D:Nat->WX):Nat->WX:=λi=>{D i with stage:=if(D i).stage=8 then 9 else(D i).stage}
theorem H0:∀j,eH j (kR D)<=eH j D+j
 |0=>by simp[eH,sumTo]
 |j+1=>by have:=H0 j;simp only[eH,sumTo,kR]at this ⊢;split<;>omega
theorem Q8{g:Goroutine}{w:World}{s r:Nat}{e:Bool}(d:w.heap[p.ch]?=some (.chan 0 #[] true s r e)):(Conc.parked g #[rcase p.ch z0] (.recv true)).again w={Conc.parked g #[rcase p.ch z0] (.recv true)with status:=.running}:=again_recv_closed d
theorem RT(k:p.Ok){m:Nat}(ha:gs[0]?=some a)(h:p.Cm gs w t p.n 0 D bD V S ci)(hc:p.gF w p.n (.snd 0) D)(hl:bD+p.left (.snd 0)=p.J){st sm:Int}(iT:WgAt p.ty p.Wg w st sm)(C:ConcN.Mode p.n (kd D) (dn.snd 0).dV st sm)
 (x:p.ml AnchW 0 a):
 ∃A ops gw,runT p.P (crowd gs w sl) 0=(.next A,ops)/\p.M3 gw (p.ph (Vc p.n (kd D)) (.snd 0)+eH p.n D,fF D,.nat m)/\p.jP AnchW gw A (t++ops):=by
 obtain⟨jr,EM,g',AJ,K,F⟩:=x;obtain⟨⟨s,f,l,Q⟩,JS⟩:=hc.op bo;have K:=K w s f l Q;have H:=runT_crowd_go (P:=p.P) (sl:=sl) (i:=0) ha (by simpa using K);have q:ka p.ch w (w.shut p.ch s f l):=⟨X,X,X,by simp[World.shut],λb hb=>by simp[World.shut,Ne.symm hb]⟩
 have W:(w.shut p.ch s f l).heap[p.ch]?=some (.chan 0 #[] true s f l):=heap_put Q;have rl:p.RL w (w.shut p.ch s f l):=⟨q.live (Ne.symm k.wh),q.base λx=>x.2.2.1 X⟩
 obtain⟨B,hm⟩:=F _ (rl.1 ⟨_,_,iT⟩);have hH:=k.xH;have U0:∀o:Goroutine,Go.Conc.woken p.P a g' (w.shut p.ch s f l) o=o.again (w.shut p.ch s f l):=λo=>by unfold Go.Conc.woken;simp[EM,AJ]
 have n:∀op∈MemOp.ofEvents 0 a.frame.fn a.frame.place (closeEvents p.ch),op={g:=0,fn:=a.frame.fn,pos:=a.frame.place,act:=.access ⟨.obj p.ch,false,true⟩}\/op={g:=0,fn:=a.frame.fn,pos:=a.frame.place,act:=.close p.ch}:=λop d=>by rw[ofEvents_eq]at d;simpa[closeEvents,MemAct.ofEvent]using d
 have np:p.Cm ((gs.map (Go.Conc.woken p.P a g' (w.shut p.ch s f l))).setIfInBounds 0 g') (w.shut p.ch s f l) (t++MemOp.ofEvents 0 a.frame.fn a.frame.place (closeEvents p.ch)) p.n 0 (kR D) bD V S ci:=by
  refine⟨by simp[h.size],λi hi=>?_,λi hi b x=>by rw[q.size];exact h.made i hi b x,h.sep,h.own,h.hr,h.cur,h.fA,λm v e=>?_,h.p7,?_,h.norel.app λop d=>by rcases n op d with e|e<;>rw[e]<;>simp,?_,λi hi=>?_,λi hi hs=>?_,rl.2 h.base,k.out _ w _ (q.block _ k.ch) h.out⟩
  .obtain⟨x,M,L⟩:=h.wk i hi;have UG:=q.rely (ut k h hi hH) λy=>(h.hr i hi _ y).2.2.1 X;by_cases e:(D i).stage=8
   .obtain⟨g0,r,rfl,hr,hF,hR,la,lC,Ua⟩:=L.parked e;refine⟨_,by rw[get_map_set _ _ _ _ O,M,mB,U0,Q8 W],?_⟩;have:p.WS (p.J-bD) 9 (kR D i).tree 0 (D i).h none {Conc.parked (core g0) #[rcase p.ch z0] (.recv true)with status:=.running} (w.shut p.ch s f l):=by
     rw[show(kR D i).tree=Tr.leaf from Ua];exact .idle hr hF λw1 r1=>Recv.congr (g:=g0) X X X X hR
    simp only[kR,e,jX,la,lC]at this ⊢;exact this
   .have hw:=L.woken a g' (w.shut p.ch s f l) λh8=>absurd h8 e;refine⟨x,by rw[get_map_set _ _ _ _ O,M,mB,hw],?_⟩;simp only[kR,e,ol];exact L.rely UG rl
  .obtain⟨h1,h2,h3⟩:=h.res m v e;exact⟨h1,k.res _ _ _ w _ (λb x=>q.block b λe'=>by subst e';have:=(h.made _ (h.fA m h1).1 _ (h3 _ x).1).1;omega) h2,h3⟩
  .rw[q.size];refine h.ti.app (cy.wI (D:=kR D) (bD:=bD) (ci:=ci) k h.made h.sep h.base.size) (jF _) λop d=>?_;rcases n op d with e|e<;>rw[e]
   .exact⟨X,λx M=>by simp only[MemAct.touch?,gU]at M;subst M;exact .inr (.inl ⟨.inr ⟨X,X⟩,.inr X⟩)⟩
   .exact⟨X,λx M=>by simp[MemAct.touch?]at M⟩
  .rw[Deaf_still t 0 _ λop d=>by rcases n op d with e|e<;>rw[e]<;>simp,h.deaf0]
  .rw[Deaf_still t _ _ λop d=>by rcases n op d with e|e<;>rw[e]<;>simp];exact h.deafW i hi
  .have e:(D i).stage<=6:=by
    simp only[kR]at hs;split at hs<;>omega
   obtain⟨r,hr⟩:=h.rel i hi e;exact⟨r,hr.appOther g_of_ofEvents O⟩
 have T:kd (kR D)=kd D:=funext λi=>by
  simp only[kd,kR];split
  .rename_i e;rw[e];rfl
  .rfl
 have hsw:=H0 (D:=D) p.n;refine⟨_,_,(p.ph (Vc p.n (kd (kR D))) .kd+eH p.n (kR D),fF (kR D),.nat B),H,?_,_,_,sl,p.n,0,.kd,kR D,bD,V,S,ci,.nat B,g',st,sm,X,get_map_set_same _ _ _ (by rw[h.size];omega),.kd hm,np,?_,?_,?_,hl,by simp,X⟩
 .refine Prod.Lex.left _ _ ?_;rw[T];simp only[ph];omega
 .unfold WgAt at*;rw[q.block _ k.wh];exact iT
 .rw[T];exact C
 .refine⟨λx=>x.elim,λ_=>⟨⟨s,f,l,W⟩,λi hi=>?_⟩,λ_ e=>by cases e⟩;simp only[kR];split
  .simp
  .assumption
end
end cy
end Go.Proofs.YtklkkoelldkncaaGreatDoor
namespace Go.Proofs.YtklkkoelldkncaaGreatDoor
open Go.Conc Go.ConcN
open Go.ConcR (KK wgBlock WgAt stA smA rd wr DC0 g_of_ofEvents Bk ofEvent_loc_mark ofEvent_cell ofEvent_mk bk_of_mute)
namespace cy
variable (p:cy)
def Cy(k:Nat)(l:Loc):Prop:=k=0/\∃b,gH l=some b/\b≠p.Wg
structure Ps(gs:Array Goroutine)(w:World)(t:Trace)(T:Tr)(h:bG)(a:Goroutine)(q dd:Nat->Nat):Prop where
 a0:gs[0]?=some a
 size:gs.size=p.n+1
 own:Own p.P true p.AtRet T h a w
 ho:∀b,h.o b->b≠p.Wg
 hr:∀b,¬h.r b
 lt:p.Wg<w.heap.size
 wk:∀i,i<p.n->∃g,gs[i+1]?=some g/\QuitsD p.P (q i) (dd i) g/\Deaf t (i+1)=dd i
 ti:TI (ShN p.Wg) p.Cy (λ_=>False) (λ_=>False) t p.n
 norel:NoRelease (stA p.Wg) t
 acq:AcqAll p.Wg p.n t
def Dh(d:Nat×((Nat->Tr)×Tr))(m:Machine)(t:Trace):Prop:=
 ∃(gs:Array Goroutine)(w:World)(sl:Option (Nat×Nat))(T:Tr)(h:bG)(a:Goroutine)(q dd:Nat->Nat),m=crowd gs w sl/\p.Ps gs w t T h a q dd/\d=(0,(λi=>.nat (q i)),T)
section
variable {p:cy}{AnchW:Goroutine->World->Prop}{gs gs':Array Goroutine}{w w':World}{sl:Option (Nat×Nat)}{t u:Trace}{j d0:Nat}{D:Nat->WX}{bD:Nat}{V:Nat->Option Value}{S:Nat->Nat->Prop}{ci:Nat->Nat}{T0 T:Tr}{a:Goroutine}{tag tag':dn}{h:bG}{q dd:Nat->Nat}
theorem Ik:zI (ShN p.Wg) p.Cy (λ_=>False) (λ_=>False):=
 ⟨λ_ _ _ h d=>h.1.trans d.1.symm,λ_ _ _ x=>x,λ_ _ _ x=>x,λ_ _ h x=>by obtain⟨_,b,e,f⟩:=h;exact f (dF (e.symm.trans (qn x))),λ_ x=>x.elim,λ_ x=>x.elim,λ_ x=>x.elim⟩
theorem Ps.status(x:p.Ps gs w t T h a q dd):a.status=.running:=Own.running (λ_ _ _ y=>y.1) x.own
theorem Ps.at(x:p.Ps gs w t T h a q dd)(d:Nat):p.Ps gs (w.at d) t T h a q dd:={x with own:=x.own.rely (.at _ w d),lt:=x.lt}
theorem KX(x:p.Ps gs w t T h a q dd):
 (∃o F ops,runT p.P (crowd gs w sl) 0=(.ended o F,ops)/\∀C m,Conc.Good p.P p.Post (crowd gs C m) o F (t++ops))\/
 (∃B ops gw,runT p.P (crowd gs w sl) 0=(.next B,ops)/\p.M3 gw (0,(λi=>.nat (q i)),T)/\p.Dh gw B (t++ops)):=by
 have mv:∀{h:bG}{n:Nat}{es:Array Event}{fn:FuncId}{pos:String},(∀b,h.o b->b≠p.Wg)->(∀b,¬h.r b)->(∀e∈es,ja h n e)->∀op∈MemOp.ofEvents 0 fn pos es,rX (ShN p.Wg) p.Cy (λ_=>False) 0 op:=λho hr he=>Hb he (λl b e y=>⟨X,b,e,ho b y⟩) λl b e y=>absurd y (hr b)
 cases T with
 |leaf=>
  obtain⟨_,v,es,M,Q,H⟩:=x.own w (.refl _ _);have L:=x.ti.app Ik (jF _) (mv (fn:=a.frame.fn) (pos:=a.frame.place) x.ho x.hr Q);have M4:∀i g,gs[i]?=some g->i≠0->∃k,i=k+1/\k<p.n/\QuitsD p.P (q k) (dd k) g/\Deaf t (k+1)=dd k:=by
   intro i g A xf;obtain⟨k,rfl⟩:∃k,i=k+1:=⟨i-1,by omega⟩
   have s:k<p.n:=by have:=(gV.1 A).1;rw[x.size]at this;omega
   obtain⟨g',W,sD⟩:=x.wk k s;rw[A]at W;cases W;exact⟨k,X,s,sD⟩
  refine .inl ⟨_,_,_,runT_crowd_ended x.a0 (by simpa using M),λC m=>⟨v,X,H,L.nr,?_,⟨λg A=>?_,X⟩,λi g A xf=>?_⟩⟩
  .obtain⟨q0,h1,h2,h3,h4⟩:=x.acq.app (u:=MemOp.ofEvents 0 a.frame.fn a.frame.place es) λi r _ hr=>hr.appOther g_of_ofEvents O;refine handedOver_all (λi g TO mt=>?_) (x.norel.app (norel_of (ja.norel Q))) h1 h2 h3;obtain⟨op,ho,rfl⟩:=pw.1 TO;have:=L.gs i op ho;have:=h4 (op.g-1) O;rwa[show op.g-1+1=op.g by omega]at this
  .obtain⟨i,hi⟩:=List.mem_iff_getElem?.1 A;rw[qV]at hi;obtain⟨k,_,_,K,_⟩:=M4 (1+i) g (by simpa[crowd]using hi) O;exact⟨_,K.leaves⟩
  .obtain⟨k,rfl,s,K,lC⟩:=M4 i g A xf;refine⟨q k,?_⟩;have:(t++MemOp.ofEvents 0 a.frame.fn a.frame.place es).deaf (k+1) (t++MemOp.ofEvents 0 a.frame.fn a.frame.place es).size=dd k:=by
    have:=Deaf_other t (g:=k+1) (g':=0) O _ (g_of_ofEvents (fn:=a.frame.fn) (pos:=a.frame.place) (es:=es));rw[lC]at this;exact this
   rw[this];exact K.hears _
 |mk f=>
  obtain⟨_,hO⟩:=x.own;obtain⟨g',w',es,hgo,d,Ex⟩:=hO w (.refl _ _);have s:=x.lt;have jr:=runT_crowd_go (P:=p.P) (sl:=sl) (i:=0) x.a0 (by simpa using hgo);refine .inr ⟨_,_,(0,(λi=>.nat (q i)),f w),jr,Prod.Lex.right _ (Prod.Lex.right _ ⟨w,X⟩),_,w',sl,f w,h.grow w w',g',q,dd,X,⟨get_map_set_same _ _ _ (by rw[x.size];omega),by simp[x.size],Ex,λb hb=>?_,x.hr,by have:=d.size;omega,λi hi=>?_,x.ti.app Ik (jF _) (mv x.ho x.hr d.ev),x.norel.app (norel_of (ja.norel d.ev)),x.acq.app λi r _ hr=>hr.appOther g_of_ofEvents O⟩,X⟩
  .rcases hb with hb|hb
   .exact x.ho b hb
   .omega
  .obtain⟨g,A,hq,hd⟩:=x.wk i hi;exact⟨g,by rw[get_map_set _ _ _ _ O,A,mB,woken_quitsD hq],hq,by rw[Deaf_other t O _ g_of_ofEvents];exact hd⟩
theorem W3(x:p.Ps gs w t T h a q dd){i:Nat}{g:Goroutine}(hg:gs[i+1]?=some g)(f:g.status=.running):
  ∃l ops L,runT p.P (crowd gs w sl) (i+1)=(.next l,ops)/\p.M3 L (0,(λi=>.nat (q i)),T)/\p.Dh L l (t++ops):=by
  have hi:i<p.n:=by have:=(gV.1 hg).1;rw[x.size]at this;omega
  obtain⟨g1,F,B,hd⟩:=x.wk i hi;rw[hg]at F;cases F
  cases n:q i with
  |zero=>rw[n]at B;rw[B.1]at f;cases f
  |succ m=>
   rw[n]at B;rcases B with⟨hf,_⟩|⟨_,g',es,d,s,B⟩
   .rw[hf]at f;cases f
   .have Q:∀e∈es,Bk p.Wg e:=λe A=>bk_of_mute (d e A);have Ul:∀e∈es,(MemAct.ofEvent e).touch? =none:=λe A=>by
     rcases bk_of_mute (Wg:=p.Wg) (d e A)with M|M|⟨a,wr,rfl,_⟩
     .rw[ofEvent_loc_mark M];rfl
     .rw[ofEvent_loc_mark M];rfl
     .have:=d _ A;simp[Event.mute]at this
    have H:∀op∈MemOp.ofEvents (i+1) g.frame.fn g.frame.place es,op.g=i+1/\op.act.touch? =none:=λop k=>by rw[ofEvents_eq]at k;obtain⟨e,A,rfl⟩:=pp.1 k;exact⟨X,Ul e A⟩
    have o:=runT_crowd_go (P:=p.P) (sl:=sl) (i:=i+1) hg (by simpa using s w);have UX:Go.Conc.woken p.P g g' w a=a:=by
     unfold Go.Conc.woken;split
     .exact again_running _ (.inl x.status)
     .rfl
    refine⟨_,_,(0,(λC=>.nat (upd q i m C)),T),o,Prod.Lex.right _ (Prod.Lex.left _ _ ⟨i,hi,?_,λC e=>by simp only[upd_ne q _ e]⟩),_,w,sl,T,h,a,upd q i m,upd dd i (deafBehind (dd i) es),X,
     ⟨by rw[get_map_set _ _ _ _ O,x.a0,mB,UX],by simp[x.size],x.own,x.ho,x.hr,x.lt,λC uo=>?_,x.ti.still O H,x.norel.app (Wo Q),x.acq.app λC r _ hr=>LX hr λop k=>(H op k).2⟩,X⟩
    .simp only[upd_same,n];exact Tr.jJ m
    .by_cases e:C=i
     .subst e;exact⟨g',get_map_set_same _ _ _ (by rw[x.size];omega),by rw[upd_same,upd_same];exact B,by rw[Deaf_own,hd,upd_same]⟩
     .obtain⟨y,hy,K,W⟩:=x.wk C uo;exact⟨y,by rw[get_map_set _ _ _ _ O,hy,mB,woken_quitsD K],by rw[upd_ne q _ e,upd_ne dd _ e];exact K,by rw[Deaf_other t O _ g_of_ofEvents,W,upd_ne dd _ e]⟩
 where
  Wo {g:Nat} {fn:FuncId} {pos:String} {es:Array Event} (hb:∀e∈es,Bk p.Wg e):∀op∈MemOp.ofEvents g fn pos es,op.act≠.mark (.release (stA p.Wg)):=norel_of (norel_of_Bk hb)
theorem aa1(k:p.Ok)(ha:gs[0]?=some a)(h:p.Cm gs w t p.n 0 D bD V S ci)(hl:bD=p.J){st sm:Int}(iT:WgAt p.ty p.Wg w st sm)(o:ConcN.Mode p.n (kd D) dn.fin.dV st sm)(n:AcqAll p.Wg p.n t)(x:p.qi a w):
 ∃T q dd,p.Ps gs w t T (p.EP w) a q dd/\∀i,i<p.n->(D i).stage=1:=by
 obtain⟨hq,rfl,rfl⟩:=ConcN.Mode.fin_inv o bo;have hW:=k.ra;have L:∀i,i<p.n->(D i).stage=1:=λi hi=>by have:=hq i hi;simp only[kd]at this;omega
 have A:∀i,i<p.n->∃m,∃g,gs[i+1]?=some g/\QuitsD p.P m (D i).deaf g/\(D i).cur=none:=λi hi=>by
  obtain⟨g,Q,K⟩:=h.wk i hi;have e:=L i hi;generalize(D i).stage=s at K e;generalize(D i).tree=T at K;generalize lC:(D i).deaf=d at K;generalize la:(D i).cur=c at K
  cases K with
  |quit y=>exact⟨_,g,Q,y,X⟩
  |_=>omega
 have fA:∀m,m<p.J->∃v,V m=some v:=λm C=>by
  obtain⟨P,f⟩:=h.fA m O;rcases f with f|f
  .exact f
  .obtain⟨_,_,_,_,hc⟩:=A _ P;rw[hc]at f;cases f
 have f1:∀m,m<p.J->∃v,V m=some v/\p.hU m v (S m) w:=λm C=>let⟨v,e⟩:=fA m C;⟨v,e,(h.res m v e).2.1⟩
 have f2:∀m b,m<p.J->S m b->p.fW.heap.size<=b/\b<w.heap.size:=λm b C y=>by obtain⟨v,e⟩:=fA m C;exact h.made _ (h.fA m O).1 b ((h.res m v e).2.2 b y).1
 have f3:∀m F b,m<p.J->F<p.J->S m b->S F b->m=F:=λm F b C uq y y'=>by obtain⟨v,e⟩:=fA m C;obtain⟨v',e'⟩:=fA F uq;exact h.p7 m F b y y' (by rw[e];simp) (by rw[e'];simp)
 obtain⟨T,hT⟩:=x.2 w ⟨h.base,⟨_,_,iT⟩,V,S,h.out,f1,f2,f3⟩;have pm:=h.base.size;refine⟨T,λi=>if hi:i<p.n then Classical.choose (A i hi)else 0,λi=>(D i).deaf,⟨ha,h.size,hT,λb y=>y.2,λb y=>y,by omega,λi hi=>?_,?_,h.norel,n⟩,L⟩
 .obtain⟨g,Q,y,_⟩:=Classical.choose_spec (A i hi);exact⟨g,Q,by rw[dif_pos hi];exact y,h.deafW i hi⟩
 .refine⟨h.ti.quiet,λq hq l y=>?_,λ_ _ _ y=>y.elim,λ_ _ _ y=>y.elim,h.ti.nr,h.ti.gs,h.ti.plain⟩;obtain⟨rfl,b,e,hb⟩:=y;intro i B ht H;obtain⟨op,M,Uu⟩:=touch_of ht;subst H;have Uk:¬ShN p.Wg B.loc:=λy=>hb (dF (e.symm.trans (qn y)));rcases h.ti.plain i op B M Uu Uk with hk|h0
  .obtain⟨q0,P,f,h3,h4⟩:=n;refine Ra (λi g W mt=>?_) h.norel P f h3 ht ?_ hk
   .obtain⟨op,M,rfl⟩:=pw.1 W;have:=h.ti.gs i op M;have:=h4 (op.g-1) O;rwa[show op.g-1+1=op.g by omega]at this
   .cases hl:B.loc<;>rw[hl]at e<;>first|rfl|cases e
  .have:=knows_own M;rwa[h0]at this
end
end cy
namespace cy
def rU(p:cy)(AnchW:Goroutine->World->Prop)(d:Nat×((Nat->Tr)×Tr))(m:Machine)(t:Trace):Prop:=p.jP AnchW d m t\/p.Dh d m t
section
variable {p:cy}{AnchW:Goroutine->World->Prop}{gs gs':Array Goroutine}{w w':World}{sl:Option (Nat×Nat)}{t u:Trace}{j d0:Nat}{D:Nat->WX}{bD:Nat}{V:Nat->Option Value}{S:Nat->Nat->Prop}{ci:Nat->Nat}{T0 T:Tr}{a:Goroutine}{tag tag':dn}{h:bG}{q dd:Nat->Nat}
theorem Iu{Wg:Nat}:∀e∈#[ConcR.mk .disable],Bk Wg e:=by intro e d;simp at d;subst d;exact .inl X
theorem Iv{Wg:Nat}:∀e∈#[ConcR.mk .enable],Bk Wg e:=by intro e d;simp at d;subst d;exact .inr (.inl X)
theorem Iw{Wg:Nat}:∀e∈#[rd (stA Wg)],Bk Wg e:=by intro e d;simp at d;subst d;exact bk_cell _ _ X
theorem Ix{Wg:Nat}:∀e∈#[rd (stA Wg),wr (stA Wg)],Bk Wg e:=by intro e d;simp at d;rcases d with rfl|rfl<;>exact bk_cell _ _ X
theorem RC{Wg:Nat}:∀e∈semEvents (smA Wg),Bk Wg e:=by
 intro e d;simp[semEvents]at d;rcases d with rfl|rfl|rfl|rfl
 .exact .inl X
 .exact bk_cell _ _ X
 .exact bk_cell _ _ X
 .exact .inr (.inl X)
set_option maxHeartbeats 1600000 in
theorem aaE(k:p.Ok)(Ef:∀g w,AnchW g w->∃m,Goes p.P true p.RL p.D0 (p.AtW1 AnchW) m g w)
  (F:gs[0]?=some a) (pk:p.MS AnchW tag j T0 d0 a w) (h:p.Cm gs w t j d0 D bD V S ci) (H:p.gF w j tag D) (K:bD+p.left tag=p.J)
  {st sm:Int} (s:WgAt p.ty p.Wg w st sm) (d:ConcN.Mode j (kd D) tag.dV st sm) (B:tag=.fin->AcqAll p.Wg j t) (jr:a.status=.running):
  (∃o rK ops,runT p.P (crowd gs w sl) 0=(.ended o rK,ops)/\∀GD Gk,Conc.Good p.P p.Post (crowd gs GD Gk) o rK (t++ops))\/
  (∃y ops C,runT p.P (crowd gs w sl) 0=(.next y,ops)/\p.M3 C (p.ph (Vc j (kd D)) tag+eH j D,fF D,T0)/\p.rU AnchW C y (t++ops)):=by
  have L:(∃y ops C,runT p.P (crowd gs w sl) 0=(.next y,ops)/\p.M3 C (p.ph (Vc j (kd D)) tag+eH j D,fF D,T0)/\p.jP AnchW C y (t++ops))->
   (∃o rK ops,runT p.P (crowd gs w sl) 0=(.ended o rK,ops)/\∀GD Gk,Conc.Good p.P p.Post (crowd gs GD Gk) o rK (t++ops))\/
   (∃y ops C,runT p.P (crowd gs w sl) 0=(.next y,ops)/\p.M3 C (p.ph (Vc j (kd D)) tag+eH j D,fF D,T0)/\p.rU AnchW C y (t++ops)):=λ⟨y,ops,C,h1,h2,h3⟩=>.inr ⟨y,ops,C,h1,h2,.inl h3⟩
  have Te:=Vc_le j (kd D);have AO:=k.nn;have Ug:=k.n1
  cases pk with
  |skd hr x=>
   rcases Goes.cases x with f|⟨Q,rfl,l⟩
   .obtain⟨_,a',n,M,W⟩:=f w (.refl w);exact L (mo (tag':=.sp _ 4) k F h H K n (.refl _ w) s Iu (.sa1 hr W) (ConcN.Mode.reopen d bo bo X (by simp[dn.dV])) (by simp) Iff.rfl (by simp) X (.inl (by simp only[ph];omega)))
   .obtain⟨a',w',es,n,P,A⟩:=l w (.refl w);exact L (lE k F h H K s d B n P (.skd hr A) (Tr.jJ Q) (by simp))
  |@sa1 r _ _ _ hr x=>
   rcases Goes.cases x with f|⟨Q,rfl,l⟩
   .obtain⟨_,qI⟩:=f w (.refl w);obtain⟨ho,rfl,rfl,_⟩:=ConcN.Mode.open_inv d bo;obtain⟨a',n,M,W⟩:=qI (Vc (p.n-(r+1)) (kd D)) O (by simpa[dn.dV,pend]using s);refine L (mo (tag':=.sp r 3) k F h H K n (rv (a:=stA p.Wg)) (s.setSt _) Ix (.ske hr W) ?_ (by simp) Iff.rfl (by simp) X (.inl (by simp only[ph];omega)));have e:(((Vc (p.n-(r+1)) (kd D):Nat):Int)+1)*KK=((Vc (p.n-(r+1)) (kd D)+pend (dn.dV (.sp r 3)):Nat):Int)*KK:=by simp[dn.dV,pend]
    rw[e];exact .opn bo ho (by simp[dn.dV])
   .obtain⟨a',w',es,n,P,A⟩:=l w (.refl w);exact L (lE k F h H K s d B n P (.sa1 hr A) (Tr.jJ Q) (by simp))
  |ske hr x=>
   rcases Goes.cases x with f|⟨Q,rfl,l⟩
   .obtain⟨_,a',n,M,W⟩:=f w (.refl w);exact L (mo (tag':=.sp _ 2) k F h H K n (.refl _ w) s Iv (.sgo hr W) (ConcN.Mode.reopen d bo bo X (by simp[dn.dV])) (by simp) Iff.rfl (by simp) X (.inl (by simp only[ph];omega)))
   .obtain⟨a',w',es,n,P,A⟩:=l w (.refl w);exact L (lE k F h H K s d B n P (.ske hr A) (Tr.jJ Q) (by simp))
  |sgo hr x=>
   rcases Goes.cases x with f|⟨Q,rfl,l⟩
   .exact L (aax k hr F h H K s d (f w (.refl w)))
   .obtain⟨a',w',es,n,P,A⟩:=l w (.refl w);exact L (lE k F h H K s d B n P (.sgo hr A) (Tr.jJ Q) (by simp))
  |@snd i _ _ _ hi x=>
   rcases Goes.cases x with f|⟨Q,rfl,l⟩
   .have hs:=f w (.refl w)
    cases i with
    |zero=>exact L (RT k F h H K s d hs)
    |succ i=>exact L (dD k hi F h H K s d hs)
   .obtain⟨a',w',es,n,P,A⟩:=l w (.refl w);exact L (lE k F h H K s d B n P (.snd hi A) (Tr.jJ Q) (by simp))
  |fR _ _=>cases jr
  |kd x=>
   rcases Goes.cases x with f|⟨Q,rfl,l⟩
   .obtain⟨_,a',n,M,W⟩:=f w (.refl w);exact L (mo (tag':=.anch) k F h H K n (.refl _ w) s Iu (.anch W) (ConcN.Mode.reopen d bo bo X (by simp[dn.dV])) (by simp) Iff.rfl (by simp) X (.inl (by simp only[ph];omega)))
   .obtain⟨a',w',es,n,P,A⟩:=l w (.refl w);exact L (lE k F h H K s d B n P (.kd A) (Tr.jJ Q) (by simp))
  |anch x=>
   rcases Goes.cases x with f|⟨Q,rfl,l⟩
   .obtain⟨M,W⟩:=Ef a w (f w (.refl w));obtain⟨y,ops,C,h1,h2,h3⟩:=MT (sl:=sl) k F h (H.to (tag':=.w1) X Iff.rfl (by simp)) K s (ConcN.Mode.reopen d bo bo X (by simp[dn.dV])) W;exact L ⟨y,ops,C,h1,M3.MD (z:=(fF D,Tr.leaf)) h2 (by simp only[ph];omega),h3⟩
   .obtain⟨a',w',es,n,P,A⟩:=l w (.refl w);exact L (lE k F h H K s d B n P (.anch A) (Tr.jJ Q) (by simp))
  |w1 x=>exact L (MT k F h H K s d x)
  |@w2 vs _ _ _ x=>
   rcases Goes.cases x with f|⟨Q,rfl,l⟩
   .obtain⟨_,qI⟩:=f w (.refl w);obtain⟨ho,rfl,rfl,UV⟩:=ConcN.Mode.open_inv d bo;obtain⟨hle,h1⟩:=UV vs X;obtain⟨TQ,Ue⟩:=qI (Vc p.n (kd D)) O (by simpa[dn.dV,pend]using s);by_cases e:Vc p.n (kd D)=vs
    .obtain⟨a',n,M,W⟩:=TQ e;exact L (mo (tag':=.w3) k F h H K n (rv (a:=stA p.Wg)) (s.setSt _) Ix (.w3 W) (.reg bo ho O) (by simp) Iff.rfl (by simp) X (.inl (by simp only[ph];omega)))
    .obtain⟨a',n,M,W⟩:=Ue e;exact L (mo (tag':=.anch) k F h H K n (.refl _ w) s Iw (.anch W) (ConcN.Mode.reopen d bo bo X (by simp[dn.dV])) (by simp) Iff.rfl (by simp) X (.inl (by simp only[ph];omega)))
   .obtain⟨a',w',es,n,P,A⟩:=l w (.refl w);exact L (lE k F h H K s d B n P (.w2 A) (Tr.jJ Q) (by simp))
  |@w3 m _ _ x=>
   rcases Goes.cases x with f|⟨Q,rfl,l⟩
   .obtain⟨_,ac3,JG,UN⟩:=f w (.refl w)
    cases d with
    |opn h1 _ _=>exact h1.elim
    |reg h1 h2 h3=>exact L (KO k F h H K (JG ⟨_,s⟩) s (.blk (m:=m) f) (.reg bo h2 h3))
    |last L' h1 h2 h3 h4=>exact L (KO k F h H K (JG ⟨_,s⟩) s (.blk (m:=m) f) (.last L' bo h2 h3 h4))
    |sema h2=>obtain⟨a',n,M,W⟩:=UN s;exact L (mo (tag':=.w4) k F h H K n (rv (a:=smA p.Wg)) (s.setSm 0) RC (.w4 W) (.fin bo h2) (by simp) Iff.rfl (by simp) X (.inl (by simp only[ph];omega)))
    |fin h1 _=>exact h1.elim
   .obtain⟨a',w',es,n,P,A⟩:=l w (.refl w);exact L (lE k F h H K s d B n P (.w3 A) (Tr.jJ (Q+1)) (by simp))
  |blk x=>simp at jr
  |w4 x=>
   rcases Goes.cases x with f|⟨Q,rfl,l⟩
   .obtain⟨_,hx⟩:=f w (.refl w);obtain⟨hq,rfl,rfl⟩:=ConcN.Mode.fin_inv d bo;obtain⟨a',n,M,W⟩:=hx s;exact L (mo (tag':=.ke) k F h H K n (.refl _ w) s Iw (.ke W) (.fin bo hq) (by simp) Iff.rfl (by simp) X (.inl (by simp only[ph];omega)))
   .obtain⟨a',w',es,n,P,A⟩:=l w (.refl w);exact L (lE k F h H K s d B n P (.w4 A) (Tr.jJ Q) (by simp))
  |ke x=>
   rcases Goes.cases x with f|⟨Q,rfl,l⟩
   .obtain⟨_,a',n,M,W⟩:=f w (.refl w);obtain⟨hq,rfl,rfl⟩:=ConcN.Mode.fin_inv d bo;exact L (mo (tag':=.acq) k F h H K n (.refl _ w) s Iv (.acq W) (.fin bo hq) (by simp) Iff.rfl (by simp) X (.inl (by simp only[ph];omega)))
   .obtain⟨a',w',es,n,P,A⟩:=l w (.refl w);exact L (lE k F h H K s d B n P (.ke A) (Tr.jJ Q) (by simp))
  |acq x=>
   rcases Goes.cases x with f|⟨Q,rfl,l⟩
   .obtain⟨_,a',n,M,W⟩:=f w (.refl w);obtain⟨hq,rfl,rfl⟩:=ConcN.Mode.fin_inv d bo;refine L (Gm (tag':=.fin) k F h K n (RL.refl w) (λi _=>.refl _ _) X (λ_ _=>rfl) X (λop nq=>?_) (by intro e he;simp at he;subst he;simp[ConcR.mk]) (.fin W) s (.fin bo hq) (H.w8 X) (H.to X Iff.rfl (by simp)) X (λ_=>?_) (.inl (by simp only[ph];omega)))
    .rw[ofEvents_eq]at nq;obtain⟨e,he,rfl⟩:=pp.1 nq;simp only[uC,fB,qO,qS]at he;subst he;exact⟨X,λx hx=>by simp[ConcR.mk,MemAct.ofEvent,MemAct.touch?]at hx⟩
    .have e1:MemOp.ofEvents 0 a.frame.fn a.frame.place #[ConcR.mk (.acquire (stA p.Wg))]=#[{g:=0,fn:=a.frame.fn,pos:=a.frame.place,act:=.mark (.acquire (stA p.Wg))}]:=by rw[ofEvents_eq];simp[ofEvent_mk]
     have hy:(t++#[({g:=0,fn:=a.frame.fn,pos:=a.frame.place,act:=.mark (.acquire (stA p.Wg))}:MemOp)])[t.size]?=some {g:=0,fn:=a.frame.fn,pos:=a.frame.place,act:=.mark (.acquire (stA p.Wg))}:=by simp
     refine⟨t.size,by rw[e1,act?_of hy],by rw[e1];simp[Trace.g?],by rw[e1];exact⟨0,by simp[Trace.g?],by rw[deaf_old (dO _)];exact h.deaf0⟩,λi hi=>?_⟩;have UA:=hq i hi;simp only[cy.kd]at UA;obtain⟨r,hr⟩:=h.rel i hi O;exact⟨r,hr.appOther g_of_ofEvents O,lt_of_act? hr.act⟩
   .obtain⟨a',w',es,n,P,A⟩:=l w (.refl w);exact L (lE k F h H K s d B n P (.acq A) (Tr.jJ Q) (by simp))
  |fin x=>
   rcases Goes.cases x with f|⟨Q,rfl,l⟩
   .obtain⟨T,q,dd,hP,hs1⟩:=aa1 k F h (by simpa[left]using K) s d (B X) (f w (.refl w));rcases KX (sl:=sl) hP with hE|⟨y,ops,C,h1,h2,h3⟩
    .exact .inl hE
    .exact .inr ⟨y,ops,C,h1,M3.MD (z:=(fF D,Tr.leaf)) h2 (by simp only[ph];omega),.inr h3⟩
   .obtain⟨a',w',es,n,P,A⟩:=l w (.refl w);exact L (lE k F h H K s d B n P (.fin A) (Tr.jJ Q) (by simp))
 where
  KO {m:Nat} (k:p.Ok) (F:gs[0]?=some a) (h:p.Cm gs w t p.n 1 D bD V S ci) (H:p.gF w p.n .w3 D) (K:bD+p.left .w3=p.J) {st sm:Int} (n:stepG p.P true a w=.go {a with status:=.blocked} w #[]) (s:WgAt p.ty p.Wg w st sm)
   (EK:p.MS AnchW .blk p.n (.nat m) 1 {a with status:=.blocked} w) (d:ConcN.Mode p.n (kd D) dn.blk.dV st sm):
   ∃y ops C,runT p.P (crowd gs w sl) 0=(.next y,ops)/\p.M3 C (p.ph (Vc p.n (kd D)) .w3+eH p.n D,fF D,.nat (m+1))/\p.jP AnchW C y (t++ops):=by
   exact mo (tag':=.blk) k F h H K n (.refl _ w) s (by simp) EK d (by simp) Iff.rfl (by simp) X (.inr ⟨X,Tr.jJ m⟩)
end
end cy
end Go.Proofs.YtklkkoelldkncaaGreatDoor
namespace Go.Proofs.YtklkkoelldkncaaGreatDoor
open Go.Conc Go.ConcN
open Go.ConcR (KK wgBlock WgAt stA smA rd wr DC0 g_of_ofEvents)
namespace cy
section
variable {p:cy}{AnchW:Goroutine->World->Prop}{gs gs':Array Goroutine}{w w':World}{sl:Option (Nat×Nat)}{t u:Trace}{j d0:Nat}{D:Nat->WX}{bD:Nat}{V:Nat->Option Value}{S:Nat->Nat->Prop}{ci:Nat->Nat}{T0 T:Tr}{a:Goroutine}{tag tag':dn}{h:bG}{q dd:Nat->Nat}{st sm:Int}
theorem WS.runs{rem s d:Nat}{T:Tr}{h:bG}{c:Option Nat}{g:Goroutine}(x:p.WS rem s T d h c g w)(f:s≠1)(i:s≠8):g.status=.running:=by
 rcases x.status with⟨_,_,e⟩|⟨e,_⟩|⟨e,_⟩
 .exact e
 .exact absurd e f
 .exact absurd e i
theorem aaw(k:p.Ok)(o:∀g w,AnchW g w->g.status=.running)(B:gs[0]?=some a)(l:p.MS AnchW tag j T0 d0 a w)(h:p.Cm gs w t j d0 D bD V S ci)(s:p.gF w j tag D)(d:ConcN.Mode j (kd D) tag.dV st sm):
 ∃(i:Nat)(g:Goroutine),gs[i]?=some g/\g.status=.running:=by
 have F:=k.n1;have wk:∀i,i<j->(D i).stage≠1->(D i).stage≠8->∃(i:Nat)(g:Goroutine),gs[i]?=some g/\g.status=.running:=λi hi f m=>by obtain⟨g,C,H⟩:=h.wk i hi;exact⟨i+1,g,C,H.runs f m⟩
 rcases l.status o with⟨e,_⟩|⟨_,e⟩
 .exact⟨0,a,B,e⟩
 .cases l with
  |@fR i z g w _ _=>have:=(s.op bo).2 0 O;exact wk 0 O O (s.fR i X 0 O)
  |blk _=>
   have m:=(s.sh λx=>x).2
   cases d with
   |opn f _ _=>exact f.elim
   |reg _ _ n=>obtain⟨i,hi,A⟩:=exists_counted n;simp only[kd]at A;exact wk i hi O (m i hi)
   |last L' _ y n _=>simp only[kd]at n;exact wk L' y O (m L' y)
   |fin f _=>exact f.elim
  |_=>exact e.elim
theorem Ru(d:∀g w,AnchW g w->g.status=.running)(m:gs[0]?=some a)(k:p.MS AnchW tag j T0 d0 a w)(h:p.Cm gs w t j d0 D bD V S ci):∀g∈gs,awake g:=by
 intro g n t;obtain⟨i,hi⟩:=Array.getElem?_of_mem n
 cases i with
 |zero=>rw[m]at hi;cases hi;rcases k.status d with⟨e,_⟩|⟨e,_⟩<;>rw[e]<;>simp
 |succ i=>
  have f:i<j:=by have:=(gV.1 hi).1;rw[h.size]at this;omega
  obtain⟨x,l,o⟩:=h.wk i f;rw[hi]at l;cases l;rcases o.status with⟨_,_,e⟩|⟨_,e|e⟩|⟨_,e⟩<;>rw[e]<;>simp
theorem aaF(k:p.Ok)(lu:∀g w,AnchW g w->g.status=.running)(Ef:∀g w,AnchW g w->∃m,Goes p.P true p.RL p.D0 (p.AtW1 AnchW) m g w)(μ:Nat×((Nat->Tr)×Tr))(m:Machine)(t:Trace)(hI:p.rU AnchW μ m t):
 (∃o w ops,stepT p.P m=(.ended o w,ops)/\Conc.Good p.P p.Post m o w (t++ops))\/(∃m' ops l,stepT p.P m=(.next m',ops)/\p.M3 l μ/\p.rU AnchW l m' (t++ops)):=by
 rcases hI with⟨gs,w,sl,j,d0,tag,D,bD,V,S,ci,T0,a,st,sm,rfl,ha,L,h,iT,n,hc,hl,M,rfl⟩|⟨gs,w,sl,T,h,a,q,dd,rfl,x,rfl⟩
 .obtain⟨i,g,d,B,F,A,s⟩:=crowd_pick (P:=p.P) (w:=w) (sl:=sl) (Ru lu ha L h) (aaw k lu ha L h hc n);rw[s];have Q:=L.rely (RL.at w d);have h':=h.at k d;have JH:p.gF (w.at d) j tag D:=⟨hc.op,hc.sh,hc.fR⟩
  have W:WgAt p.ty p.Wg (w.at d) st sm:=iT;have pj:j<=p.n:=by have:=L.bound;omega
  cases i with
  |zero=>
   rw[ha]at F;cases F;rcases aaE (sl:=B) k Ef ha Q h' JH hl W n M A with⟨o,C,ops,H,K⟩|hx
   .exact .inl ⟨o,C,ops,H,K w sl⟩
   .exact .inr hx
  |succ i=>
   have hi:i<j:=by have:=(gV.1 F).1;rw[h.size]at this;omega
   obtain⟨f,ops,l,H,K,h3⟩:=stepWorker (sl:=B) k lu ha Q h' JH hl pj W n M hi F A;exact .inr ⟨f,ops,l,H,K,.inl h3⟩
 .have Tp:∀g∈gs,awake g:=λg F t=>by
   obtain⟨i,hi⟩:=Array.getElem?_of_mem F
   cases i with
   |zero=>rw[x.a0]at hi;cases hi;rw[x.status];simp
   |succ i=>
    have av:i<p.n:=by have:=(gV.1 hi).1;rw[x.size]at this;omega
    obtain⟨y,hy,hq,_⟩:=x.wk i av;rw[hi]at hy;cases hy;rcases hq.status with e|e<;>rw[e]<;>simp
  obtain⟨i,g,d,B,F,A,s⟩:=crowd_pick (P:=p.P) (w:=w) (sl:=sl) Tp ⟨0,a,x.a0,x.status⟩;rw[s];have x':=x.at d
  cases i with
  |zero=>
   rw[x.a0]at F;cases F;rcases KX (sl:=B) x' with⟨o,C,ops,H,K⟩|⟨f,ops,l,H,K,h3⟩
   .exact .inl ⟨o,C,ops,H,K w sl⟩
   .exact .inr ⟨f,ops,l,H,K,.inr h3⟩
  |succ i=>obtain⟨f,ops,l,H,K,h3⟩:=W3 (sl:=B) x' F A;exact .inr ⟨f,ops,l,H,K,.inr h3⟩
theorem runs(k:p.Ok)(e:∀g w,AnchW g w->g.status=.running)(d:∀g w,AnchW g w->∃m,Goes p.P true p.RL p.D0 (p.AtW1 AnchW) m g w){f:Nat×((Nat->Tr)×Tr)}{m:Machine}{t:Trace}(i:p.rU AnchW f m t):
 ∃N last o w t',runNT p.P (N+1) m t=(.ended o w,t')/\runN p.P N m=.next last/\step p.P last=.ended o w/\Conc.Good p.P p.Post last o w t':=
 run_of_inv (r:=p.M3) (M3.wf p) (p.rU AnchW) (Conc.Good p.P p.Post) (aaF k e d) f m t i
theorem start(k:p.Ok){y:Goroutine}(n:∀op∈t,op.g=0/\(∀x,op.act.touch? =some x->¬ShN p.Wg x.loc)/\op.act≠.mark .disable/\op.act≠.mark .enable/\op.act≠.mark (.release (stA p.Wg)))
 (B:p.kV AnchW p.n y p.fW) (Q:WgAt p.ty p.Wg p.fW 0 0) (F:∃s r tm,p.fW.heap[p.ch]?=some (.chan 0 #[] false s r tm)) (A:p.mY (λ_=>none) p.fW):∃μ,p.rU AnchW μ (solo y p.fW) t:=by
 have Ug:=k.n1;have W:∀i x,touchAt t i=some x->Knows t 0 i:=λi x d=>by obtain⟨op,C,_⟩:=touch_of d;have:=knows_own C;rwa[(n op (my C)).1]at this
 have P:TI (ShN p.Wg) (p.Al 0 (λ_=>⟨0,.leaf,0,p.eI,none,λ_=>False⟩) 0 (λ_=>0)) p.Re (p.Un p.fW.heap.size 0) t 0:=by
  refine⟨λi op x hi d hs=>absurd hs ((n op (my hi)).2.1 x d),λq hq l _ i x d _=>by rw[show q=0 by omega];exact W i x d,λq hq l _ i x d _ _=>?_,λq hq l _ i x d _=>?_,λsaid=>?_,λi op hi=>by rw[(n op (my hi)).1];exact dO _,λi op x hi _ _=>.inr (n op (my hi)).1⟩
  .obtain rfl:q=0:=by omega
   exact W i x d
  .obtain rfl:q=0:=by omega
   exact W i x d
  .have:=noRace_append (t:=#[]) (u:=t) (g:=0) (noRace_nil said) (λop f=>(n op f).1) (λi a ha=>by simp[touchAt,Trace.act?]at ha);simpa using this
 have K:Deaf t 0=0:=by
  have:=Deaf_still #[] 0 t λop f=>⟨(n op f).2.2.1,(n op f).2.2.2.1⟩
  simpa[Deaf,Trace.deaf]using this
 have M:NoRelease (stA p.Wg) t:=λi hi=>by obtain⟨op,C,d⟩:=pw.1 hi;exact(n op (my C)).2.2.2.2 d
 have H:p.Cm #[y] p.fW t 0 0 (λ_=>⟨0,.leaf,0,p.eI,none,λ_=>False⟩) 0 (λ_=>none) (λ_ _=>False) (λ_=>0):=by
  refine⟨X,?_,?_,?_,?_,?_,?_,?_,?_,?_,P,M,K,?_,?_,⟨X,X,X,dO _,λ_ _=>rfl⟩,A⟩
  .intro i hi;omega
  .intro i hi;omega
  .intro i i' b hi;omega
  .intro i hi;omega
  .intro i hi;omega
  .intro i hi;omega
  .intro m hm;omega
  .intro m v e;cases e
  .intro m m' b x;exact x.elim
  .intro i hi;omega
  .intro i hi;omega
 obtain⟨r,hr⟩:∃r,p.n=r+1:=⟨p.n-1,by omega⟩
 rw[hr]at B;obtain⟨m,hk⟩:=B;have e0:p.n-(r+1)=0:=by omega
 have L:p.MS AnchW (.sp r 5) 0 (.nat m) 0 y p.fW:=by have:=MS.skd (p:=p) (AnchW:=AnchW) (r:=r) O hk;rwa[e0]at this
 have o:ConcN.Mode 0 (kd λ_=>⟨0,.leaf,0,p.eI,none,λ_=>False⟩) (dn.sp r 5).dV 0 0:=by have:=ConcN.Mode.opn (j:=0) (D:=kd λ_=>⟨0,.leaf,0,p.eI,none,λ_=>False⟩) (tag:=(dn.sp r 5).dV) bo (λi hi=>by omega) (λvs e=>by simp[dn.dV]at e);simpa[Vc,sumTo,dn.dV,pend]using this
 exact⟨_,.inl ⟨#[y],p.fW,none,0,0,.sp r 5,_,0,_,_,_,.nat m,y,0,0,X,X,L,H,Q,o,⟨λ_=>⟨F,λi hi=>by omega⟩,λx=>absurd bo x,λi e=>(by cases e)⟩,by simp[left],(λe=>by cases e),X⟩⟩
end
end cy
end Go.Proofs.YtklkkoelldkncaaGreatDoor
set_option linter.unusedSimpArgs false
set_option linter.unusedVariables false
namespace Go.Proofs.YtklkkoelldkncaaGreatDoor
open Go.Conc Go.ConcN Go.RowKit Go.Conc.Lib Go.ConcR.Gen
open Go.ConcR (KK wgBlock WgAt stA smA rd wr DC0)
def zc(K:Value->Prop)(w:World):Result Next->Prop
 |.ok (.value v) w'=>w'=w/\K v
 |_=>False
@[simp] theorem aeC (K:Value->Prop) (w:World) (v:Value):zc K w (.ok (.value v) w)=K v:=by simp[zc]
namespace cy
section
variable {p:cy}{main:Bool}{D:World->World->Array Event->Prop}{S:Goroutine->World->Prop}{n:Nat}{g g':Goroutine}{b:Frame}{a:Act}{k:List Go.Item}{cs:List Frame}{ops:Array Oper}{i:Nat}{rest:List Nat}{o:Oper}
def GL(p:cy)(main:Bool)(D:World->World->Array Event->Prop)(S:Goroutine->World->Prop)(n:Nat)(g:Goroutine):Prop:=∀w,p.Live w->Goes p.P main p.RL D S n g w
theorem GL.pure(d:∀w,D w w #[])(f:g.status=.running)(e:∀w,stepG p.P main g w=.go g' w #[])(k:p.GL main D S n g'):p.GL main D S (n+1) g:=λw h=>.step f λw1 r=>by rw[e];exact⟨d _,k w1 (r.1 h)⟩
theorem GL.stop(h:∀w,p.Live w->S g w):p.GL main D S n g:=λw d=>Goes.stop λw1 r=>h w1 (r.1 d)
theorem GL.op(q:∀w,D w w #[])(s:ops[i]?=some o)(j:Region.wanted o (yielded ops a.tmps)=true)(m:b.kind≠.early)(l:∀w,p.Live w->(execOp a.eval o).events p.P w #[]=#[])
 (h:∀w,p.Live w->∀K:Value->Prop,(∀v,p.GL main D S n (G (b.at (a.put o.dst v) (.inRegion ops rest::k)) cs)->K v)->zc K w ((execOp a.eval o).run p.P w)):
 p.GL main D S (n+1) (G (b.at a (.inRegion ops (i::rest)::k)) cs):=λw f=>.step X λw1 r=>by
 have d:=h w1 (r.1 f) (λv=>p.GL main D S n (G (b.at (a.put o.dst v) (.inRegion ops rest::k)) cs)) λv x=>x;generalize t:(execOp a.eval o).run p.P w1=res at d
 cases res with
 |halt x w2=>exact d.elim
 |ok v w2=>
  cases v<;>first|exact d.elim|skip
  rename_i v;obtain⟨e,d⟩:=d;subst e;rw[stepG_value s j m t,listed_none (l _ (r.1 f))];exact⟨q _,d _ (r.1 f)⟩
theorem GL.jp(e:∀w,D w w #[]){c:Operand}{x y:Code}(d:a.eval c=.bool true)(h:p.GL main D S n (G (b.at a (.code x::k)) cs)):p.GL main D S (n+1) (G (b.at a (.code (.cond c x y)::k)) cs):=.pure e X (λ_=>stepG_cond d) h
theorem GL.gz(e:∀w,D w w #[]){c:Operand}{x y:Code}(d:a.eval c=.bool false)(h:p.GL main D S n (G (b.at a (.code y::k)) cs)):p.GL main D S (n+1) (G (b.at a (.code (.cond c x y)::k)) cs):=.pure e X (λ_=>stepG_cond d) h
theorem GL.via(f:∀w,D w w #[])(h:g.status=.running)(e:∀(w:World)(K:Goroutine->World->Array Event->Prop),K g' w #[]->(stepG p.P main g w).goes K)(k:p.GL main D S n g'):p.GL main D S (n+1) g:=.pure f h (λw=>by
 obtain⟨_,_,_,d,rfl,rfl,rfl⟩:=goes_elim (e w (λa w' es=>a=g'/\w'=w/\es=#[]) ⟨X,X,X⟩)
 exact d) k
theorem QD.val{P:Program}{d:Nat}(v:Value)(q:ops[i]?=some o)(j:Region.wanted o (yielded ops a.tmps)=true)(m:b.kind≠.early)(s:∀w,zc (λx=>x=v) w ((execOp a.eval o).run P w))(l:∀w,(execOp a.eval o).events P w #[]=#[])
 (h:QuitsD P n d (G (b.at (a.put o.dst v) (.inRegion ops rest::k)) cs)):QuitsD P (n+1) d (G (b.at a (.inRegion ops (i::rest)::k)) cs):=
 QuitsD.value v q j m (λw=>by
  have f:=s w;generalize(execOp a.eval o).run P w=res at f
  cases res with
  |halt x w2=>exact f.elim
  |ok u w2=>
   cases u<;>first|exact f.elim|skip
   obtain⟨e,e'⟩:=f;subst e e'
   rfl) l h
theorem QD.one{P:Program}:∀{n d:Nat}{g:Goroutine},QuitsD P n d g->QuitsD P (n+1) d g
 |0,_,_,h=>.inl h
 |_+1,_,_,h=>h.imp id λ⟨a,g',es,b,c,d⟩=>⟨a,g',es,b,c,QD.one d⟩
theorem QD.more{P:Program}{n d:Nat}{g:Goroutine}(h:QuitsD P n d g):∀{m:Nat},QuitsD P (n+m) d g
 |0=>h
 |_+1=>QD.one (QD.more h)
theorem uU{w:World}(h:p.Live w):∃v,w.cell? ⟨p.Wg,0,none⟩=some v:=let⟨_,_,x⟩:=h;⟨_,x.cellSt⟩
theorem Bp{w:World}(h:p.Live w):∃v,w.cell? ⟨p.Wg,1,none⟩=some v:=let⟨_,_,x⟩:=h;⟨_,x.cellSm⟩
theorem bC(w:World):DC0 w w #[]:=⟨X,X⟩
set_option maxRecDepth 100000 in
set_option maxHeartbeats 8000000 in
theorem addNeg{L:WgLink}(H:WgLib p.P L)(JV:p.ty=L.tWg){b₀:Frame}{a₀:Act}{ops₀:Array Oper}{i₀:Nat}{rest₀:List Nat}{k₀:List Go.Item}{cs:List Frame}{qt:Nat}{T:Array Value}(C:T=#[.pointer (some ⟨p.Wg,0,none⟩),.int .i64 (-1)]++Array.replicate 115 undef)(B:QuitsD p.P qt 0 (G (b₀.at (a₀.put ((ops₀[i₀]?).bind (·.dst)) (.tuple #[])) (.inRegion ops₀ rest₀::k₀)) cs)):
 p.GL false DC0 p.wD 200 (G ((base L.add).at ⟨T,[]⟩ [.code (body_add L)]) (b₀.at a₀ (.inRegion ops₀ (i₀::rest₀)::k₀)::cs)):=by
 subst C
 lib_facts
 simp only[body_add,addFn,f7]
 walk_nrm
 refine .pure bC X (λ_=>stepG_seq) ?_;refine .jp bC X ?_
 iterate 2 (refine .pure bC X (λ_=>stepG_seq) ?_)
 (refine .pure bC X (λ_=>stepG_region) ?_;simp only[cj,bN,bV,Nat.reduceAdd,cb,List.range,List.range.loop])
 iterate 2 (refine .op bC X X (by k_ne) (λ_ _=>by simp[*,go_sem]) (λw d K e=>?_);go_simp;refine e _ ?_;clear e K d w;walk_nrm;try w_num)
 refine .pure bC X (λ_=>stepG_region_end) ?_;refine .jp bC X ?_
 (refine .pure bC X (λ_=>stepG_region) ?_;simp only[cj,bN,bV,Nat.reduceAdd,cb,List.range,List.range.loop])
 (refine .op bC X X (by k_ne) (λ_ _=>by simp[*,go_sem]) (λw d K e=>?_);go_simp;refine e _ ?_;clear e K d w;walk_nrm;try w_num)
 refine .op bC X X (by k_ne) (λw d=>by(have F:=λes=>events_convert_to_unsafe (P:=p.P) H.underlying_tWgP H.underlying_tUP H.room_tWg (uU d).choose_spec es);simp[go_sem,F]) (λw d K e=>?_);have M:=run_convert_to_unsafe (P:=p.P) H.underlying_tWgP H.underlying_tUP H.room_tWg (uU d).choose_spec
 go_simp;refine e _ ?_;clear e K M d w;walk_nrm
 refine .stop (λw d=>⟨X,_,stepG_markAt .releaseMerge (by simp) X X (by k_ne) X H.f_relMerge (x_relMerge_n L) (x_relMerge_b L) (x_relMerge_x L) (x_relMerge_f L) (by simp[Act.eval,stA]),200,?_⟩);refine(?_:p.GL false DC0 p.DD 200 _) w d;clear d w;walk_nrm
 refine .pure bC X (λ_=>stepG_region_end) ?_;refine .pure bC X (λ_=>stepG_seq) ?_
 (refine .pure bC X (λ_=>stepG_region) ?_;simp only[cj,bN,bV,Nat.reduceAdd,cb,List.range,List.range.loop])
 refine .stop (λw d=>⟨X,_,stepG_mark0 .disable (by simp) X X (by k_ne) X H.f_disable (x_disable_n L) (x_disable_b L) (x_disable_x L) (x_disable_f L),200,?_⟩);refine(?_:p.GL false DC0 p.Dz 200 _) w d;clear d w;walk_nrm
 refine .pure bC X (λ_=>stepG_region_end) ?_
 (refine .pure bC X (λ_=>stepG_region) ?_;simp only[cj,bN,bV,Nat.reduceAdd,cb,List.range,List.range.loop])
 (refine .pure bC X (λ_=>stepG_defer X X (by k_ne) X) ?_;walk_nrm)
 refine .pure bC X (λ_=>stepG_region_end) ?_;refine .pure bC X (λ_=>stepG_seq) ?_
 (refine .pure bC X (λ_=>stepG_region) ?_;simp only[cj,bN,bV,Nat.reduceAdd,cb,List.range,List.range.loop])
 (refine .op bC X X (by k_ne) (λ_ _=>by simp[*,go_sem]) (λw d K e=>?_);go_simp;refine e _ ?_;clear e K d w;walk_nrm;try w_num)
 refine .pure bC X (λ_=>stepG_region_end) ?_
 iterate 2 (refine .pure bC X (λ_=>stepG_seq) ?_)
 (refine .pure bC X (λ_=>stepG_region) ?_;simp only[cj,bN,bV,Nat.reduceAdd,cb,List.range,List.range.loop])
 (refine .pure bC X (λ_=>stepG_entry_pure (.bool false) X X (by k_ne) X H.f_inBubble (x_inBubble_n L) (x_inBubble_b L) (x_inBubble_x L) (x_inBubble_f L)) ?_;walk_nrm)
 refine .pure bC X (λ_=>stepG_region_end) ?_;refine .gz bC X ?_;refine .pure bC X (λ_=>stepG_skip) ?_;refine .pure bC X (λ_=>stepG_seq) ?_
 (refine .pure bC X (λ_=>stepG_region) ?_;simp only[cj,bN,bV,Nat.reduceAdd,cb,List.range,List.range.loop])
 iterate 6 (refine .op bC X X (by k_ne) (λ_ _=>by simp[*,go_sem]) (λw d K e=>?_);go_simp;refine e _ ?_;clear e K d w;walk_nrm;try w_num)
 (refine .via bC X (λ_ _ h=>goes_call X X (by k_ne) X H.f_uAdd (nm_uAdd L) X h) ?_;walk_nrmf uAddFn)
 refine .pure bC X (λ_=>stepG_seq) ?_
 (refine .pure bC X (λ_=>stepG_region) ?_;simp only[cj,bN,bV,Nat.reduceAdd,cb,List.range,List.range.loop])
 (refine .op bC X X (by k_ne) (λ_ _=>by simp[*,go_sem]) (λw d K e=>?_);go_simp;refine e _ ?_;clear e K d w;walk_nrm;try w_num)
 refine .pure bC X (λ_=>stepG_region_end) ?_;refine .pure bC X (λ_=>stepG_seq) ?_
 (refine .pure bC X (λ_=>stepG_region) ?_;simp only[cj,bN,bV,Nat.reduceAdd,cb,List.range,List.range.loop])
 iterate 4 (refine .op bC X X (by k_ne) (λ_ _=>by simp[*,go_sem]) (λw d K e=>?_);go_simp;refine e _ ?_;clear e K d w;walk_nrm;try w_num)
 refine .stop (λf m=>⟨X,λv Q hwt hv d=>?_⟩);clear m;have e0:IntKind.u64.wrap (KK+18446744069414584320)=0:=by decide
 have e1:IntKind.u64.wrap (KK+1+18446744069414584320)=1:=by decide
 rcases pr v with rfl|UT<;>(obtain rfl|rfl:Q=0\/Q=1:=by omega)
 .replace d:WgAt p.ty p.Wg f KK 0:=by simpa using d
  have z:((0:Nat):Int)*KK+((0:Nat):Int)=0:=by simp
  rw[z];refine⟨_,(stepG_add_atomic X X (by k_ne) X H.f_addU64 (x_addU64_n L) (x_addU64_b L) (x_addU64_x L) .u64 (x_addU64_f L) X X d.cellSt (d.thaw 0)).trans (by rw[e0];rfl),λl=>absurd l.2 ab,λ_=>⟨qt+200,?_⟩⟩;clear d
  walk_nrm
  (refine QD.val ?_ X X (by k_ne) ?_ ?_ ?_;rotate_left;(next=>(intro w;go_simp;(try w_num);exact X));(next=>(intro w;simp[*,go_sem]));walk_nrm)
  refine QuitsD.ctl X (λ_=>stepG_region_end) ?_;refine QuitsD.ctl X (λ_=>stepG_ret') ?_
  q_leave1 H.f_uAdd
  (refine QD.val ?_ X X (by k_ne) ?_ ?_ ?_;rotate_left;(next=>(intro w;go_simp;(try w_num);exact X));(next=>(intro w;simp[*,go_sem]));walk_nrm)
  refine QuitsD.ctl X (λ_=>stepG_region_end) ?_
  iterate 2 (refine QuitsD.ctl X (λ_=>stepG_seq) ?_)
  q_reg
  iterate 4 (refine QD.val ?_ X X (by k_ne) ?_ ?_ ?_;rotate_left;(next=>(intro w;go_simp;(try w_num);exact X));(next=>(intro w;simp[*,go_sem]));walk_nrm)
  iterate 2 (q_skip)
  (refine QD.val ?_ X X (by k_ne) ?_ ?_ ?_;rotate_left;(next=>(intro w;go_simp;(try w_num);exact X));(next=>(intro w;simp[*,go_sem]));walk_nrm)
  refine QuitsD.ctl X (λ_=>stepG_region_end) ?_
  q_cond false
  refine QuitsD.ctl X (λ_=>stepG_skip) ?_;refine QuitsD.ctl X (λ_=>stepG_seq) ?_
  q_reg
  iterate 4 (refine QD.val ?_ X X (by k_ne) ?_ ?_ ?_;rotate_left;(next=>(intro w;go_simp;(try w_num);exact X));(next=>(intro w;simp[*,go_sem]));walk_nrm)
  refine QuitsD.ctl X (λ_=>stepG_region_end) ?_;refine QuitsD.ctl X (λ_=>stepG_seq) ?_
  q_reg
  iterate 4 (refine QD.val ?_ X X (by k_ne) ?_ ?_ ?_;rotate_left;(next=>(intro w;go_simp;(try w_num);exact X));(next=>(intro w;simp[*,go_sem]));walk_nrm)
  refine QuitsD.ctl X (λ_=>stepG_region_end) ?_
  iterate 2 (refine QuitsD.ctl X (λ_=>stepG_seq) ?_)
  q_reg
  iterate 5 (refine QD.val ?_ X X (by k_ne) ?_ ?_ ?_;rotate_left;(next=>(intro w;go_simp;(try w_num);exact X));(next=>(intro w;simp[*,go_sem]));walk_nrm)
  iterate 4 (q_skip)
  (refine QD.val ?_ X X (by k_ne) ?_ ?_ ?_;rotate_left;(next=>(intro w;go_simp;(try w_num);exact X));(next=>(intro w;simp[*,go_sem]));walk_nrm)
  refine QuitsD.ctl X (λ_=>stepG_region_end) ?_
  q_cond false
  refine QuitsD.ctl X (λ_=>stepG_skip) ?_
  iterate 2 (refine QuitsD.ctl X (λ_=>stepG_seq) ?_)
  q_reg
  iterate 2 (refine QD.val ?_ X X (by k_ne) ?_ ?_ ?_;rotate_left;(next=>(intro w;go_simp;(try w_num);exact X));(next=>(intro w;simp[*,go_sem]));walk_nrm)
  refine QuitsD.ctl X (λ_=>stepG_region_end) ?_
  q_cond false
  refine QuitsD.ctl X (λ_=>stepG_skip) ?_
  iterate 2 (refine QuitsD.ctl X (λ_=>stepG_seq) ?_)
  q_reg
  iterate 3 (refine QD.val ?_ X X (by k_ne) ?_ ?_ ?_;rotate_left;(next=>(intro w;go_simp;(try w_num);exact X));(next=>(intro w;simp[*,go_sem]));walk_nrm)
  iterate 2 (q_skip)
  iterate 2 (refine QD.val ?_ X X (by k_ne) ?_ ?_ ?_;rotate_left;(next=>(intro w;go_simp;(try w_num);exact X));(next=>(intro w;simp[*,go_sem]));walk_nrm)
  iterate 4 (q_skip)
  (refine QD.val ?_ X X (by k_ne) ?_ ?_ ?_;rotate_left;(next=>(intro w;go_simp;(try w_num);exact X));(next=>(intro w;simp[*,go_sem]));walk_nrm)
  refine QuitsD.ctl X (λ_=>stepG_region_end) ?_
  q_cond false
  refine QuitsD.ctl X (λ_=>stepG_skip) ?_
  iterate 2 (refine QuitsD.ctl X (λ_=>stepG_seq) ?_)
  q_reg
  iterate 6 (refine QD.val ?_ X X (by k_ne) ?_ ?_ ?_;rotate_left;(next=>(intro w;go_simp;(try w_num);exact X));(next=>(intro w;simp[*,go_sem]));walk_nrm)
  refine QuitsD.ctl X (λ_=>stepG_region_end) ?_
  q_cond true
  refine QuitsD.ctl X (λ_=>stepG_ret') ?_
  q_enable
  q_leave0 H.f_add
  exact QD.more B
 .replace d:WgAt p.ty p.Wg f (KK+1) 0:=by simpa using d
  have z:((0:Nat):Int)*KK+((1:Nat):Int)=1:=by simp
  rw[z];refine⟨_,(stepG_add_atomic X X (by k_ne) X H.f_addU64 (x_addU64_n L) (x_addU64_b L) (x_addU64_x L) .u64 (x_addU64_f L) X X d.cellSt (d.thaw 0)).trans (by rw[e1];rfl),λ_=>⟨200,?_⟩,λl=>absurd ⟨X,X⟩ l⟩;refine(?_:p.GL false DC0 p.DA 200 _) _ ⟨_,_,d.setSt 1⟩;clear d f;walk_nrm
  (refine .op bC X X (by k_ne) (λ_ _=>by simp[*,go_sem]) (λw d K e=>?_);go_simp;refine e _ ?_;clear e K d w;walk_nrm;try w_num)
  refine .pure bC X (λ_=>stepG_region_end) ?_;refine .pure bC X (λ_=>stepG_ret') ?_
  (refine .via bC X (λ_ _ h=>goes_leave1 X X H.f_uAdd X h) ?_;walk_nrm)
  (refine .op bC X X (by k_ne) (λ_ _=>by simp[*,go_sem]) (λw d K e=>?_);go_simp;refine e _ ?_;clear e K d w;walk_nrm;try w_num)
  refine .pure bC X (λ_=>stepG_region_end) ?_
  iterate 2 (refine .pure bC X (λ_=>stepG_seq) ?_)
  (refine .pure bC X (λ_=>stepG_region) ?_;simp only[cj,bN,bV,Nat.reduceAdd,cb,List.range,List.range.loop])
  iterate 4 (refine .op bC X X (by k_ne) (λ_ _=>by simp[*,go_sem]) (λw d K e=>?_);go_simp;refine e _ ?_;clear e K d w;walk_nrm;try w_num)
  iterate 2 (refine .pure bC X (λ_=>stepG_unwanted X X) ?_;walk_nrm)
  (refine .op bC X X (by k_ne) (λ_ _=>by simp[*,go_sem]) (λw d K e=>?_);go_simp;refine e _ ?_;clear e K d w;walk_nrm;try w_num)
  refine .pure bC X (λ_=>stepG_region_end) ?_;refine .gz bC X ?_;refine .pure bC X (λ_=>stepG_skip) ?_;refine .pure bC X (λ_=>stepG_seq) ?_
  (refine .pure bC X (λ_=>stepG_region) ?_;simp only[cj,bN,bV,Nat.reduceAdd,cb,List.range,List.range.loop])
  iterate 4 (refine .op bC X X (by k_ne) (λ_ _=>by simp[*,go_sem]) (λw d K e=>?_);go_simp;refine e _ ?_;clear e K d w;walk_nrm;try w_num)
  refine .pure bC X (λ_=>stepG_region_end) ?_;refine .pure bC X (λ_=>stepG_seq) ?_
  (refine .pure bC X (λ_=>stepG_region) ?_;simp only[cj,bN,bV,Nat.reduceAdd,cb,List.range,List.range.loop])
  iterate 4 (refine .op bC X X (by k_ne) (λ_ _=>by simp[*,go_sem]) (λw d K e=>?_);go_simp;refine e _ ?_;clear e K d w;walk_nrm;try w_num)
  refine .pure bC X (λ_=>stepG_region_end) ?_
  iterate 2 (refine .pure bC X (λ_=>stepG_seq) ?_)
  (refine .pure bC X (λ_=>stepG_region) ?_;simp only[cj,bN,bV,Nat.reduceAdd,cb,List.range,List.range.loop])
  iterate 5 (refine .op bC X X (by k_ne) (λ_ _=>by simp[*,go_sem]) (λw d K e=>?_);go_simp;refine e _ ?_;clear e K d w;walk_nrm;try w_num)
  iterate 4 (refine .pure bC X (λ_=>stepG_unwanted X X) ?_;walk_nrm)
  (refine .op bC X X (by k_ne) (λ_ _=>by simp[*,go_sem]) (λw d K e=>?_);go_simp;refine e _ ?_;clear e K d w;walk_nrm;try w_num)
  refine .pure bC X (λ_=>stepG_region_end) ?_;refine .gz bC X ?_;refine .pure bC X (λ_=>stepG_skip) ?_
  iterate 2 (refine .pure bC X (λ_=>stepG_seq) ?_)
  (refine .pure bC X (λ_=>stepG_region) ?_;simp only[cj,bN,bV,Nat.reduceAdd,cb,List.range,List.range.loop])
  iterate 2 (refine .op bC X X (by k_ne) (λ_ _=>by simp[*,go_sem]) (λw d K e=>?_);go_simp;refine e _ ?_;clear e K d w;walk_nrm;try w_num)
  refine .pure bC X (λ_=>stepG_region_end) ?_;refine .gz bC X ?_;refine .pure bC X (λ_=>stepG_skip) ?_
  iterate 2 (refine .pure bC X (λ_=>stepG_seq) ?_)
  (refine .pure bC X (λ_=>stepG_region) ?_;simp only[cj,bN,bV,Nat.reduceAdd,cb,List.range,List.range.loop])
  iterate 7 (refine .op bC X X (by k_ne) (λ_ _=>by simp[*,go_sem]) (λw d K e=>?_);go_simp;refine e _ ?_;clear e K d w;walk_nrm;try w_num)
  iterate 4 (refine .pure bC X (λ_=>stepG_unwanted X X) ?_;walk_nrm)
  (refine .op bC X X (by k_ne) (λ_ _=>by simp[*,go_sem]) (λw d K e=>?_);go_simp;refine e _ ?_;clear e K d w;walk_nrm;try w_num)
  refine .pure bC X (λ_=>stepG_region_end) ?_;refine .gz bC X ?_;refine .pure bC X (λ_=>stepG_skip) ?_
  iterate 2 (refine .pure bC X (λ_=>stepG_seq) ?_)
  (refine .pure bC X (λ_=>stepG_region) ?_;simp only[cj,bN,bV,Nat.reduceAdd,cb,List.range,List.range.loop])
  iterate 6 (refine .op bC X X (by k_ne) (λ_ _=>by simp[*,go_sem]) (λw d K e=>?_);go_simp;refine e _ ?_;clear e K d w;walk_nrm;try w_num)
  refine .pure bC X (λ_=>stepG_region_end) ?_;refine .gz bC X ?_;refine .pure bC X (λ_=>stepG_skip) ?_
  iterate 2 (refine .pure bC X (λ_=>stepG_seq) ?_)
  (refine .pure bC X (λ_=>stepG_region) ?_;simp only[cj,bN,bV,Nat.reduceAdd,cb,List.range,List.range.loop])
  iterate 3 (refine .op bC X X (by k_ne) (λ_ _=>by simp[*,go_sem]) (λw d K e=>?_);go_simp;refine e _ ?_;clear e K d w;walk_nrm;try w_num)
  (refine .via bC X (λ_ _ h=>goes_call X X (by k_ne) X H.f_uLoad (nm_uLoad L) X h) ?_;walk_nrmf uLoadFn)
  refine .pure bC X (λ_=>stepG_seq) ?_
  (refine .pure bC X (λ_=>stepG_region) ?_;simp only[cj,bN,bV,Nat.reduceAdd,cb,List.range,List.range.loop])
  (refine .op bC X X (by k_ne) (λ_ _=>by simp[*,go_sem]) (λw d K e=>?_);go_simp;refine e _ ?_;clear e K d w;walk_nrm;try w_num)
  refine .pure bC X (λ_=>stepG_region_end) ?_;refine .pure bC X (λ_=>stepG_seq) ?_
  (refine .pure bC X (λ_=>stepG_region) ?_;simp only[cj,bN,bV,Nat.reduceAdd,cb,List.range,List.range.loop])
  iterate 3 (refine .op bC X X (by k_ne) (λ_ _=>by simp[*,go_sem]) (λw d K e=>?_);go_simp;refine e _ ?_;clear e K d w;walk_nrm;try w_num)
  refine .stop (λy q=>⟨X,λd=>⟨_,stepG_load_atomic X X (by k_ne) X H.f_loadU64 (x_loadU64_n L) (x_loadU64_b L) (x_loadU64_x L) .u64 (x_loadU64_f L) X d.cellSt,200,?_⟩⟩);clear q;refine(?_:p.GL false DC0 p.DB 200 _) _ ⟨_,_,d⟩;clear d y;walk_nrm
  (refine .op bC X X (by k_ne) (λ_ _=>by simp[*,go_sem]) (λw d K e=>?_);go_simp;refine e _ ?_;clear e K d w;walk_nrm;try w_num)
  refine .pure bC X (λ_=>stepG_region_end) ?_;refine .pure bC X (λ_=>stepG_ret') ?_
  (refine .via bC X (λ_ _ h=>goes_leave1 X X H.f_uLoad X h) ?_;walk_nrm)
  iterate 2 (refine .op bC X X (by k_ne) (λ_ _=>by simp[*,go_sem]) (λw d K e=>?_);go_simp;refine e _ ?_;clear e K d w;walk_nrm;try w_num)
  refine .pure bC X (λ_=>stepG_region_end) ?_;refine .gz bC X ?_;refine .pure bC X (λ_=>stepG_skip) ?_;refine .pure bC X (λ_=>stepG_seq) ?_
  (refine .pure bC X (λ_=>stepG_region) ?_;simp only[cj,bN,bV,Nat.reduceAdd,cb,List.range,List.range.loop])
  iterate 3 (refine .op bC X X (by k_ne) (λ_ _=>by simp[*,go_sem]) (λw d K e=>?_);go_simp;refine e _ ?_;clear e K d w;walk_nrm;try w_num)
  (refine .via bC X (λ_ _ h=>goes_call X X (by k_ne) X H.f_uStore (nm_uStore L) X h) ?_;walk_nrmf uStoreFn)
  (refine .pure bC X (λ_=>stepG_region) ?_;simp only[cj,bN,bV,Nat.reduceAdd,cb,List.range,List.range.loop])
  iterate 4 (refine .op bC X X (by k_ne) (λ_ _=>by simp[*,go_sem]) (λw d K e=>?_);go_simp;refine e _ ?_;clear e K d w;walk_nrm;try w_num)
  refine .stop (λA s=>⟨X,λd=>⟨_,stepG_store_atomic X X (by k_ne) X H.f_storeU64 (x_storeU64_n L) (x_storeU64_b L) (x_storeU64_x L) (x_storeU64_f L) X X d.cellSt (d.thaw 0),200,?_⟩⟩);clear s;refine(?_:p.GL false DC0 p.DC 200 _) _ ⟨_,_,d.setSt 0⟩;clear d A;walk_nrm
  refine .pure bC X (λ_=>stepG_region_end) ?_;refine .pure bC X (λ_=>stepG_end) ?_
  (refine .via bC X (λ_ _ h=>goes_leave0 X X H.f_uStore X h) ?_;walk_nrm)
  refine .pure bC X (λ_=>stepG_region_end) ?_
  iterate 2 (refine .pure bC X (λ_=>stepG_seq) ?_)
  (refine .pure bC X (λ_=>stepG_region) ?_;simp only[cj,bN,bV,Nat.reduceAdd,cb,List.range,List.range.loop])
  (refine .op bC X X (by k_ne) (λ_ _=>by simp[*,go_sem]) (λw d K e=>?_);go_simp;refine e _ ?_;clear e K d w;walk_nrm;try w_num)
  refine .pure bC X (λ_=>stepG_region_end) ?_;refine .gz bC X ?_;refine .pure bC X (λ_=>stepG_skip) ?_;refine .pure bC X (λ_=>stepG_block) ?_;refine .pure bC X (λ_=>stepG_loop) ?_
  iterate 2 (refine .pure bC X (λ_=>stepG_seq) ?_)
  (refine .pure bC X (λ_=>stepG_region) ?_;simp only[cj,bN,bV,Nat.reduceAdd,cb,List.range,List.range.loop])
  iterate 2 (refine .op bC X X (by k_ne) (λ_ _=>by simp[*,go_sem]) (λw d K e=>?_);go_simp;refine e _ ?_;clear e K d w;walk_nrm;try w_num)
  refine .pure bC X (λ_=>stepG_region_end) ?_;refine .jp bC X ?_;refine .pure bC X (λ_=>stepG_skip) ?_;refine .pure bC X (λ_=>stepG_seq) ?_;refine .pure bC X (λ_=>stepG_block) ?_
  (refine .pure bC X (λ_=>stepG_region) ?_;simp only[cj,bN,bV,Nat.reduceAdd,cb,List.range,List.range.loop])
  iterate 3 (refine .op bC X X (by k_ne) (λ_ _=>by simp[*,go_sem]) (λw d K e=>?_);go_simp;refine e _ ?_;clear e K d w;walk_nrm;try w_num)
  refine .stop (λV t=>⟨X,mayWake_entry X X H.f_semrelease (x_semrelease_b L),λd=>⟨_,(stepG_semrelease X X (by k_ne) X H.f_semrelease (x_semrelease_n L) (x_semrelease_b L) (x_semrelease_x L) (x_semrelease_f L) (by simp[Act.eval,smA]) d.cellSm (d.thaw 1)).trans (by rfl),qt+200,?_⟩⟩);clear t d
  walk_nrm
  refine QuitsD.ctl X (λ_=>stepG_region_end) ?_;refine QuitsD.ctl X (λ_=>stepG_inBlock) ?_
  q_reg
  iterate 3 (refine QD.val ?_ X X (by k_ne) ?_ ?_ ?_;rotate_left;(next=>(intro w;go_simp;(try w_num);exact X));(next=>(intro w;simp[*,go_sem]));walk_nrm)
  refine QuitsD.ctl X (λ_=>stepG_region_end) ?_;refine QuitsD.ctl X (λ_=>stepG_inLoop) ?_
  iterate 2 (refine QuitsD.ctl X (λ_=>stepG_seq) ?_)
  q_reg
  iterate 2 (refine QD.val ?_ X X (by k_ne) ?_ ?_ ?_;rotate_left;(next=>(intro w;go_simp;(try w_num);exact X));(next=>(intro w;simp[*,go_sem]));walk_nrm)
  refine QuitsD.ctl X (λ_=>stepG_region_end) ?_
  q_cond false
  refine QuitsD.ctl X (λ_=>stepG_exit X) ?_;refine QuitsD.ctl X (λ_=>stepG_end) ?_
  q_enable
  q_leave0 H.f_add
  exact QD.more B
 .replace d:WgAt p.ty p.Wg f (((v:Nat)+1)*KK+0) 0:=by simpa using d
  have z:((v:Nat):Int)*KK+((0:Nat):Int)=(v:Int)*KK+0:=by simp
  rw[z];have x:IntKind.u64.wrap (((v:Nat)+1)*KK+0+18446744069414584320)=(v:Int)*KK+0:=by rw[IntKind.wrap_u64];simp only[KK];omega
  obtain⟨S,j⟩:∃S:Int,S=(v:Int)*KK+0:=⟨_,X⟩
  rw[<-j]at x ⊢;have W:S/4294967296=(v:Int):=by rw[j];simp only[KK];omega
  have b1:bits .and .u64 S 2147483648=0:=by rw[j];have:=st_flag v 0 O O;simpa[KK]using this
  have b2:bits .and .u64 S 2147483647=0:=by rw[j];have:=st_waiters v 0 O O;simpa[KK]using this
  have c1:IntKind.i32.wrap (v:Int)=(v:Int):=by rw[IntKind.wrap_i32];omega
  have q3:decide ((v:Int)<0)=false:=cX O;have q4:decide (0<(v:Int))=true:=dl O;have q5:((v:Int)==0)=false:=by simp;omega
  have q6:decide ((v:Int)=0)=false:=cX O;have q7:((v:Int)==-1)=false:=by simp<;>omega
  clear j z;refine⟨_,(stepG_add_atomic X X (by k_ne) X H.f_addU64 (x_addU64_n L) (x_addU64_b L) (x_addU64_x L) .u64 (x_addU64_f L) X X d.cellSt (d.thaw 0)).trans (by rw[x];rfl),λl=>absurd l.1 O,λ_=>⟨qt+200,?_⟩⟩;clear d
  walk_nrm
  (refine QD.val ?_ X X (by k_ne) ?_ ?_ ?_;rotate_left;(next=>(intro w;go_simp;(try w_num);exact X));(next=>(intro w;simp[*,go_sem]));walk_nrm)
  refine QuitsD.ctl X (λ_=>stepG_region_end) ?_;refine QuitsD.ctl X (λ_=>stepG_ret') ?_
  q_leave1 H.f_uAdd
  (refine QD.val ?_ X X (by k_ne) ?_ ?_ ?_;rotate_left;(next=>(intro w;go_simp;(try w_num);exact X));(next=>(intro w;simp[*,go_sem]));walk_nrm)
  refine QuitsD.ctl X (λ_=>stepG_region_end) ?_
  iterate 2 (refine QuitsD.ctl X (λ_=>stepG_seq) ?_)
  q_reg
  iterate 4 (refine QD.val ?_ X X (by k_ne) ?_ ?_ ?_;rotate_left;(next=>(intro w;go_simp;(try w_num);exact X));(next=>(intro w;simp[*,go_sem]));walk_nrm)
  iterate 2 (q_skip)
  (refine QD.val ?_ X X (by k_ne) ?_ ?_ ?_;rotate_left;(next=>(intro w;go_simp;(try w_num);exact X));(next=>(intro w;simp[*,go_sem]));walk_nrm)
  refine QuitsD.ctl X (λ_=>stepG_region_end) ?_
  q_cond false
  refine QuitsD.ctl X (λ_=>stepG_skip) ?_;refine QuitsD.ctl X (λ_=>stepG_seq) ?_
  q_reg
  iterate 4 (refine QD.val ?_ X X (by k_ne) ?_ ?_ ?_;rotate_left;(next=>(intro w;go_simp;(try w_num);exact X));(next=>(intro w;simp[*,go_sem]));walk_nrm)
  refine QuitsD.ctl X (λ_=>stepG_region_end) ?_;refine QuitsD.ctl X (λ_=>stepG_seq) ?_
  q_reg
  iterate 4 (refine QD.val ?_ X X (by k_ne) ?_ ?_ ?_;rotate_left;(next=>(intro w;go_simp;(try w_num);exact X));(next=>(intro w;simp[*,go_sem]));walk_nrm)
  refine QuitsD.ctl X (λ_=>stepG_region_end) ?_
  iterate 2 (refine QuitsD.ctl X (λ_=>stepG_seq) ?_)
  q_reg
  iterate 5 (refine QD.val ?_ X X (by k_ne) ?_ ?_ ?_;rotate_left;(next=>(intro w;go_simp;(try w_num);exact X));(next=>(intro w;simp[*,go_sem]));walk_nrm)
  iterate 4 (q_skip)
  (refine QD.val ?_ X X (by k_ne) ?_ ?_ ?_;rotate_left;(next=>(intro w;go_simp;(try w_num);exact X));(next=>(intro w;simp[*,go_sem]));walk_nrm)
  refine QuitsD.ctl X (λ_=>stepG_region_end) ?_
  q_cond false
  refine QuitsD.ctl X (λ_=>stepG_skip) ?_
  iterate 2 (refine QuitsD.ctl X (λ_=>stepG_seq) ?_)
  q_reg
  iterate 2 (refine QD.val ?_ X X (by k_ne) ?_ ?_ ?_;rotate_left;(next=>(intro w;go_simp;(try w_num);exact X));(next=>(intro w;simp[*,go_sem]));walk_nrm)
  refine QuitsD.ctl X (λ_=>stepG_region_end) ?_
  q_cond false
  refine QuitsD.ctl X (λ_=>stepG_skip) ?_
  iterate 2 (refine QuitsD.ctl X (λ_=>stepG_seq) ?_)
  q_reg
  iterate 3 (refine QD.val ?_ X X (by k_ne) ?_ ?_ ?_;rotate_left;(next=>(intro w;go_simp;(try w_num);exact X));(next=>(intro w;simp[*,go_sem]));walk_nrm)
  iterate 2 (q_skip)
  iterate 2 (refine QD.val ?_ X X (by k_ne) ?_ ?_ ?_;rotate_left;(next=>(intro w;go_simp;(try w_num);exact X));(next=>(intro w;simp[*,go_sem]));walk_nrm)
  iterate 4 (q_skip)
  (refine QD.val ?_ X X (by k_ne) ?_ ?_ ?_;rotate_left;(next=>(intro w;go_simp;(try w_num);exact X));(next=>(intro w;simp[*,go_sem]));walk_nrm)
  refine QuitsD.ctl X (λ_=>stepG_region_end) ?_
  q_cond false
  refine QuitsD.ctl X (λ_=>stepG_skip) ?_
  iterate 2 (refine QuitsD.ctl X (λ_=>stepG_seq) ?_)
  q_reg
  iterate 3 (refine QD.val ?_ X X (by k_ne) ?_ ?_ ?_;rotate_left;(next=>(intro w;go_simp;(try w_num);exact X));(next=>(intro w;simp[*,go_sem]));walk_nrm)
  iterate 2 (q_skip)
  (refine QD.val ?_ X X (by k_ne) ?_ ?_ ?_;rotate_left;(next=>(intro w;go_simp;(try w_num);exact X));(next=>(intro w;simp[*,go_sem]));walk_nrm)
  refine QuitsD.ctl X (λ_=>stepG_region_end) ?_
  q_cond true
  refine QuitsD.ctl X (λ_=>stepG_ret') ?_
  q_enable
  q_leave0 H.f_add
  exact QD.more B
 .replace d:WgAt p.ty p.Wg f (((v:Nat)+1)*KK+1) 0:=by simpa using d
  have z:((v:Nat):Int)*KK+((1:Nat):Int)=(v:Int)*KK+1:=by simp
  rw[z];have x:IntKind.u64.wrap (((v:Nat)+1)*KK+1+18446744069414584320)=(v:Int)*KK+1:=by rw[IntKind.wrap_u64];simp only[KK];omega
  obtain⟨S,j⟩:∃S:Int,S=(v:Int)*KK+1:=⟨_,X⟩
  rw[<-j]at x ⊢;have W:S/4294967296=(v:Int):=by rw[j];simp only[KK];omega
  have b1:bits .and .u64 S 2147483648=0:=by rw[j];have:=st_flag v 1 O O;simpa[KK]using this
  have b2:bits .and .u64 S 2147483647=1:=by rw[j];have:=st_waiters v 1 O O;simpa[KK]using this
  have c1:IntKind.i32.wrap (v:Int)=(v:Int):=by rw[IntKind.wrap_i32];omega
  have q3:decide ((v:Int)<0)=false:=cX O;have q4:decide (0<(v:Int))=true:=dl O;have q5:((v:Int)==0)=false:=by simp;omega
  have q6:decide ((v:Int)=0)=false:=cX O;have q7:((v:Int)==-1)=false:=by simp<;>omega
  clear j z;refine⟨_,(stepG_add_atomic X X (by k_ne) X H.f_addU64 (x_addU64_n L) (x_addU64_b L) (x_addU64_x L) .u64 (x_addU64_f L) X X d.cellSt (d.thaw 0)).trans (by rw[x];rfl),λl=>absurd l.1 O,λ_=>⟨qt+200,?_⟩⟩;clear d
  walk_nrm
  (refine QD.val ?_ X X (by k_ne) ?_ ?_ ?_;rotate_left;(next=>(intro w;go_simp;(try w_num);exact X));(next=>(intro w;simp[*,go_sem]));walk_nrm)
  refine QuitsD.ctl X (λ_=>stepG_region_end) ?_;refine QuitsD.ctl X (λ_=>stepG_ret') ?_
  q_leave1 H.f_uAdd
  (refine QD.val ?_ X X (by k_ne) ?_ ?_ ?_;rotate_left;(next=>(intro w;go_simp;(try w_num);exact X));(next=>(intro w;simp[*,go_sem]));walk_nrm)
  refine QuitsD.ctl X (λ_=>stepG_region_end) ?_
  iterate 2 (refine QuitsD.ctl X (λ_=>stepG_seq) ?_)
  q_reg
  iterate 4 (refine QD.val ?_ X X (by k_ne) ?_ ?_ ?_;rotate_left;(next=>(intro w;go_simp;(try w_num);exact X));(next=>(intro w;simp[*,go_sem]));walk_nrm)
  iterate 2 (q_skip)
  (refine QD.val ?_ X X (by k_ne) ?_ ?_ ?_;rotate_left;(next=>(intro w;go_simp;(try w_num);exact X));(next=>(intro w;simp[*,go_sem]));walk_nrm)
  refine QuitsD.ctl X (λ_=>stepG_region_end) ?_
  q_cond false
  refine QuitsD.ctl X (λ_=>stepG_skip) ?_;refine QuitsD.ctl X (λ_=>stepG_seq) ?_
  q_reg
  iterate 4 (refine QD.val ?_ X X (by k_ne) ?_ ?_ ?_;rotate_left;(next=>(intro w;go_simp;(try w_num);exact X));(next=>(intro w;simp[*,go_sem]));walk_nrm)
  refine QuitsD.ctl X (λ_=>stepG_region_end) ?_;refine QuitsD.ctl X (λ_=>stepG_seq) ?_
  q_reg
  iterate 4 (refine QD.val ?_ X X (by k_ne) ?_ ?_ ?_;rotate_left;(next=>(intro w;go_simp;(try w_num);exact X));(next=>(intro w;simp[*,go_sem]));walk_nrm)
  refine QuitsD.ctl X (λ_=>stepG_region_end) ?_
  iterate 2 (refine QuitsD.ctl X (λ_=>stepG_seq) ?_)
  q_reg
  iterate 5 (refine QD.val ?_ X X (by k_ne) ?_ ?_ ?_;rotate_left;(next=>(intro w;go_simp;(try w_num);exact X));(next=>(intro w;simp[*,go_sem]));walk_nrm)
  iterate 4 (q_skip)
  (refine QD.val ?_ X X (by k_ne) ?_ ?_ ?_;rotate_left;(next=>(intro w;go_simp;(try w_num);exact X));(next=>(intro w;simp[*,go_sem]));walk_nrm)
  refine QuitsD.ctl X (λ_=>stepG_region_end) ?_
  q_cond false
  refine QuitsD.ctl X (λ_=>stepG_skip) ?_
  iterate 2 (refine QuitsD.ctl X (λ_=>stepG_seq) ?_)
  q_reg
  iterate 2 (refine QD.val ?_ X X (by k_ne) ?_ ?_ ?_;rotate_left;(next=>(intro w;go_simp;(try w_num);exact X));(next=>(intro w;simp[*,go_sem]));walk_nrm)
  refine QuitsD.ctl X (λ_=>stepG_region_end) ?_
  q_cond false
  refine QuitsD.ctl X (λ_=>stepG_skip) ?_
  iterate 2 (refine QuitsD.ctl X (λ_=>stepG_seq) ?_)
  q_reg
  iterate 7 (refine QD.val ?_ X X (by k_ne) ?_ ?_ ?_;rotate_left;(next=>(intro w;go_simp;(try w_num);exact X));(next=>(intro w;simp[*,go_sem]));walk_nrm)
  iterate 4 (q_skip)
  (refine QD.val ?_ X X (by k_ne) ?_ ?_ ?_;rotate_left;(next=>(intro w;go_simp;(try w_num);exact X));(next=>(intro w;simp[*,go_sem]));walk_nrm)
  refine QuitsD.ctl X (λ_=>stepG_region_end) ?_
  q_cond false
  refine QuitsD.ctl X (λ_=>stepG_skip) ?_
  iterate 2 (refine QuitsD.ctl X (λ_=>stepG_seq) ?_)
  q_reg
  iterate 3 (refine QD.val ?_ X X (by k_ne) ?_ ?_ ?_;rotate_left;(next=>(intro w;go_simp;(try w_num);exact X));(next=>(intro w;simp[*,go_sem]));walk_nrm)
  iterate 2 (q_skip)
  (refine QD.val ?_ X X (by k_ne) ?_ ?_ ?_;rotate_left;(next=>(intro w;go_simp;(try w_num);exact X));(next=>(intro w;simp[*,go_sem]));walk_nrm)
  refine QuitsD.ctl X (λ_=>stepG_region_end) ?_
  q_cond true
  refine QuitsD.ctl X (λ_=>stepG_ret') ?_
  q_enable
  q_leave0 H.f_add
  exact QD.more B
end
end cy
abbrev sZ:=@cy.bC
end Go.Proofs.YtklkkoelldkncaaGreatDoor
set_option linter.unusedSimpArgs false
set_option linter.unusedVariables false
namespace Go.Proofs.YtklkkoelldkncaaGreatDoor
open Go.Conc Go.ConcN Go.RowKit Go.Conc.Lib Go.ConcR.Gen
open Go.ConcR (KK wgBlock WgAt stA smA rd wr DC0)
namespace cy
section
variable {p:cy}
set_option maxRecDepth 100000 in
set_option maxHeartbeats 8000000 in
theorem done{L:WgLink}(H:WgLib p.P L)(d:p.ty=L.tWg){c:Frame}{cs:List Frame}{qt:Nat}(a:c.mode=.returning)(g:QuitsD p.P qt 0 (G c cs)):
 p.GL false DC0 p.wD 203 (G ((baseD L.done).at ⟨#[.pointer (some ⟨p.Wg,0,none⟩),undef,undef,undef],[]⟩ [.code (body_done L)]) (c::cs)):=by
 lib_facts
 have e:=@addNeg p L H d;simp only[body_done,body_add,doneFn,addFn,f7]at e ⊢
 (refine .pure bC X (λ_=>stepG_region) ?_;simp only[cj,bN,bV,Nat.reduceAdd,cb,List.range,List.range.loop])
 (refine .op bC X X (by k_ne) (λ_ _=>by simp[*,go_sem]) (λw i K f=>?_);go_simp;refine f _ ?_;clear f K i w;walk_nrm;try w_num)
 refine .via bC X (λ_ _ h=>goes_call X X (by k_ne) X H.f_add (nm_add L) X h) ?_
 walk_nrmf addFn
 refine e (qt:=qt+3) ?_ ?_
 next=>walk_nrm
 refine QuitsD.ctl X (λ_=>stepG_region_end) (QuitsD.ctl X (λ_=>stepG_end) ?_);exact QuitsD.leaveD X X H.f_done X a g
theorem aG(w:World):p.D0 w w #[]:=⟨X,λe a=>by simp at a⟩
theorem GL.said{S:Goroutine->World->Prop}{n:Nat}{g g':Goroutine}{m:Mark}(ad:Addr)(d:ad.block=p.Wg)(i:g.status=.running)(f:m=.read ad\/m=.write ad)(e:∀w,stepG p.P true g w=.go g' w #[ConcR.mk m])(k:p.GL true p.D0 S n g'):p.GL true p.D0 S (n+1) g:=λw j=>.step i λw1 r=>by rw[e];refine⟨⟨X,λx a=>.inl ⟨ad,d,?_⟩⟩,k w1 (r.1 j)⟩;rw[Array.mem_singleton]at a;subst a;exact f.imp (λh=>by rw[h];rfl) (λh=>by rw[h];rfl)
set_option maxRecDepth 100000 in
set_option maxHeartbeats 8000000 in
theorem addPos{L:WgLink}(H:WgLib p.P L)(s:p.ty=L.tWg){b₀:Frame}{a₀:Act}{ops₀:Array Oper}{i₀:Nat}{rest₀:List Nat}{k₀:List Go.Item}{cs:List Frame}{Next:Goroutine->World->Prop}{mT:Nat}{T:Array Value}(l:T=#[.pointer (some ⟨p.Wg,0,none⟩),.int .i64 1]++Array.replicate 115 undef)(q:p.GL true p.D0 (p.AtGo Next) mT (G (b₀.at (a₀.put ((ops₀[i₀]?).bind (·.dst)) (.tuple #[])) (.inRegion ops₀ rest₀::k₀)) cs)):
 p.GL true p.D0 (p.AtKdS Next) 200 (G ((base L.add).at ⟨T,[]⟩ [.code (body_add L)]) (b₀.at a₀ (.inRegion ops₀ (i₀::rest₀)::k₀)::cs)):=by
 subst l
 lib_facts
 simp only[body_add,addFn,f7]
 walk_nrm
 refine .pure aG X (λ_=>stepG_seq) ?_;refine .jp aG X ?_
 iterate 2 (refine .pure aG X (λ_=>stepG_seq) ?_)
 (refine .pure aG X (λ_=>stepG_region) ?_;simp only[cj,bN,bV,Nat.reduceAdd,cb,List.range,List.range.loop])
 iterate 2 (refine .op aG X X (by k_ne) (λ_ _=>by simp[*,go_sem]) (λw d K a=>?_);go_simp;refine a _ ?_;clear a K d w;walk_nrm;try w_num)
 refine .pure aG X (λ_=>stepG_region_end) ?_;refine .gz aG X ?_;refine .pure aG X (λ_=>stepG_skip) ?_;refine .pure aG X (λ_=>stepG_seq) ?_
 (refine .pure aG X (λ_=>stepG_region) ?_;simp only[cj,bN,bV,Nat.reduceAdd,cb,List.range,List.range.loop])
 refine .stop (λw d=>⟨X,_,stepG_mark0 .disable (by simp) X X (by k_ne) X H.f_disable (x_disable_n L) (x_disable_b L) (x_disable_x L) (x_disable_f L),200,?_⟩);refine(?_:p.GL true p.D0 (p.AtA1 Next) 200 _) w d;clear d w;walk_nrm
 refine .pure aG X (λ_=>stepG_region_end) ?_
 (refine .pure aG X (λ_=>stepG_region) ?_;simp only[cj,bN,bV,Nat.reduceAdd,cb,List.range,List.range.loop])
 (refine .pure aG X (λ_=>stepG_defer X X (by k_ne) X) ?_;walk_nrm)
 refine .pure aG X (λ_=>stepG_region_end) ?_;refine .pure aG X (λ_=>stepG_seq) ?_
 (refine .pure aG X (λ_=>stepG_region) ?_;simp only[cj,bN,bV,Nat.reduceAdd,cb,List.range,List.range.loop])
 (refine .op aG X X (by k_ne) (λ_ _=>by simp[*,go_sem]) (λw d K a=>?_);go_simp;refine a _ ?_;clear a K d w;walk_nrm;try w_num)
 refine .pure aG X (λ_=>stepG_region_end) ?_
 iterate 2 (refine .pure aG X (λ_=>stepG_seq) ?_)
 (refine .pure aG X (λ_=>stepG_region) ?_;simp only[cj,bN,bV,Nat.reduceAdd,cb,List.range,List.range.loop])
 (refine .pure aG X (λ_=>stepG_entry_pure (.bool false) X X (by k_ne) X H.f_inBubble (x_inBubble_n L) (x_inBubble_b L) (x_inBubble_x L) (x_inBubble_f L)) ?_;walk_nrm)
 refine .pure aG X (λ_=>stepG_region_end) ?_;refine .gz aG X ?_;refine .pure aG X (λ_=>stepG_skip) ?_;refine .pure aG X (λ_=>stepG_seq) ?_
 (refine .pure aG X (λ_=>stepG_region) ?_;simp only[cj,bN,bV,Nat.reduceAdd,cb,List.range,List.range.loop])
 iterate 6 (refine .op aG X X (by k_ne) (λ_ _=>by simp[*,go_sem]) (λw d K a=>?_);go_simp;refine a _ ?_;clear a K d w;walk_nrm;try w_num)
 (refine .via aG X (λ_ _ h=>goes_call X X (by k_ne) X H.f_uAdd (nm_uAdd L) X h) ?_;walk_nrmf uAddFn)
 refine .pure aG X (λ_=>stepG_seq) ?_
 (refine .pure aG X (λ_=>stepG_region) ?_;simp only[cj,bN,bV,Nat.reduceAdd,cb,List.range,List.range.loop])
 (refine .op aG X X (by k_ne) (λ_ _=>by simp[*,go_sem]) (λw d K a=>?_);go_simp;refine a _ ?_;clear a K d w;walk_nrm;try w_num)
 refine .pure aG X (λ_=>stepG_region_end) ?_;refine .pure aG X (λ_=>stepG_seq) ?_
 (refine .pure aG X (λ_=>stepG_region) ?_;simp only[cj,bN,bV,Nat.reduceAdd,cb,List.range,List.range.loop])
 iterate 4 (refine .op aG X X (by k_ne) (λ_ _=>by simp[*,go_sem]) (λw d K a=>?_);go_simp;refine a _ ?_;clear a K d w;walk_nrm;try w_num)
 refine .stop (λf g=>⟨X,λv C d=>?_⟩);clear g;rcases pr v with rfl|t
 .replace d:WgAt p.ty p.Wg f 0 0:=by simpa using d
  have z:(((0:Nat):Int)+1)*KK=KK:=by simp
  rw[z];have e0:IntKind.u64.wrap (0+4294967296)=KK:=by decide
  refine⟨_,(stepG_add_atomic X X (by k_ne) X H.f_addU64 (x_addU64_n L) (x_addU64_b L) (x_addU64_x L) .u64 (x_addU64_f L) X X d.cellSt (d.thaw 0)).trans (by rw[e0];rfl),200,?_⟩;refine(?_:p.GL true p.D0 (p.AtKeS Next) 200 _) _ ⟨_,_,d.setSt _⟩;clear d f;simp only[KK]
  walk_nrm
  (refine .op aG X X (by k_ne) (λ_ _=>by simp[*,go_sem]) (λw d K a=>?_);go_simp;refine a _ ?_;clear a K d w;walk_nrm;try w_num)
  refine .pure aG X (λ_=>stepG_region_end) ?_;refine .pure aG X (λ_=>stepG_ret') ?_
  (refine .via aG X (λ_ _ h=>goes_leave1 X X H.f_uAdd X h) ?_;walk_nrm)
  (refine .op aG X X (by k_ne) (λ_ _=>by simp[*,go_sem]) (λw d K a=>?_);go_simp;refine a _ ?_;clear a K d w;walk_nrm;try w_num)
  refine .pure aG X (λ_=>stepG_region_end) ?_
  iterate 2 (refine .pure aG X (λ_=>stepG_seq) ?_)
  (refine .pure aG X (λ_=>stepG_region) ?_;simp only[cj,bN,bV,Nat.reduceAdd,cb,List.range,List.range.loop])
  iterate 4 (refine .op aG X X (by k_ne) (λ_ _=>by simp[*,go_sem]) (λw d K a=>?_);go_simp;refine a _ ?_;clear a K d w;walk_nrm;try w_num)
  iterate 2 (refine .pure aG X (λ_=>stepG_unwanted X X) ?_;walk_nrm)
  (refine .op aG X X (by k_ne) (λ_ _=>by simp[*,go_sem]) (λw d K a=>?_);go_simp;refine a _ ?_;clear a K d w;walk_nrm;try w_num)
  refine .pure aG X (λ_=>stepG_region_end) ?_;refine .gz aG X ?_;refine .pure aG X (λ_=>stepG_skip) ?_;refine .pure aG X (λ_=>stepG_seq) ?_
  (refine .pure aG X (λ_=>stepG_region) ?_;simp only[cj,bN,bV,Nat.reduceAdd,cb,List.range,List.range.loop])
  iterate 4 (refine .op aG X X (by k_ne) (λ_ _=>by simp[*,go_sem]) (λw d K a=>?_);go_simp;refine a _ ?_;clear a K d w;walk_nrm;try w_num)
  refine .pure aG X (λ_=>stepG_region_end) ?_;refine .pure aG X (λ_=>stepG_seq) ?_
  (refine .pure aG X (λ_=>stepG_region) ?_;simp only[cj,bN,bV,Nat.reduceAdd,cb,List.range,List.range.loop])
  iterate 4 (refine .op aG X X (by k_ne) (λ_ _=>by simp[*,go_sem]) (λw d K a=>?_);go_simp;refine a _ ?_;clear a K d w;walk_nrm;try w_num)
  refine .pure aG X (λ_=>stepG_region_end) ?_
  iterate 2 (refine .pure aG X (λ_=>stepG_seq) ?_)
  (refine .pure aG X (λ_=>stepG_region) ?_;simp only[cj,bN,bV,Nat.reduceAdd,cb,List.range,List.range.loop])
  iterate 10 (refine .op aG X X (by k_ne) (λ_ _=>by simp[*,go_sem]) (λw d K a=>?_);go_simp;refine a _ ?_;clear a K d w;walk_nrm;try w_num)
  refine .pure aG X (λ_=>stepG_region_end) ?_;refine .jp aG X ?_
  (refine .pure aG X (λ_=>stepG_region) ?_;simp only[cj,bN,bV,Nat.reduceAdd,cb,List.range,List.range.loop])
  iterate 3 (refine .op aG X X (by k_ne) (λ_ _=>by simp[*,go_sem]) (λw d K a=>?_);go_simp;refine a _ ?_;clear a K d w;walk_nrm;try w_num)
  refine .op aG X X (by k_ne) (λw d=>by(have m:=λes=>events_convert_to_unsafe (P:=p.P) H.underlying_tPU32 H.underlying_tUP H.room_tU32 (Bp d).choose_spec es);simp[go_sem,m]) (λw d K a=>?_);have n:=run_convert_to_unsafe (P:=p.P) H.underlying_tPU32 H.underlying_tUP H.room_tU32 (Bp d).choose_spec
  go_simp;refine a _ ?_;clear a K n d w;walk_nrm
  refine .said ⟨p.Wg,1,none⟩ X X (.inl X) (λ_=>stepG_markAt .read (by simp) X X (by k_ne) X H.f_raceRead (x_raceRead_n L) (x_raceRead_b L) (x_raceRead_x L) (x_raceRead_f L) (ad:=⟨p.Wg,1,none⟩) (by simp[Act.eval])) ?_
  walk_nrm
  refine .pure aG X (λ_=>stepG_region_end) ?_
  iterate 2 (refine .pure aG X (λ_=>stepG_seq) ?_)
  (refine .pure aG X (λ_=>stepG_region) ?_;simp only[cj,bN,bV,Nat.reduceAdd,cb,List.range,List.range.loop])
  iterate 2 (refine .op aG X X (by k_ne) (λ_ _=>by simp[*,go_sem]) (λw d K a=>?_);go_simp;refine a _ ?_;clear a K d w;walk_nrm;try w_num)
  refine .pure aG X (λ_=>stepG_region_end) ?_;refine .gz aG X ?_;refine .pure aG X (λ_=>stepG_skip) ?_
  iterate 2 (refine .pure aG X (λ_=>stepG_seq) ?_)
  (refine .pure aG X (λ_=>stepG_region) ?_;simp only[cj,bN,bV,Nat.reduceAdd,cb,List.range,List.range.loop])
  iterate 3 (refine .op aG X X (by k_ne) (λ_ _=>by simp[*,go_sem]) (λw d K a=>?_);go_simp;refine a _ ?_;clear a K d w;walk_nrm;try w_num)
  iterate 2 (refine .pure aG X (λ_=>stepG_unwanted X X) ?_;walk_nrm)
  iterate 2 (refine .op aG X X (by k_ne) (λ_ _=>by simp[*,go_sem]) (λw d K a=>?_);go_simp;refine a _ ?_;clear a K d w;walk_nrm;try w_num)
  iterate 4 (refine .pure aG X (λ_=>stepG_unwanted X X) ?_;walk_nrm)
  (refine .op aG X X (by k_ne) (λ_ _=>by simp[*,go_sem]) (λw d K a=>?_);go_simp;refine a _ ?_;clear a K d w;walk_nrm;try w_num)
  refine .pure aG X (λ_=>stepG_region_end) ?_;refine .gz aG X ?_;refine .pure aG X (λ_=>stepG_skip) ?_
  iterate 2 (refine .pure aG X (λ_=>stepG_seq) ?_)
  (refine .pure aG X (λ_=>stepG_region) ?_;simp only[cj,bN,bV,Nat.reduceAdd,cb,List.range,List.range.loop])
  iterate 3 (refine .op aG X X (by k_ne) (λ_ _=>by simp[*,go_sem]) (λw d K a=>?_);go_simp;refine a _ ?_;clear a K d w;walk_nrm;try w_num)
  iterate 2 (refine .pure aG X (λ_=>stepG_unwanted X X) ?_;walk_nrm)
  (refine .op aG X X (by k_ne) (λ_ _=>by simp[*,go_sem]) (λw d K a=>?_);go_simp;refine a _ ?_;clear a K d w;walk_nrm;try w_num)
  refine .pure aG X (λ_=>stepG_region_end) ?_;refine .jp aG X ?_;refine .pure aG X (λ_=>stepG_ret') ?_;refine .stop (λk e=>⟨X,_,stepG_unwind_entry (v:=.tuple #[]) (evs:=#[ConcR.mk .enable]) X H.f_enable (x_enable_n L) (x_enable_b L) (x_enable_x L) (x_enable_f L) (by simp[Extern.Race.none_]) (by simp[ConcR.mk]) (by simp[ConcR.mk]),mT+1,?_⟩);refine(?_:p.GL true p.D0 (p.AtGo Next) (mT+1) _) _ e;refine .via aG X (λ_ _ h=>goes_leave0 X X H.f_add X h) ?_
  walk_nrm
  exact q
 .obtain⟨V,j⟩:∃V:Int,V=(v:Int)+1:=⟨_,X⟩
  obtain⟨S,i⟩:∃S:Int,S=V*KK:=⟨_,X⟩
  have o:IntKind.u64.wrap ((v:Int)*KK+4294967296)=S:=by rw[IntKind.wrap_u64,i,j];simp only[KK];omega
  rw[<-j,<-i];have x:S/4294967296=V:=by rw[i];simp only[KK];omega
  have y:bits .and .u64 S 2147483648=0:=by rw[i,j];have:=st_flag (v+1) 0 O O;simpa[KK]using this
  have A:bits .and .u64 S 2147483647=0:=by rw[i,j];have:=st_waiters (v+1) 0 O O;simpa[KK]using this
  have B:IntKind.i32.wrap V=V:=by rw[IntKind.wrap_i32];omega
  have D:(V==1)=false:=by simp;omega
  have F:decide (V=1)=false:=cX O;have M:decide (V<0)=false:=cX O;have Q:decide (0<V)=true:=dl O;have W:(V==0)=false:=by simp;omega
  have q6:decide (V=0)=false:=cX O;refine⟨_,(stepG_add_atomic X X (by k_ne) X H.f_addU64 (x_addU64_n L) (x_addU64_b L) (x_addU64_x L) .u64 (x_addU64_f L) X X d.cellSt (d.thaw 0)).trans (by rw[o];rfl),200,?_⟩;refine(?_:p.GL true p.D0 (p.AtKeS Next) 200 _) _ ⟨_,_,d.setSt _⟩;clear d f i j o
  walk_nrm
  (refine .op aG X X (by k_ne) (λ_ _=>by simp[*,go_sem]) (λw d K a=>?_);go_simp;refine a _ ?_;clear a K d w;walk_nrm;try w_num)
  refine .pure aG X (λ_=>stepG_region_end) ?_;refine .pure aG X (λ_=>stepG_ret') ?_
  (refine .via aG X (λ_ _ h=>goes_leave1 X X H.f_uAdd X h) ?_;walk_nrm)
  (refine .op aG X X (by k_ne) (λ_ _=>by simp[*,go_sem]) (λw d K a=>?_);go_simp;refine a _ ?_;clear a K d w;walk_nrm;try w_num)
  refine .pure aG X (λ_=>stepG_region_end) ?_
  iterate 2 (refine .pure aG X (λ_=>stepG_seq) ?_)
  (refine .pure aG X (λ_=>stepG_region) ?_;simp only[cj,bN,bV,Nat.reduceAdd,cb,List.range,List.range.loop])
  iterate 4 (refine .op aG X X (by k_ne) (λ_ _=>by simp[*,go_sem]) (λw d K a=>?_);go_simp;refine a _ ?_;clear a K d w;walk_nrm;try w_num)
  iterate 2 (refine .pure aG X (λ_=>stepG_unwanted X X) ?_;walk_nrm)
  (refine .op aG X X (by k_ne) (λ_ _=>by simp[*,go_sem]) (λw d K a=>?_);go_simp;refine a _ ?_;clear a K d w;walk_nrm;try w_num)
  refine .pure aG X (λ_=>stepG_region_end) ?_;refine .gz aG X ?_;refine .pure aG X (λ_=>stepG_skip) ?_;refine .pure aG X (λ_=>stepG_seq) ?_
  (refine .pure aG X (λ_=>stepG_region) ?_;simp only[cj,bN,bV,Nat.reduceAdd,cb,List.range,List.range.loop])
  iterate 4 (refine .op aG X X (by k_ne) (λ_ _=>by simp[*,go_sem]) (λw d K a=>?_);go_simp;refine a _ ?_;clear a K d w;walk_nrm;try w_num)
  refine .pure aG X (λ_=>stepG_region_end) ?_;refine .pure aG X (λ_=>stepG_seq) ?_
  (refine .pure aG X (λ_=>stepG_region) ?_;simp only[cj,bN,bV,Nat.reduceAdd,cb,List.range,List.range.loop])
  iterate 4 (refine .op aG X X (by k_ne) (λ_ _=>by simp[*,go_sem]) (λw d K a=>?_);go_simp;refine a _ ?_;clear a K d w;walk_nrm;try w_num)
  refine .pure aG X (λ_=>stepG_region_end) ?_
  iterate 2 (refine .pure aG X (λ_=>stepG_seq) ?_)
  (refine .pure aG X (λ_=>stepG_region) ?_;simp only[cj,bN,bV,Nat.reduceAdd,cb,List.range,List.range.loop])
  iterate 10 (refine .op aG X X (by k_ne) (λ_ _=>by simp[*,go_sem]) (λw d K a=>?_);go_simp;refine a _ ?_;clear a K d w;walk_nrm;try w_num)
  refine .pure aG X (λ_=>stepG_region_end) ?_;refine .gz aG X ?_;refine .pure aG X (λ_=>stepG_skip) ?_
  iterate 2 (refine .pure aG X (λ_=>stepG_seq) ?_)
  (refine .pure aG X (λ_=>stepG_region) ?_;simp only[cj,bN,bV,Nat.reduceAdd,cb,List.range,List.range.loop])
  iterate 2 (refine .op aG X X (by k_ne) (λ_ _=>by simp[*,go_sem]) (λw d K a=>?_);go_simp;refine a _ ?_;clear a K d w;walk_nrm;try w_num)
  refine .pure aG X (λ_=>stepG_region_end) ?_;refine .gz aG X ?_;refine .pure aG X (λ_=>stepG_skip) ?_
  iterate 2 (refine .pure aG X (λ_=>stepG_seq) ?_)
  (refine .pure aG X (λ_=>stepG_region) ?_;simp only[cj,bN,bV,Nat.reduceAdd,cb,List.range,List.range.loop])
  iterate 3 (refine .op aG X X (by k_ne) (λ_ _=>by simp[*,go_sem]) (λw d K a=>?_);go_simp;refine a _ ?_;clear a K d w;walk_nrm;try w_num)
  iterate 2 (refine .pure aG X (λ_=>stepG_unwanted X X) ?_;walk_nrm)
  iterate 2 (refine .op aG X X (by k_ne) (λ_ _=>by simp[*,go_sem]) (λw d K a=>?_);go_simp;refine a _ ?_;clear a K d w;walk_nrm;try w_num)
  iterate 4 (refine .pure aG X (λ_=>stepG_unwanted X X) ?_;walk_nrm)
  (refine .op aG X X (by k_ne) (λ_ _=>by simp[*,go_sem]) (λw d K a=>?_);go_simp;refine a _ ?_;clear a K d w;walk_nrm;try w_num)
  refine .pure aG X (λ_=>stepG_region_end) ?_;refine .gz aG X ?_;refine .pure aG X (λ_=>stepG_skip) ?_
  iterate 2 (refine .pure aG X (λ_=>stepG_seq) ?_)
  (refine .pure aG X (λ_=>stepG_region) ?_;simp only[cj,bN,bV,Nat.reduceAdd,cb,List.range,List.range.loop])
  iterate 3 (refine .op aG X X (by k_ne) (λ_ _=>by simp[*,go_sem]) (λw d K a=>?_);go_simp;refine a _ ?_;clear a K d w;walk_nrm;try w_num)
  iterate 2 (refine .pure aG X (λ_=>stepG_unwanted X X) ?_;walk_nrm)
  (refine .op aG X X (by k_ne) (λ_ _=>by simp[*,go_sem]) (λw d K a=>?_);go_simp;refine a _ ?_;clear a K d w;walk_nrm;try w_num)
  refine .pure aG X (λ_=>stepG_region_end) ?_;refine .jp aG X ?_;refine .pure aG X (λ_=>stepG_ret') ?_;refine .stop (λk e=>⟨X,_,stepG_unwind_entry (v:=.tuple #[]) (evs:=#[ConcR.mk .enable]) X H.f_enable (x_enable_n L) (x_enable_b L) (x_enable_x L) (x_enable_f L) (by simp[Extern.Race.none_]) (by simp[ConcR.mk]) (by simp[ConcR.mk]),mT+1,?_⟩);refine(?_:p.GL true p.D0 (p.AtGo Next) (mT+1) _) _ e;refine .via aG X (λ_ _ h=>goes_leave0 X X H.f_add X h) ?_
  walk_nrm
  exact q
end
end cy
abbrev cO:=@cy.aG
end Go.Proofs.YtklkkoelldkncaaGreatDoor
set_option linter.unusedSimpArgs false
set_option linter.unusedVariables false
namespace Go.Proofs.YtklkkoelldkncaaGreatDoor
open Go.Conc Go.ConcN Go.RowKit Go.Conc.Lib Go.ConcR.Gen
open Go.ConcR (KK wgBlock WgAt stA smA rd wr DC0)
namespace cy
section
variable {p:cy}
set_option maxRecDepth 100000 in
set_option maxHeartbeats 8000000 in
theorem waitRound{L:WgLink}(H:WgLib p.P L)(C:p.ty=L.tWg){b₀:Frame}{a₀:Act}{ops₀:Array Oper}{i₀:Nat}{rest₀:List Nat}{k₀:List Go.Item}{cs:List Frame}{A:Goroutine->World->Prop}(hA:∀g w,ConcN.Gen.AnchWN L (λ_=>True) p.Wg (b₀.at a₀ (.inRegion ops₀ (i₀::rest₀)::k₀)) cs g w->A g w)(o:∀w,p.qi (G (b₀.at (a₀.put ((ops₀[i₀]?).bind (·.dst)) (.tuple #[])) (.inRegion ops₀ rest₀::k₀)) cs) w)(g:Goroutine)(w:World)(h:ConcN.Gen.AnchWN L (λ_=>True) p.Wg (b₀.at a₀ (.inRegion ops₀ (i₀::rest₀)::k₀)) cs g w):
 ∃m,Goes p.P true p.RL p.D0 (p.AtW1 A) m g w:=by
 lib_facts
 obtain⟨T,rfl,l,V,-,Q⟩:=h;obtain⟨v0,v1,v2,v3,v4,v5,v6,v7,v8,v9,v10,v11,v12,v13,v14,v15,v16,v17,v18,v19,v20,v21,v22,v23,v24,MJ,MK,ML,Gs,zd,v30,ze,zf,zg,zh,zi,zk,v37,v38,v39,v40,v41,v42,v43,v44,v45,v46,v47,v48,v49,v50,v51,v52,v53,v54,v55,v56,v57,v58,v59,v60,v61,v62,v63,v64,v65,v66,v67,v68,v69,v70,v71,v72,v73,v74,v75,v76,v77,v78,v79,v80,v81,v82,v83,rfl⟩:=array84 T l;simp only[qW,pB,gU]at V;subst V;refine⟨200,?_⟩;rw[<-C]at Q;refine(?_:p.GL true p.D0 (p.AtW1 A) 200 _) w Q;clear Q l w;simp only[L7,body_wait,waitFn,f7];refine .pure aG X (λ_=>stepG_block) ?_;refine .pure aG X (λ_=>stepG_seq) ?_
 (refine .pure aG X (λ_=>stepG_region) ?_;simp only[cj,bN,bV,Nat.reduceAdd,cb,List.range,List.range.loop])
 iterate 3 (refine .op aG X X (by k_ne) (λ_ _=>by simp[*,go_sem]) (λw a K d=>?_);go_simp;refine d _ ?_;clear d K a w;walk_nrm;try w_num)
 (refine .via aG X (λ_ _ h=>goes_call X X (by k_ne) X H.f_uLoad (nm_uLoad L) X h) ?_;walk_nrmf uLoadFn)
 refine .pure aG X (λ_=>stepG_seq) ?_
 (refine .pure aG X (λ_=>stepG_region) ?_;simp only[cj,bN,bV,Nat.reduceAdd,cb,List.range,List.range.loop])
 (refine .op aG X X (by k_ne) (λ_ _=>by simp[*,go_sem]) (λw a K d=>?_);go_simp;refine d _ ?_;clear d K a w;walk_nrm;try w_num)
 refine .pure aG X (λ_=>stepG_region_end) ?_;refine .pure aG X (λ_=>stepG_seq) ?_
 (refine .pure aG X (λ_=>stepG_region) ?_;simp only[cj,bN,bV,Nat.reduceAdd,cb,List.range,List.range.loop])
 iterate 3 (refine .op aG X X (by k_ne) (λ_ _=>by simp[*,go_sem]) (λw a K d=>?_);go_simp;refine d _ ?_;clear d K a w;walk_nrm;try w_num)
 refine .stop (λk x=>⟨X,λv hv a=>?_⟩);clear x;rcases pr v with rfl|UT
 .replace a:WgAt p.ty p.Wg k 0 0:=by simpa using a
  refine⟨_,stepG_load_atomic (v:=0) X X (by k_ne) X H.f_loadU64 (x_loadU64_n L) (x_loadU64_b L) (x_loadU64_x L) .u64 (x_loadU64_f L) X a.cellSt,λ_=>⟨200,?_⟩,λh=>absurd X h⟩;refine(?_:p.GL true p.D0 p.AtKe 200 _) _ ⟨_,_,a⟩;clear a k;walk_nrm
  (refine .op aG X X (by k_ne) (λ_ _=>by simp[*,go_sem]) (λw a K d=>?_);go_simp;refine d _ ?_;clear d K a w;walk_nrm;try w_num)
  refine .pure aG X (λ_=>stepG_region_end) ?_;refine .pure aG X (λ_=>stepG_ret') ?_
  (refine .via aG X (λ_ _ h=>goes_leave1 X X H.f_uLoad X h) ?_;walk_nrm)
  (refine .op aG X X (by k_ne) (λ_ _=>by simp[*,go_sem]) (λw a K d=>?_);go_simp;refine d _ ?_;clear d K a w;walk_nrm;try w_num)
  refine .pure aG X (λ_=>stepG_region_end) ?_;refine .pure aG X (λ_=>stepG_seq) ?_
  (refine .pure aG X (λ_=>stepG_region) ?_;simp only[cj,bN,bV,Nat.reduceAdd,cb,List.range,List.range.loop])
  iterate 4 (refine .op aG X X (by k_ne) (λ_ _=>by simp[*,go_sem]) (λw a K d=>?_);go_simp;refine d _ ?_;clear d K a w;walk_nrm;try w_num)
  refine .pure aG X (λ_=>stepG_region_end) ?_;refine .pure aG X (λ_=>stepG_seq) ?_
  (refine .pure aG X (λ_=>stepG_region) ?_;simp only[cj,bN,bV,Nat.reduceAdd,cb,List.range,List.range.loop])
  iterate 4 (refine .op aG X X (by k_ne) (λ_ _=>by simp[*,go_sem]) (λw a K d=>?_);go_simp;refine d _ ?_;clear d K a w;walk_nrm;try w_num)
  refine .pure aG X (λ_=>stepG_region_end) ?_
  iterate 2 (refine .pure aG X (λ_=>stepG_seq) ?_)
  (refine .pure aG X (λ_=>stepG_region) ?_;simp only[cj,bN,bV,Nat.reduceAdd,cb,List.range,List.range.loop])
  iterate 2 (refine .op aG X X (by k_ne) (λ_ _=>by simp[*,go_sem]) (λw a K d=>?_);go_simp;refine d _ ?_;clear d K a w;walk_nrm;try w_num)
  refine .pure aG X (λ_=>stepG_region_end) ?_;refine .jp aG X ?_;refine .pure aG X (λ_=>stepG_seq) ?_;refine .jp aG X ?_;refine .pure aG X (λ_=>stepG_seq) ?_
  (refine .pure aG X (λ_=>stepG_region) ?_;simp only[cj,bN,bV,Nat.reduceAdd,cb,List.range,List.range.loop])
  refine .stop (λw a=>⟨X,_,stepG_mark0 .enable (by simp) X X (by k_ne) X H.f_enable (x_enable_n L) (x_enable_b L) (x_enable_x L) (x_enable_f L),200,?_⟩);refine(?_:p.GL true p.D0 p.AtAcq 200 _) w a;clear a w;walk_nrm
  refine .pure aG X (λ_=>stepG_region_end) ?_
  (refine .pure aG X (λ_=>stepG_region) ?_;simp only[cj,bN,bV,Nat.reduceAdd,cb,List.range,List.range.loop])
  (refine .op aG X X (by k_ne) (λ_ _=>by simp[*,go_sem]) (λw a K d=>?_);go_simp;refine d _ ?_;clear d K a w;walk_nrm;try w_num)
  refine .op aG X X (by k_ne) (λw a=>by(have f:=λes=>events_convert_to_unsafe (P:=p.P) H.underlying_tWgP H.underlying_tUP H.room_tWg (uU a).choose_spec es);simp[go_sem,f]) (λw a K d=>?_);have i:=run_convert_to_unsafe (P:=p.P) H.underlying_tWgP H.underlying_tUP H.room_tWg (uU a).choose_spec
  go_simp;refine d _ ?_;clear d K i a w;walk_nrm
  refine .stop (λw a=>⟨X,_,stepG_markAt .acquire (by simp) X X (by k_ne) X H.f_acquire (x_acquire_n L) (x_acquire_b L) (x_acquire_x L) (x_acquire_f L) (by simp[Act.eval,stA]),200,?_⟩);refine(?_:p.GL true p.D0 p.qi 200 _) w a;clear a w;walk_nrm
  refine .pure aG X (λ_=>stepG_region_end) ?_
  iterate 2 (refine .pure aG X (λ_=>stepG_seq) ?_)
  (refine .pure aG X (λ_=>stepG_region) ?_;simp only[cj,bN,bV,Nat.reduceAdd,cb,List.range,List.range.loop])
  iterate 8 (refine .op aG X X (by k_ne) (λ_ _=>by simp[*,go_sem]) (λw a K d=>?_);go_simp;refine d _ ?_;clear d K a w;walk_nrm;try w_num)
  iterate 2 (refine .pure aG X (λ_=>stepG_unwanted X X) ?_;walk_nrm)
  (refine .op aG X X (by k_ne) (λ_ _=>by simp[*,go_sem]) (λw a K d=>?_);go_simp;refine d _ ?_;clear d K a w;walk_nrm;try w_num)
  refine .pure aG X (λ_=>stepG_region_end) ?_;refine .gz aG X ?_;refine .pure aG X (λ_=>stepG_skip) ?_;refine .pure aG X (λ_=>stepG_ret') ?_;refine .via aG X (λ_ _ h=>goes_leave0 X X H.f_wait X h) ?_
  walk_nrm
  exact .stop (λw _=>o w)
 .obtain⟨S,t⟩:∃S:Int,(v:Int)*KK=S:=⟨_,X⟩
  have a1:S/4294967296=(v:Int):=by rw[<-t];simp only[KK];omega
  have b1:bits .and .u64 S 2147483648=0:=by rw[<-t];have:=st_flag v 0 O O;simpa[KK]using this
  have b2:bits .and .u64 S 2147483647=0:=by rw[<-t];have:=st_waiters v 0 O O;simpa[KK]using this
  have c1:IntKind.i32.wrap (v:Int)=(v:Int):=by rw[IntKind.wrap_i32];omega
  have w1:IntKind.u64.wrap (S+1)=S+1:=by rw[IntKind.wrap_u64,<-t];simp only[KK];omega
  have q3:decide ((v:Int)<0)=false:=cX O;have q4:decide (0<(v:Int))=true:=dl O;have q5:((v:Int)==0)=false:=by simp;omega
  have q6:decide ((v:Int)=0)=false:=cX O;rw[t]at a;refine⟨_,stepG_load_atomic (v:=S) X X (by k_ne) X H.f_loadU64 (x_loadU64_n L) (x_loadU64_b L) (x_loadU64_x L) .u64 (x_loadU64_f L) X a.cellSt,λW=>absurd W O,λ_=>⟨200,?_⟩⟩;refine(?_:p.GL true p.D0 (p.AtW2 A v) 200 _) _ ⟨_,_,a⟩;clear a k;walk_nrm
  (refine .op aG X X (by k_ne) (λ_ _=>by simp[*,go_sem]) (λw a K d=>?_);go_simp;refine d _ ?_;clear d K a w;walk_nrm;try w_num)
  refine .pure aG X (λ_=>stepG_region_end) ?_;refine .pure aG X (λ_=>stepG_ret') ?_
  (refine .via aG X (λ_ _ h=>goes_leave1 X X H.f_uLoad X h) ?_;walk_nrm)
  (refine .op aG X X (by k_ne) (λ_ _=>by simp[*,go_sem]) (λw a K d=>?_);go_simp;refine d _ ?_;clear d K a w;walk_nrm;try w_num)
  refine .pure aG X (λ_=>stepG_region_end) ?_;refine .pure aG X (λ_=>stepG_seq) ?_
  (refine .pure aG X (λ_=>stepG_region) ?_;simp only[cj,bN,bV,Nat.reduceAdd,cb,List.range,List.range.loop])
  iterate 4 (refine .op aG X X (by k_ne) (λ_ _=>by simp[*,go_sem]) (λw a K d=>?_);go_simp;refine d _ ?_;clear d K a w;walk_nrm;try w_num)
  refine .pure aG X (λ_=>stepG_region_end) ?_;refine .pure aG X (λ_=>stepG_seq) ?_
  (refine .pure aG X (λ_=>stepG_region) ?_;simp only[cj,bN,bV,Nat.reduceAdd,cb,List.range,List.range.loop])
  iterate 4 (refine .op aG X X (by k_ne) (λ_ _=>by simp[*,go_sem]) (λw a K d=>?_);go_simp;refine d _ ?_;clear d K a w;walk_nrm;try w_num)
  refine .pure aG X (λ_=>stepG_region_end) ?_
  iterate 2 (refine .pure aG X (λ_=>stepG_seq) ?_)
  (refine .pure aG X (λ_=>stepG_region) ?_;simp only[cj,bN,bV,Nat.reduceAdd,cb,List.range,List.range.loop])
  iterate 2 (refine .op aG X X (by k_ne) (λ_ _=>by simp[*,go_sem]) (λw a K d=>?_);go_simp;refine d _ ?_;clear d K a w;walk_nrm;try w_num)
  refine .pure aG X (λ_=>stepG_region_end) ?_;refine .gz aG X ?_;refine .pure aG X (λ_=>stepG_skip) ?_;refine .pure aG X (λ_=>stepG_seq) ?_
  (refine .pure aG X (λ_=>stepG_region) ?_;simp only[cj,bN,bV,Nat.reduceAdd,cb,List.range,List.range.loop])
  iterate 6 (refine .op aG X X (by k_ne) (λ_ _=>by simp[*,go_sem]) (λw a K d=>?_);go_simp;refine d _ ?_;clear d K a w;walk_nrm;try w_num)
  (refine .via aG X (λ_ _ h=>goes_call X X (by k_ne) X H.f_uCas (nm_uCas L) X h) ?_;walk_nrmf uCasFn)
  refine .pure aG X (λ_=>stepG_seq) ?_
  (refine .pure aG X (λ_=>stepG_region) ?_;simp only[cj,bN,bV,Nat.reduceAdd,cb,List.range,List.range.loop])
  (refine .op aG X X (by k_ne) (λ_ _=>by simp[*,go_sem]) (λw a K d=>?_);go_simp;refine d _ ?_;clear d K a w;walk_nrm;try w_num)
  refine .pure aG X (λ_=>stepG_region_end) ?_;refine .pure aG X (λ_=>stepG_seq) ?_
  (refine .pure aG X (λ_=>stepG_region) ?_;simp only[cj,bN,bV,Nat.reduceAdd,cb,List.range,List.range.loop])
  iterate 5 (refine .op aG X X (by k_ne) (λ_ _=>by simp[*,go_sem]) (λw a K d=>?_);go_simp;refine d _ ?_;clear d K a w;walk_nrm;try w_num)
  refine .stop (λq j=>⟨X,λv' sF a=>⟨λe=>?_,λe=>?_⟩⟩)
  next=>
   clear j;subst e;rw[t]at a ⊢;refine⟨_,(stepG_cas_hit (v:=S) (n:=S+1) X X (by k_ne) X H.f_casU64 (x_casU64_n L) (x_casU64_b L) (x_casU64_x L) .u64 (x_casU64_f L) X X X a.cellSt (a.thaw 0)).trans (by rfl),200,?_⟩;refine(?_:p.GL true p.D0 p.AtW3 200 _) _ ⟨_,_,a.setSt _⟩;clear a q;walk_nrm
   (refine .op aG X X (by k_ne) (λ_ _=>by simp[*,go_sem]) (λw a K d=>?_);go_simp;refine d _ ?_;clear d K a w;walk_nrm;try w_num)
   refine .pure aG X (λ_=>stepG_region_end) ?_;refine .pure aG X (λ_=>stepG_ret') ?_
   (refine .via aG X (λ_ _ h=>goes_leave1 X X H.f_uCas X h) ?_;walk_nrm)
   refine .pure aG X (λ_=>stepG_region_end) ?_;refine .jp aG X ?_
   iterate 2 (refine .pure aG X (λ_=>stepG_seq) ?_)
   (refine .pure aG X (λ_=>stepG_region) ?_;simp only[cj,bN,bV,Nat.reduceAdd,cb,List.range,List.range.loop])
   iterate 4 (refine .op aG X X (by k_ne) (λ_ _=>by simp[*,go_sem]) (λw a K d=>?_);go_simp;refine d _ ?_;clear d K a w;walk_nrm;try w_num)
   refine .pure aG X (λ_=>stepG_region_end) ?_;refine .jp aG X ?_
   (refine .pure aG X (λ_=>stepG_region) ?_;simp only[cj,bN,bV,Nat.reduceAdd,cb,List.range,List.range.loop])
   iterate 3 (refine .op aG X X (by k_ne) (λ_ _=>by simp[*,go_sem]) (λw a K d=>?_);go_simp;refine d _ ?_;clear d K a w;walk_nrm;try w_num)
   refine .op aG X X (by k_ne) (λw a=>by(have f:=λes=>events_convert_to_unsafe (P:=p.P) H.underlying_tPU32 H.underlying_tUP H.room_tU32 (Bp a).choose_spec es);simp[go_sem,f]) (λw a K d=>?_);have i:=run_convert_to_unsafe (P:=p.P) H.underlying_tPU32 H.underlying_tUP H.room_tU32 (Bp a).choose_spec
   go_simp;refine d _ ?_;clear d K i a w;walk_nrm
   refine .said ⟨p.Wg,1,none⟩ X X (.inr X) (λ_=>stepG_markAt .write (by simp) X X (by k_ne) X H.f_raceWrite (x_raceWrite_n L) (x_raceWrite_b L) (x_raceWrite_x L) (x_raceWrite_f L) (ad:=⟨p.Wg,1,none⟩) (by simp[Act.eval])) ?_
   walk_nrm
   refine .pure aG X (λ_=>stepG_region_end) ?_;refine .pure aG X (λ_=>stepG_seq) ?_
   (refine .pure aG X (λ_=>stepG_region) ?_;simp only[cj,bN,bV,Nat.reduceAdd,cb,List.range,List.range.loop])
   (refine .op aG X X (by k_ne) (λ_ _=>by simp[*,go_sem]) (λw a K d=>?_);go_simp;refine d _ ?_;clear d K a w;walk_nrm;try w_num)
   refine .pure aG X (λ_=>stepG_region_end) ?_
   iterate 2 (refine .pure aG X (λ_=>stepG_seq) ?_)
   (refine .pure aG X (λ_=>stepG_region) ?_;simp only[cj,bN,bV,Nat.reduceAdd,cb,List.range,List.range.loop])
   iterate 4 (refine .op aG X X (by k_ne) (λ_ _=>by simp[*,go_sem]) (λw a K d=>?_);go_simp;refine d _ ?_;clear d K a w;walk_nrm;try w_num)
   (refine .pure aG X (λ_=>stepG_unwanted X X) ?_;walk_nrm)
   (refine .op aG X X (by k_ne) (λ_ _=>by simp[*,go_sem]) (λw a K d=>?_);go_simp;refine d _ ?_;clear d K a w;walk_nrm;try w_num)
   refine .pure aG X (λ_=>stepG_region_end) ?_;refine .gz aG X ?_;refine .pure aG X (λ_=>stepG_skip) ?_;refine .pure aG X (λ_=>stepG_seq) ?_
   (refine .pure aG X (λ_=>stepG_region) ?_;simp only[cj,bN,bV,Nat.reduceAdd,cb,List.range,List.range.loop])
   iterate 4 (refine .op aG X X (by k_ne) (λ_ _=>by simp[*,go_sem]) (λw a K d=>?_);go_simp;refine d _ ?_;clear d K a w;walk_nrm;try w_num)
   refine .stop (λs y=>⟨X,X,λ⟨st,a⟩=>stepG_semacquire_wait X X X H.f_semacquire (x_semacquire_n L) (x_semacquire_b L) (x_semacquire_x L) (x_semacquire_f L) (by simp[Act.eval,smA]) a.cellSm,λM=>⟨_,(stepG_semacquire (n:=1) X X (by k_ne) X H.f_semacquire (x_semacquire_n L) (x_semacquire_b L) (x_semacquire_x L) (x_semacquire_f L) (by simp[Act.eval,smA]) M.cellSm (by k_ne) (M.thaw 1)).trans (by rfl),200,?_⟩⟩);clear y;refine(?_:p.GL true p.D0 p.AtW4 200 _) _ ⟨_,_,M.setSm 0⟩;clear M s;walk_nrm
   refine .pure aG X (λ_=>stepG_region_end) ?_;refine .pure aG X (λ_=>stepG_seq) ?_
   (refine .pure aG X (λ_=>stepG_region) ?_;simp only[cj,bN,bV,Nat.reduceAdd,cb,List.range,List.range.loop])
   iterate 3 (refine .op aG X X (by k_ne) (λ_ _=>by simp[*,go_sem]) (λw a K d=>?_);go_simp;refine d _ ?_;clear d K a w;walk_nrm;try w_num)
   (refine .via aG X (λ_ _ h=>goes_call X X (by k_ne) X H.f_uLoad (nm_uLoad L) X h) ?_;walk_nrmf uLoadFn)
   refine .pure aG X (λ_=>stepG_seq) ?_
   (refine .pure aG X (λ_=>stepG_region) ?_;simp only[cj,bN,bV,Nat.reduceAdd,cb,List.range,List.range.loop])
   (refine .op aG X X (by k_ne) (λ_ _=>by simp[*,go_sem]) (λw a K d=>?_);go_simp;refine d _ ?_;clear d K a w;walk_nrm;try w_num)
   refine .pure aG X (λ_=>stepG_region_end) ?_;refine .pure aG X (λ_=>stepG_seq) ?_
   (refine .pure aG X (λ_=>stepG_region) ?_;simp only[cj,bN,bV,Nat.reduceAdd,cb,List.range,List.range.loop])
   iterate 3 (refine .op aG X X (by k_ne) (λ_ _=>by simp[*,go_sem]) (λw a K d=>?_);go_simp;refine d _ ?_;clear d K a w;walk_nrm;try w_num)
   refine .stop (λF B=>⟨X,λa=>⟨_,stepG_load_atomic (v:=0) X X (by k_ne) X H.f_loadU64 (x_loadU64_n L) (x_loadU64_b L) (x_loadU64_x L) .u64 (x_loadU64_f L) X a.cellSt,200,?_⟩⟩);clear B;refine(?_:p.GL true p.D0 p.AtKe 200 _) _ ⟨_,_,a⟩;clear a F;walk_nrm
   (refine .op aG X X (by k_ne) (λ_ _=>by simp[*,go_sem]) (λw a K d=>?_);go_simp;refine d _ ?_;clear d K a w;walk_nrm;try w_num)
   refine .pure aG X (λ_=>stepG_region_end) ?_;refine .pure aG X (λ_=>stepG_ret') ?_
   (refine .via aG X (λ_ _ h=>goes_leave1 X X H.f_uLoad X h) ?_;walk_nrm)
   iterate 2 (refine .op aG X X (by k_ne) (λ_ _=>by simp[*,go_sem]) (λw a K d=>?_);go_simp;refine d _ ?_;clear d K a w;walk_nrm;try w_num)
   refine .pure aG X (λ_=>stepG_region_end) ?_;refine .pure aG X (λ_=>stepG_seq) ?_;refine .jp aG X ?_;refine .pure aG X (λ_=>stepG_seq) ?_
   (refine .pure aG X (λ_=>stepG_region) ?_;simp only[cj,bN,bV,Nat.reduceAdd,cb,List.range,List.range.loop])
   refine .stop (λw a=>⟨X,_,stepG_mark0 .enable (by simp) X X (by k_ne) X H.f_enable (x_enable_n L) (x_enable_b L) (x_enable_x L) (x_enable_f L),200,?_⟩);refine(?_:p.GL true p.D0 p.AtAcq 200 _) w a;clear a w;walk_nrm
   refine .pure aG X (λ_=>stepG_region_end) ?_
   (refine .pure aG X (λ_=>stepG_region) ?_;simp only[cj,bN,bV,Nat.reduceAdd,cb,List.range,List.range.loop])
   (refine .op aG X X (by k_ne) (λ_ _=>by simp[*,go_sem]) (λw a K d=>?_);go_simp;refine d _ ?_;clear d K a w;walk_nrm;try w_num)
   refine .op aG X X (by k_ne) (λw a=>by(have f:=λes=>events_convert_to_unsafe (P:=p.P) H.underlying_tWgP H.underlying_tUP H.room_tWg (uU a).choose_spec es);simp[go_sem,f]) (λw a K d=>?_);have i:=run_convert_to_unsafe (P:=p.P) H.underlying_tWgP H.underlying_tUP H.room_tWg (uU a).choose_spec
   go_simp;refine d _ ?_;clear d K i a w;walk_nrm
   refine .stop (λw a=>⟨X,_,stepG_markAt .acquire (by simp) X X (by k_ne) X H.f_acquire (x_acquire_n L) (x_acquire_b L) (x_acquire_x L) (x_acquire_f L) (by simp[Act.eval,stA]),200,?_⟩);refine(?_:p.GL true p.D0 p.qi 200 _) w a;clear a w;walk_nrm
   refine .pure aG X (λ_=>stepG_region_end) ?_
   iterate 2 (refine .pure aG X (λ_=>stepG_seq) ?_)
   (refine .pure aG X (λ_=>stepG_region) ?_;simp only[cj,bN,bV,Nat.reduceAdd,cb,List.range,List.range.loop])
   (refine .op aG X X (by k_ne) (λ_ _=>by simp[*,go_sem]) (λw a K d=>?_);go_simp;refine d _ ?_;clear d K a w;walk_nrm;try w_num)
   refine .pure aG X (λ_=>stepG_region_end) ?_;refine .gz aG X ?_;refine .pure aG X (λ_=>stepG_skip) ?_;refine .pure aG X (λ_=>stepG_ret') ?_;refine .via aG X (λ_ _ h=>goes_leave0 X X H.f_wait X h) ?_
   walk_nrm
   exact .stop (λw _=>o w)
  next=>
   clear j;refine⟨_,stepG_cas_miss (v:=(v':Int)*KK) (old:=S) (n:=S+1) X X (by k_ne) X H.f_casU64 (x_casU64_n L) (x_casU64_b L) (x_casU64_x L) .u64 (x_casU64_f L) X X X a.cellSt (a.thaw 0) (by rw[<-t];simp only[KK];omega),200,?_⟩;refine(?_:p.GL true p.D0 A 200 _) _ ⟨_,_,a⟩;clear a q;walk_nrm
   (refine .op aG X X (by k_ne) (λ_ _=>by simp[*,go_sem]) (λw a K d=>?_);go_simp;refine d _ ?_;clear d K a w;walk_nrm;try w_num)
   refine .pure aG X (λ_=>stepG_region_end) ?_;refine .pure aG X (λ_=>stepG_ret') ?_
   (refine .via aG X (λ_ _ h=>goes_leave1 X X H.f_uCas X h) ?_;walk_nrm)
   refine .pure aG X (λ_=>stepG_region_end) ?_;refine .gz aG X ?_;refine .pure aG X (λ_=>stepG_skip) ?_;refine .pure aG X (λ_=>stepG_inBlock) ?_;refine .pure aG X (λ_=>stepG_inLoop) ?_;exact .stop (λs D=>hA _ _ ⟨_,X,by simp,by simp,bo,by rw[<-C];exact D⟩)
set_option maxRecDepth 100000 in
set_option maxHeartbeats 8000000 in
theorem waitStart{L:WgLink}(H:WgLib p.P L)(e:p.ty=L.tWg){b₀:Frame}{a₀:Act}{ops₀:Array Oper}{i₀:Nat}{rest₀:List Nat}{k₀:List Go.Item}{cs:List Frame}{A:Goroutine->World->Prop}(i:∀g w,ConcN.Gen.AnchWN L (λ_=>True) p.Wg (b₀.at a₀ (.inRegion ops₀ (i₀::rest₀)::k₀)) cs g w->A g w){T:Array Value}(d:T=#[.pointer (some ⟨p.Wg,0,none⟩)]++Array.replicate 83 undef):
 p.GL true p.D0 (p.AtKd A) 200 (G ((base L.wait).at ⟨T,[]⟩ [.code (body_wait L)]) (b₀.at a₀ (.inRegion ops₀ (i₀::rest₀)::k₀)::cs)):=by
 subst d
 lib_facts
 simp only[body_wait,waitFn,f7]
 walk_nrm
 refine .pure aG X (λ_=>stepG_seq) ?_;refine .jp aG X ?_
 (refine .pure aG X (λ_=>stepG_region) ?_;simp only[cj,bN,bV,Nat.reduceAdd,cb,List.range,List.range.loop])
 refine .stop (λw f=>⟨X,_,stepG_mark0 .disable (by simp) X X (by k_ne) X H.f_disable (x_disable_n L) (x_disable_b L) (x_disable_x L) (x_disable_f L),200,?_⟩);refine(?_:p.GL true p.D0 A 200 _) w f;clear f w;walk_nrm
 refine .pure aG X (λ_=>stepG_region_end) ?_;refine .pure aG X (λ_=>stepG_block) ?_;refine .pure aG X (λ_=>stepG_loop) ?_;exact .stop (λh a=>i _ _ ⟨_,X,by simp,by simp,bo,by rw[<-e];exact a⟩)
end
