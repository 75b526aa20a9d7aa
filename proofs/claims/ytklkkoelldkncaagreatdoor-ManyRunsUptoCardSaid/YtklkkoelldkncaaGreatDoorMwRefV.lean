/-
  The document's receiver after a parcel, as the code's.
-/
import Derived.Test.YtklkkoelldkncaaGreatDoorMwWireRef
set_option linter.unusedSimpArgs false
set_option linter.unusedVariables false
namespace Go.Proofs.YtklkkoelldkncaaGreatDoor
open an
theorem RH{r:To}(h:r.bg.Pairwise iB):∃m,bE (vl r) r.bg.length 0 []=some m/\∀s t,dg m s=some t↔(⟨s,t⟩:aP)∈r.bg:=by
 have k:cV (bE (vl r) r.bg.length 0 []) λz=>∀s t,dg z s=some t↔(⟨s,t⟩:aP)∈r.bg:=by
  refine cV.bE (λi z=>∀s t,dg z s=some t↔(⟨s,t⟩:aP)∈r.bg.take i) (λs t=>by simp[V4]) ?_ (λz g=>by rwa[cb,List.take_length]at g);intro i z _ hi g;have hi:i<r.bg.length:=by omega
  have d:r.bg[i]?=some r.bg[i]:=by simp[hi]
  generalize r.bg[i]=x at d;unfold vl;rw[cY,d,aj,u4,fa];intro s t;rw[xJ,aaX d,e9,iq];by_cases e:s=x.ao
  .rw[ce e];constructor
   .intro q;refine .inr ?_;cases x;simp only at e q;rw[e,dF q]
   .rintro(q|q)
    .obtain⟨j,f⟩:=kE q;have a:j<i:=by have:=(ed f).1;simp at this;omega
     rw[Bg,ce a]at f;have:=qL h a f d;simp only at this;omega
    .rw[<-q]
  .rw[ck e,g s t];constructor
   .exact .inl
   .rintro(q|q)
    .exact q
    .rw[<-q]at e;exact absurd X e
 obtain⟨m,e,l⟩:=k;exact⟨m,e,l⟩
theorem ZE{f:List (Int×Y)}{N:Int}{fu:Nat}(q:0<=N/\N<=1000000000)(p:∀s t,dg f s=some t->s<N+16)(x:40<fu):
 ∃k:Nat,k<=16/\df (rm f) fu ((⟨N,[]⟩:To),[])=some (.inl ((⟨N+k,[]⟩:To),tl (dg f) N k))/\(∀j:Nat,j<k->(dg f (N+j)).isSome=true)/\dg f (N+k)=none:=by
 have g:cV (df (rm f) fu ((⟨N,[]⟩:To),[])) λo=>∃k:Nat,k<=16/\o=.inl ((⟨N+k,[]⟩:To),tl (dg f) N k)/\(∀j:Nat,j<k->(dg f (N+j)).isSome=true)/\dg f (N+k)=none:=by
  refine pM (λz=>∃k:Nat,k<=16/\z=((⟨N+k,[]⟩:To),tl (dg f) N k)/\∀j:Nat,j<k->(dg f (N+j)).isSome=true) (λz=>20-z.2.length) ⟨0,by omega,by simp[tl],λj h=>by omega⟩ (by simp;omega) ?_;rintro _ ⟨k,m,rfl,a⟩;unfold rm;simp only
  cases d:dg f (N+k)with
  |none=>simp only[Option.isSome_none,uO,bM];exact fa.2 (nC.2 ⟨k,m,X,a,d⟩)
  |some t=>
   have n:=p _ _ d;simp only[Option.isSome_some,ii,aW,f7];rw[eu (by rw[rz];simp;omega),aj,u4,fa,bO (show-9223372036854775808<=N+(k:Int)+1 by omega) O];refine oH.2 ⟨⟨k+1,by omega,?_,λj y=>?_⟩,?_⟩
   .rw[MB,d];simp;omega
   .by_cases e:j=k
    .subst e;rw[d];rfl
    .exact a j O
   .simp only[cr,rz,List.length_singleton];omega
 obtain⟨o,e,k,a,rfl,i,l⟩:=g;exact⟨k,a,e,i,l⟩
theorem ZD{r:To}{f:List (Int×Y)}{q:Int}{fu:Nat}(D:0<=r.Next/\r.Next<=1000000000)(H:r.Next<=q/\q<=r.Next+16)(A:∀s t,dg f s=some t->s<r.Next+16)(F:40<fu):
 ∃k e,df (yg r f) fu (q+1,(⟨q,[]⟩:To))=some (.inl (k,(⟨q,e⟩:To)))/\e.Pairwise iB/\nU (dg f) (q+1) e/\e.length<=16:=by
 have n:aq (r.Next+16)=r.Next+16:=bO O O;have m:cV (df (yg r f) fu (q+1,(⟨q,[]⟩:To))) λo=>∃k e,o=.inl (k,(⟨q,e⟩:To))/\e.Pairwise iB/\nU (dg f) (q+1) e/\e.length<=16:=by
  refine pM (λz=>∃k e,z=(k,(⟨q,e⟩:To))/\q+1<=k/\k<=q+17/\e.Pairwise iB/\(∀s t,(⟨s,t⟩:aP)∈e↔q+1<=s/\s<k/\dg f s=some t)/\(e.length:Int)<=k-(q+1)) (λz=>(r.Next+20-z.1).toNat)
   ⟨q+1,[],X,jY _,by omega,.nil,λs t=>by simp;omega,by simp⟩ (by simp only;omega) ?_
  rintro _ ⟨k,e,rfl,i,p,g,h,C⟩;unfold yg;simp only[n];rw[nD];refine⟨λc=>?_,λc=>?_⟩
  .have c:k<r.Next+16:=by simpa using c
   have wk:aq (k+1)=k+1:=bO O O
   cases j:dg f k with
   |none=>
    simp only[Option.isSome_none,aW];rw[wk,fa];refine oH.2 ⟨⟨k+1,e,X,by omega,by omega,g,λs t=>?_,by omega⟩,by simp only;omega⟩;rw[h s t];constructor
    .rintro⟨a,b,d⟩;exact⟨a,by omega,d⟩
    .rintro⟨a,b,d⟩;have:s≠k:=λe=>by subst e;rw[j]at d;cases d
     exact⟨a,by omega,d⟩
   |some B=>
    simp only[Option.isSome_some,bM,f7];rw[eu (by simp;omega),aj,wk,fa];refine oH.2 ⟨⟨k+1,e++[⟨k,B⟩],X,by omega,by omega,?_,λs t=>?_,by simp;omega⟩,by simp only;omega⟩
    .rw[E0];refine⟨g,by simp,λa x b y=>?_⟩;rw[iq.1 y];have:=((h a.ao a.aM).1 x).2.1;exact this
    .rw[e9,iq,h s t];constructor
     .rintro(⟨a,b,d⟩|d)
      .exact⟨a,by omega,d⟩
      .cases d;exact⟨i,by omega,j⟩
     .rintro⟨a,b,d⟩;by_cases e:s=k
      .subst e;rw[j]at d;right;rw[dF d]
      .exact .inl ⟨a,by omega,d⟩
  .have c:¬k<r.Next+16:=by simpa using c
   rw[fa];refine nC.2 ⟨k,e,X,g,λs t=>?_,by omega⟩;rw[h s t];constructor
   .rintro⟨a,_,b⟩;exact⟨a,b⟩
   .rintro⟨a,b⟩;exact⟨a,by have:=A s t b;omega,b⟩
 obtain⟨o,e,k,l,rfl,i,p,g⟩:=m;exact⟨k,l,e,i,p,g⟩
theorem WI{r:To}{p:aP}{fu:Nat}(pi:200<fu)(h:lR r)(hp:0<=p.ao/\p.ao<=16777214)(ht:p.aM.length<=200):
 ∃o ts,mF fu r p=some (o,ts,0)/\tn fu r p=some (o,ts)/\wz r p o ts:=by
 have hN:0<=r.Next/\r.Next<=1000000000:=by have:=h.lo;have:=h.hi;omega
 have S7:=h.hi;have w16:aq (r.Next+16)=r.Next+16:=bO O O;have A:=h.len;obtain⟨m,em,H⟩:=RH h.inc;obtain⟨k,b,eb,hk,TU,TV,hb⟩:=Ki (t:=p.ao) (fu:=fu) h.inc O (λx l=>by have:=h.fE x l;omega) O O;have n:∀s t,dg m s=some t->r.Next<s/\s<=r.Next+15:=λs t q=>h.fE _ ((H s t).1 q);have d:(dg m p.ao).isSome=b:=by
  rw[eZ,hb];constructor
  .intro q;obtain⟨t,e⟩:=uJ.1 q;exact⟨_,(H _ _).1 e,X⟩
  .rintro⟨x,l,q⟩;have:=(H x.ao x.aM).2 l;rw[q]at this;rw[this];rfl
 have T:∀f:List (Int×Y),(∀s t,dg f s=some t->r.Next<=s/\s<r.Next+16)->∃(q:Nat)(e:List aP),q<=16/\(andThen (df (rm f) fu (({To.zero with Next:=r.Next}:To),([]:List Y))) λ(V,VE)=>
  andThen (df (yg r f) fu (aq (V.Next+(1:Int)),({V with bg:=([]:List aP)}:To))) λ(_,y75)=>some (y75,VE))=some ((⟨r.Next+q,e⟩:To),tl (dg f) r.Next q)/\
  (∀j:Nat,j<q->(dg f (r.Next+j)).isSome=true)/\dg f (r.Next+q)=none/\e.Pairwise iB/\nU (dg f) (r.Next+q+1) e/\e.length<=16:=λf hf=>by
  obtain⟨q,q1,q2,q3,q4⟩:=ZE (f:=f) (fu:=fu) hN (λs t x=>(hf s t x).2) O;obtain⟨k',e,p1,p2,p3,p4⟩:=ZD (r:=r) (f:=f) (q:=r.Next+q) (fu:=fu) hN O (λs t x=>(hf s t x).2) O;refine⟨q,e,q1,?_,q3,q4,p2,p3,p4⟩;have W9:df (rm f) fu (({To.zero with Next:=r.Next}:To),([]:List Y))=some (.inl ((⟨r.Next+q,[]⟩:To),tl (dg f) r.Next q)):=q2;rw[W9,kX];simp only;rw[bO (show-9223372036854775808<=r.Next+(q:Int)+1 by omega) O,p1,kX]
 unfold mF tn;rw[Gq h,aj];simp only[kC,aW];rw[xG,aj,dA (show p.ao>=0 by omega),dA (show p.ao<=16777214 by omega)];unfold oz;simp only[jG,ii,aW,aj];rw[cJ (show ¬(p.aM.length:Int)>200 by omega),aW,Ar O,aj];simp only[Let];rw[eb,aj,or_some,aj,or_some,aj,w16,em,aj,ls,aj,ls,aj,d];by_cases C:r.Next<=p.ao/\p.ao<r.Next+16/\b=false
 .obtain⟨i1,i2,rfl⟩:=C;rw[cJ (show ¬p.ao<r.Next by omega),cJ (show ¬p.ao>=r.Next+16 by omega),dA (show p.ao>=r.Next by omega),dA (show p.ao<r.Next+16 by omega)];simp only[qT,uO,jG,bM,aW,aj];have g:∀s t,dg (iL m p.ao p.aM) s=some t↔(⟨s,t⟩:aP)∈r.bg\/(⟨s,t⟩:aP)=p:=λs t=>by
   have og:∀t,(⟨p.ao,t⟩:aP) ∉ r.bg:=λt q=>by have:=(H _ _).2 q;rw[this]at d;cases d
   rw[xJ];by_cases e:s=p.ao
   .subst e;rw[ce X];constructor
    .intro q;right;rw[<-dF q]
    .rintro(q|q)
     .exact absurd q (og t)
     .rw[<-q]
   .rw[ck e,H s t];constructor
    .exact .inl
    .rintro(q|q)
     .exact q
     .rw[<-q]at e;exact absurd X e
  obtain⟨q,e,hq,W,Q,r2,S,K,r5⟩:=T (iL m p.ao p.aM) (λs t x=>by
   rcases(g s t).1 x with x|x
   .have:=h.fE _ x;simp only at this;omega
   .rw[<-x]at i1 i2;exact⟨i1,i2⟩)
  have B:∀o ts,o=(⟨r.Next+q,e⟩:To)->ts=tl (dg (iL m p.ao p.aM)) r.Next q->wz r p o ts:=by
   rintro o ts rfl rfl;refine⟨by rw[rz],S,λx l=>?_,λx l=>?_,r5,λi t hi=>?_⟩
   .have pn:=(K x.ao x.aM).1 l;have P:=(g _ _).1 pn.2;refine⟨by simp only;omega,?_,P⟩;rcases P with y|y
    .have:=h.fE _ y;simp only at this;omega
    .rw[<-y]at i2;simp only at i2;omega
   .rcases(g _ _).1 ((K x.ao x.aM).1 l).2 with y|y
    .exact h.jz _ y
    .rw[<-y]at ht;exact ht
   .exact(g _ _).1 (MA hi Q)
  by_cases c:p.ao>r.Next
  .rw[dA c,bM];have ei:tE r.bg (k:Int) [p]=some (r.bg.take k++[p]++r.bg.drop k):=by
    unfold tE;have ec:∃x,co r.bg (k:Int) (r.bg.length:Int)=some x:=⟨_,by unfold co;rw[ce O]⟩
    obtain⟨x,ec⟩:=ec;rw[ec,aj,eu (by simp;omega),aj,de]
   obtain⟨n1,n2⟩:=J7 (p:=p) h.inc hk TU (λj x hj l=>by
    have:=TV j x hj l;have mt:x.ao≠p.ao:=λe=>by have:=hb.2 ⟨x,dj l,e⟩;cases this
    omega)
   have F:q=0:=by
    refine D5 Q r2 (k':=0) (λj hj=>by omega) ?_
    cases e:dg (iL m p.ao p.aM) (r.Next+((0:Nat):Int))with
    |none=>rfl
    |some t=>
     rcases(g _ _).1 e with y|y
     .have:=h.fE _ y;simp only at this;omega
     .rw[<-y]at c;simp at c
   subst F;have L:e=r.bg.take k++[p]++r.bg.drop k:=AS S n1 λs t=>by
    rw[K s t,n2,g s t];constructor
    .exact λx=>x.2
    .intro x;refine⟨?_,x⟩;rcases x with y|y
     .have:=h.fE _ y;simp only at this;push_cast;omega
     .rw[<-y]at c;simp only at c;push_cast;omega
   rw[ei,aj];refine⟨⟨r.Next,e⟩,[],?_,?_,B _ _ (by simp) (by simp[tl])⟩
   .rw[L]
   .refine W.trans ?_;simp[tl]
  .have D:p.ao=r.Next:=by omega
   rw[cJ c,aW,bO (show-9223372036854775808<=r.Next+1 by omega) O];have M:dg (iL m p.ao p.aM) r.Next=some p.aM:=by rw[xJ,ce D.symm]
   obtain⟨q',E',c1,c2,c3,c4,c5,c6,c7,c8⟩:=IJ (f:=dg (iL m p.ao p.aM)) (N:=r.Next) (E:=r.bg) (fu:=fu) hN h.inc (λs t=>by
    rw[g s t];constructor
    .intro x;have:=h.fE _ x;simp only at this;exact⟨by omega,.inl x⟩
    .rintro⟨a,x|x⟩
     .exact x
     .rw[<-x]at D;simp only at D;omega) A (by rw[M];rfl) O
   have e1:tl (dg (iL m p.ao p.aM)) r.Next 1=[p.aM]:=by simp[tl,M]
   rw[e1]at c1;obtain rfl:q'=q:=D5 c2 c3 Q r2;have L:E'=e:=AS c4 S λs t=>by
    rw[c5 s t,K s t];constructor
    .rintro⟨a,x⟩;have:s≠r.Next+q':=λy=>by rw[y,c3]at x;cases x
     exact⟨by omega,x⟩
    .rintro⟨a,x⟩;exact⟨by omega,x⟩
   subst L;have RK:df q9 fu (({To.zero with Next:=r.Next+1,bg:=r.bg}:To),([p.aM]:List Y),r.bg)=some (.inl ((⟨r.Next+q',E'⟩:To),tl (dg (iL m p.ao p.aM)) r.Next q',E')):=c1;rw[RK,kX];simp only;rw[Ar O,aj];exact⟨_,_,X,W,B _ _ X X⟩
 .have e1:((decide (p.ao<r.Next)||decide (p.ao>=r.Next+16))||b)=true:=by
   cases b
   .simp only[Bool.or_false,py,gL];have:¬(r.Next<=p.ao/\p.ao<r.Next+16):=λx=>C ⟨x.1,x.2,X⟩;omega
   .simp
  have e2:((!b&&decide (p.ao>=r.Next))&&decide (p.ao<r.Next+16))=false:=by
   cases b
   .rw[uN];simp only[uO,l7,ne_eq,eJ,gL];exact λx=>C ⟨by omega,by omega,X⟩
   .simp
  rw[e1,bM,e2,aW,aj];obtain⟨q,e,hq,W,Q,r2,S,K,r5⟩:=T m (λs t x=>by have:=n s t x;omega);have F:q=0:=by
   refine D5 Q r2 (k':=0) (λj hj=>by omega) ?_
   cases e:dg m (r.Next+((0:Nat):Int))with
   |none=>rfl
   |some t=>have:=n _ _ e;omega
  subst F;have L:e=r.bg:=AS S h.inc λs t=>by
   rw[K s t,<-H s t];constructor
   .exact λx=>x.2
   .intro x;have:=n _ _ x;exact⟨by push_cast;omega,x⟩
  subst L;refine⟨⟨r.Next,r.bg⟩,[],X,W.trans (by simp[tl]),⟨by simp,h.inc,λx l=>?_,h.jz,A,λi t hi=>by simp at hi⟩⟩;have:=h.fE x l;exact⟨this.1,by omega,.inl l⟩
def iX:Nat->Nat->Nat
 |0,_=>0
 |f+1,m=>m%2+iX f (m/2)
theorem KV:∀(a b m:Nat),iX (a+b) m=iX a (m%2^a)+iX b (m/2^a)
 |0,b,m=>by simp[iX]
 |a+1,b,m=>by
  rw[show a+1+b=(a+b)+1 by omega];show m%2+iX (a+b) (m/2)=(m%2^(a+1))%2+iX a (m%2^(a+1)/2)+iX b (m/2^(a+1));rw[KV a b (m/2)];have d:m%2^(a+1)%2=m%2:=by rw[uI,Nat.mul_comm,Nat.mod_mul_right_mod]
  have e:m%2^(a+1)/2=m/2%2^a:=by rw[uI,Nat.mul_comm,Nat.mod_mul_right_div_self]
  have f:m/2/2^a=m/2^(a+1):=by rw[pq,uI,Nat.mul_comm]
  rw[d,e,f];omega
theorem KW:∀(a m:Nat),iX a m<=a
 |0,_=>dO _
 |a+1,m=>by have:=KW a (m/2);show m%2+iX a (m/2)<=a+1;omega
def pc(x:BitVec 16):Nat:=iX 16 x.toNat
theorem W1(x:BitVec 16):pc x<=16:=KW _ _
theorem Wt{a:Y}(e:(List.range 256).all (λk=>match a[k]? with
 |none=>false
 |some v=>decide (v.toNat=iX 8 k))=true){k:Nat}(d:k<256):∃v:UInt8,bf a (k:Int)=some v/\v.toNat=iX 8 k:=by
 have:=mD.1 e k (xy.2 d);rw[cY]
 cases h:a[k]? with
 |none=>rw[h]at this;cases this
 |some v=>rw[h]at this;exact⟨v,X,by simpa using this⟩
theorem aae{fu:Nat}(j:2^16<fu)(x:BitVec 16):tr fu x=some (pc x:Int):=by
 refine cV.eq ?_;unfold tr;rw[xT];have m:=x.isLt;refine pM (λz:(BitVec 16)×Int=>∃f:Nat,f<=16/\z.1.toNat<2^f/\z.2+iX f z.1.toNat=pc x/\0<=z.2) (λz=>z.1.toNat) ⟨16,by omega,m,by unfold pc;simp,by simp only;omega⟩ (by simp only;omega) ?_;rintro⟨y,n⟩ ⟨f,s,e,a,i⟩;simp only at e a i;unfold BL;simp only;rw[nD];refine⟨λk=>?_,λk=>?_⟩
 .have k:0<y.toNat:=by have:=om k;simp at this;omega
  obtain⟨f,rfl⟩:∃g,f=g+1:=⟨f-1,by
   rcases pr f with rfl|q
   .simp at e;omega
   .omega⟩
  have d:(y/(2:BitVec 16)).toNat=y.toNat/2:=by rw[ko];rfl
  have h:(y%(2:BitVec 16)).toNat=y.toNat%2:=by rw[iJ];rfl
  have hp:iX (f+1) y.toNat=y.toNat%2+iX f (y.toNat/2):=X;have l:=W1 x;rw[fa,h,bO O O];refine⟨⟨f,by omega,?_,?_,by simp only;omega⟩,?_⟩
  .simp only[d];rw[uI]at e;omega
  .simp only[d];rw[hp]at a;push_cast at a ⊢;omega
  .simp only[d];omega
 .have k:y.toNat=0:=by have:=E7 k;simp at this;omega
  rw[fa];show cV (some n) _;rw[fa];rw[k]at a;have o:∀f,iX f 0=0:=by
   intro f
   induction f with
   |zero=>rfl
   |succ f p=>show 0%2+iX f (0/2)=0;simpa using p
  rw[o]at a;omega
theorem W0{m:Nat}(h:m<256):iX 16 m=iX 8 m:=by have:=KV 8 8 m;rw[show m/2^8=0 by omega,sL O]at this;rw[this];simp[iX]
def ya(x:BitVec 8):Nat:=iX 8 x.toNat
theorem Mk{fu:Nat}(a:2^16<fu)(x:BitVec 8):tr fu (BitVec.ofInt 16 (x.toNat:Int))=some (ya x:Int):=by
 rw[aae a];have d:=x.isLt;congr 2;unfold pc ya;have:(BitVec.ofInt 16 (x.toNat:Int)).toNat=x.toNat:=by rw[lG];omega
 rw[this,W0 O]
theorem IM(x:BitVec 8):rb x=some (ya x:Int):=by unfold rb;obtain⟨v,a,d⟩:=Wt (by kernel_rfl) (k:=x.toNat) (by have:=x.isLt;omega);rw[a,aj];congr 2
def RV{α:Type}(d:α)(f:bm->α)(ps:List bm):Vector α 6:=Vector.ofFn λi:Fin 6=>match ps[i.val]? with|some x=>f x|none=>d
theorem RV.get{α:Type}{d:α}{f:bm->α}{ps:List bm}{i:Nat}{x:bm}(hi:i<6)(a:ps[i]?=some x):dI (RV d f ps) (i:Int)=some (f x):=by rw[Cp _ hi];simp[RV,a]
theorem RV.set{α:Type}{d:α}{f:bm->α}{ps:List bm}{i:Nat}{v:α}{y:bm}(hi:i<ps.length)(g:v=f y):(RV d f ps).setIfInBounds i v=RV d f (ps.set i y):=by
 apply uK;intro j a;by_cases c:j=i
 .subst c;simp[RV,hi,g]
 .rw[Vector.getElem_setIfInBounds_ne a (λe=>c e.symm)];simp only[RV,A5];rw[jI (λe=>c e.symm)]
theorem RV.same{α:Type}{d:α}{f:bm->α}{ps:List bm}{i:Nat}{x y:bm}(a:ps[i]?=some x)(h:f y=f x):RV d f (ps.set i y)=RV d f ps:=by
 have hi:=(ed a).1;apply uK;intro j g;simp only[RV,A5];by_cases c:j=i
 .subst c;rw[ir hi,a];exact h
 .rw[jI (λe=>c e.symm)]
def AW.r(a:AW)(g:List (Int×Int)):bj:=⟨a.ps.length,a.aD,g,RV [] (·.bd) a.ps,RV To.zero (·.to) a.ps,RV aw.zero (·.au) a.ps,RV To.zero (·.bw) a.ps,a.ord.map (·.2.2),a.ord.map (λm=>(⟨m.1,m.2.1⟩:Mark)),a.ah⟩
theorem kO{a b:AW}{g:List (Int×Int)}(h:b.ord=a.ord):({b.r g with aN:=g,order:=a.ord.map (·.2.2),be:=a.ord.map (λm=>(⟨m.1,m.2.1⟩:Mark)),bb:=b.ah}:bj)=b.r g:=by unfold AW.r;simp only;rw[h]
def ga(g:List (Int×Int))(a:AW):Prop:=∀(i:Nat)x,a.ps[i]?=some x->(((dg g (i:Int)).getD (0:Int))==(0:Int))=!x.ea
def Mb(a:AW):Prop:=a.aD.bx.toNat<2^a.ps.length
theorem Rj(x:BitVec 8):x%2=x&&&1:=by apply sM;rw[iJ,A7];show x.toNat%2=x.toNat&&&1;rw[E5]
theorem Kb(m:BitVec 8)(i:Nat):((((m>>>i)%(2:BitVec 8)).toNat:Int)==((1:BitVec 8).toNat:Int))=eR m i:=by rw[Rj];rfl
theorem Kc{m:BitVec 8}{n i:Nat}(h:m.toNat<2^n)(hi:n<=i):eR m i=false:=by
 unfold eR;have:m>>>i=0:=by apply sM;rw[oq,oi];have a:2^n<=2^i:=uH O hi;rw[Nat.div_eq_of_lt O];rfl
 rw[this];rfl
theorem xe{a:AW}{g:List (Int×Int)}(k:Mb a)(h:ga g a)(i:Nat):nI (a.r g) (i:Int)=some (act a (i:Int)):=by
 unfold nI;rw[qv,aj,show(a.r g).V=a.aD from X,Kb,show(a.r g).aN=g from X];by_cases hi:i<a.ps.length
 .have f:a.ps[i]?=some a.ps[i]:=by simp[hi]
  have d:dq a (i:Int)=true:=fP.2 ⟨i,X,hi⟩;unfold act;rw[d,de,f,h i _ f];cases eR a.aD.bx i<;>rfl
 .have d:dq a (i:Int)=false:=by
   rw[uN];intro q;obtain⟨j,e,l⟩:=fP.1 q;omega
  unfold act;rw[d,Kc k O];rfl
theorem MV{a:AW}{g:List (Int×Int)}(f:Mb a)(e:ga g a)(p:Int):vt (a.r g) p=some (gZ a p):=by
 unfold vt gZ;rw[or_some,aj,show(a.r g).n=(a.ps.length:Int)from X]
 cases d:dq a p with
 |false=>
  have:(decide (p<0)||decide (p>=(a.ps.length:Int)))=true:=by unfold dq at d;simp only[uM,px]at d;simp only[py,gL];omega
  rw[this];rfl
 |true=>obtain⟨i,rfl,hi⟩:=fP.1 d;rw[cJ O,cJ O,xe f e];cases act a (i:Int)<;>rfl
def vP(m:BitVec 8):Int:=bif eR m 0 then 0 else bif eR m 1 then 1 else bif eR m 2 then 2 else bif eR m 3 then 3 else bif eR m 4 then 4 else bif eR m 5 then 5 else 0
theorem aa5:((List.range 64).all λm=>m==0||(match uX (BitVec.ofNat 8 m)with|some x=>x==vP (BitVec.ofNat 8 m)|none=>false))=true:=by kernel_rfl
theorem Mp{v:bh}(l:0<=v.bS/\v.bS<=16777215)(j:v.bx.toNat<64):sq v=vP v.bx:=by
 have g:qb v=some (vP v.bx,0)\/(v.bx=0/\∃e,qb v=some ((0:Int),e)):=by
  unfold qb rA rC;have i:(((v.bx>>>6).toNat:Int)!=((0:BitVec 8).toNat:Int))=false:=by
   have:(v.bx>>>6).toNat=0:=by rw[oq,oi];omega
   rw[this];rfl
  rw[or_some,aj,or_some,aj,i,aj,or_some,aj,cJ O,cJ O];by_cases d:v.bx=0
  .right;rw[d];exact⟨X,_,X⟩
  .left;have f:((v.bx.toNat:Int)==((0:BitVec 8).toNat:Int))=false:=by
    rw[beq_eq_false_iff_ne];intro e;refine d (sM ?_);have:((0:BitVec 8).toNat:Int)=0:=X;show v.bx.toNat=0;omega
   rw[f];have a:=mD.1 aa5 v.bx.toNat (xy.2 j);rw[BitVec.ofNat_toNat]at a;have k:(v.bx.toNat==0)=false:=by rw[beq_eq_false_iff_ne];intro e;exact d (sM e)
   rw[k,Bool.false_or,BitVec.setWidth_eq]at a
   cases h:uX v.bx with
   |none=>rw[h]at a;cases a
   |some x=>
    rw[h]at a;have a:x=vP v.bx:=by simpa using a
    rw[a];rfl
 unfold sq;rcases g with e|⟨d,e,q⟩
 .rw[e];rfl
 .rw[q,d];rfl
theorem Bl{w:bj}(l:0<=w.V.bS/\w.V.bS<=16777215)(k:w.V.bx.toNat<64):rn w=some (sq w.V):=by
 rw[Mp l k];have a:∀i:Nat,yp w i ()=some (bif eR w.V.bx i then .ret (i:Int)else .go ()):=λi=>by unfold yp;rw[qv,aj,Kb];cases eR w.V.bx i<;>rfl
 unfold rn vP
 cases d:eR w.V.bx 0 with
 |true=>unfold dT;rw[a,d];rfl
 |false=>
 cases e:eR w.V.bx 1 with
 |true=>unfold dT;rw[a,d];unfold dT;simp only[aW,aj];rw[a,e];rfl
 |false=>
 cases f:eR w.V.bx 2 with
 |true=>simp[dT,a,d,e,f,andThen]
 |false=>
 cases g:eR w.V.bx 3 with
 |true=>simp[dT,a,d,e,f,g,andThen]
 |false=>
 cases h:eR w.V.bx 4 with
 |true=>simp[dT,a,d,e,f,g,h,andThen]
 |false=>
 cases j:eR w.V.bx 5 with
 |true=>simp[dT,a,d,e,f,g,h,j,andThen]
 |false=>simp[dT,a,d,e,f,g,h,j,andThen]
theorem Mb.lt{a:AW}{B:Nat}(h:GA B a)(e:Mb a):a.aD.bx.toNat<64:=by have d:=h.n.2;have:2^a.ps.length<=2^6:=uH O d;unfold Mb at e;omega
theorem B5{a:AW}{g:List (Int×Int)}{fu:Nat}(d:20<=fu)(m:a.ah.length<=60)(k f t s:Int)(x:Y):
 ro fu (a.r g) ({aK.zero with ba:=k,aw:=f,To:=t,ao:=s,aM:=x}:aK)=some ((dD a k f t s x).ah,(dD a k f t s x).r g):=by
 have e:({({aK.zero with ba:=k,aw:=f,To:=t,ao:=s,aM:=x}:aK)with bh:=(a.r g).V.bS}:aK)=ji a.aD k f t s x:=X;unfold ro;rw[fb,e,show(a.r g).bb=a.ah from X,RP _ d];obtain⟨c,i,l⟩:=Aq (ji a.aD k f t s x);have h:lM (ji a.aD k f t s x)=(c==0):=by unfold lM;rw[i]
 unfold dD;rw[i,h];by_cases j:a.ah.length<60
 .rw[dA (show(a.ah.length:Int)<60 by omega),dA j];simp only[bM,aj,Bool.and_true]
  cases (c==0)with
  |false=>rfl
  |true=>simp only[bM];rw[eu (by simp;omega),aj,fb];rfl
 .rw[cJ (show ¬(a.ah.length:Int)<60 by omega),cJ j,A8];rfl
theorem ZY{B:Nat}{a:AW}{g:List (Int×Int)}{fu:Nat}(q:20<=fu)(h:GA B a)(C:Mb a)(F:ga g a)(p:Int)(t:Y):
 yn fu (a.r g) p t=some ((iN a p t).1.ah,(iN a p t).1.r g,(iN a p t).2):=by
 unfold yn iN;rw[MV C F,aj]
 cases L:(gZ a p !=0)with
 |true=>rfl
 |false=>
  obtain⟨i,x,rfl,e,M⟩:=nO L;have hi:=(ed e).1;have A:i<6:=by have:=h.n.2;omega
  rw[aW,aW];by_cases D:t.length>150
  .rw[dA D,dA (show(t.length:Int)>150 by omega)];rfl
  .rw[cJ D,cJ (show ¬(t.length:Int)>150 by omega),aW,aW,show(a.r g).aJ=RV aw.zero (·.au) a.ps from X,RV.get A e,aj,de,e];have hp:=(h.ps x (dj e)).gf;have P:=hp.base;have T:=hp.late;simp only;rw[show(a.r g).bb=a.ah from X,bO (show-9223372036854775808<=x.au.Base+(x.au.aJ.length:Int) by omega) O,or_some,aj,or_some,aj];have l:((a.ah.length:Int)==60)=decide (a.ah.length=60):=by rw[eZ];simp;omega
   have k:(((x.au.aJ.length:Int)==16)||decide (x.au.Base+(x.au.aJ.length:Int)>=16777215))=jU x.au:=by unfold jU;congr 1;rw[eZ];simp;omega
   rw[Bool.or_assoc,k,l]
   cases Q:decide (a.ah.length=60)with
   |true=>rfl
   |false=>
    cases S:jU x.au with
    |true=>rfl
    |false=>
     simp only[qT,aW];have s:=h.ah.1;rw[As O,aj,eu (by simp;omega),aj,fb];obtain⟨b,d⟩:∃b:AW,b={a with ps:=a.ps.set i {x with au:=⟨x.au.Base,x.au.aJ++[t]⟩}}:=⟨_,X⟩
     have o:b.ps[i]?=some {x with au:=⟨x.au.Base,x.au.aJ++[t]⟩}:=by rw[d];exact ir hi
     have m:(RV aw.zero (·.au) a.ps).setIfInBounds i ({x.au with aJ:=x.au.aJ++([t]:List Y)}:aw)=RV aw.zero (·.au) b.ps:=by rw[d];exact RV.set hi X
     have j:({a.r g with aJ:=RV aw.zero (·.au) b.ps,bb:=a.ah}:bj)=b.r g:=by rw[d];unfold AW.r;simp only[pD];rw[RV.same (f:=(·.bd)) (y:=({x with au:=⟨x.au.Base,x.au.aJ++[t]⟩}:bm)) e X,RV.same (f:=(·.to)) (y:=({x with au:=⟨x.au.Base,x.au.aJ++[t]⟩}:bm)) e X,RV.same (f:=(·.bw)) (y:=({x with au:=⟨x.au.Base,x.au.aJ++[t]⟩}:bm)) e X]
     dsimp only at j;rw[m,j,<-d,Bl (w:=b.r g) (by rw[d];exact h.num) (by rw[d];exact C.lt h),aj,RV.get A o,aj,aj];have K:(b.r g).V=a.aD:=by rw[d];rfl
     have n:b.ah.length<=60:=by rw[d];exact s
     have el:((x.au.aJ++[t]).length:Int)=(x.au.aJ.length:Int)+1:=by simp
     simp only;rw[el,bO (x:=x.au.Base+((x.au.aJ.length:Int)+1)) O O,bO (x:=x.au.Base+((x.au.aJ.length:Int)+1)-1) O O,show x.au.Base+((x.au.aJ.length:Int)+1)-1=x.au.Base+x.au.aJ.length by omega,K,B5 q n,aj];have H:(dD b 1 (i:Int) (sq a.aD) (x.au.Base+x.au.aJ.length) t).ord=a.ord:=by rw[ru,d]
     have:=kO (g:=g) H;simp only;exact congrArg some (f8 X (f8 this X))
theorem Jo{a α:Type}(F:a->α->a):∀(l:List α)(i j:Nat)(b:a),foldI (λb _ q=>F b q) i l b=foldI (λb _ q=>F b q) j l b
 |[],_,_,_=>rfl
 |x::l,i,j,b=>Jo F l (i+1) (j+1) (F b x)
theorem Q7{B:Nat}{a:AW}{g:List (Int×Int)}{fu:Nat}(A:20<=fu)(h:GA B a)(L:Mb a)(W:ga g a)(p:Int):
 yh fu (a.r g) p=some ((jT a p).1.ah,(jT a p).1.r g,(jT a p).2):=by
 unfold yh jT;rw[MV L W,aj]
 cases hw:(gZ a p !=0)with
 |true=>rfl
 |false=>
  obtain⟨i,x,rfl,o,ha⟩:=nO hw;have F:i<6:=by have:=h.n.2;have:=(ed o).1;omega
  have hp:=h.ps x (dj o);have V:=hp.base;have K:=hp.late;rw[aW,aW,show(a.r g).aJ=RV aw.zero (·.au) a.ps from X,RV.get F o,aj,de,o];simp only
  have P:∀(k j:Nat)(b:AW),j+k=x.au.aJ.length->hQ a b->GA B b->∃c,bE (pW fu (a.r g) (i:Int) x.au) k j (b.r g,b.ah)=some (c.r g,c.ah)/\hQ a c/\GA B c/\
   c=foldI (λb _(q:aP)=>dD b 1 (i:Int) (sq a.aD) q.ao q.aM) 0 (ix x.au.Base j (x.au.aJ.drop j)) b:=by
   intro k
   induction k with
   |zero=>intro j b hk l e;refine⟨b,X,l,e,?_⟩;rw[kp O];rfl
   |succ k T=>
    intro j b hk l e;have S:j<x.au.aJ.length:=by omega
    have C:x.au.aJ[j]?=some x.au.aJ[j]:=by simp[S]
    rw[jd S];have m:=dj C;generalize x.au.aJ[j]=t at C m;have d:({b.r g with aN:=(a.r g).aN,order:=(a.r g).order,be:=(a.r g).be,bb:=b.ah}:bj)=b.r g:=kO (g:=g) l.ord;dsimp only at d;by_cases Q:j<4
    .obtain⟨c,s,f,y,n⟩:=T (j+1) (dD b 1 (i:Int) (sq a.aD) (x.au.Base+(j:Int)) t) O (l.send ..) (e.send (λ_=>K.2 t m) (λq=>absurd q ab));refine⟨c,?_,f,y,?_⟩
     .have H:pW fu (a.r g) (i:Int) x.au j (b.r g,b.ah)=some ((dD b 1 (i:Int) (sq a.aD) (x.au.Base+(j:Int)) t).r g,(dD b 1 (i:Int) (sq a.aD) (x.au.Base+(j:Int)) t).ah):=by
       unfold pW;simp only
       rw[cY,C,aj,dA (show(j:Int)<4 by omega),bM,d,Bl (w:=b.r g) (by show 0<=b.aD.bS/\b.aD.bS<=16777215;rw[l.aD];exact h.num) (by show b.aD.bx.toNat<64;rw[l.aD];exact L.lt h),aj,
        show(b.r g).aJ=RV aw.zero (·.au) b.ps from X,RV.get F (show b.ps[i]?=some x by rw[l.ps];exact o),aj,bO O O,show(b.r g).V=a.aD from l.aD,B5 A e.ah.1,aj]
       simp only;have M:(dD b 1 (i:Int) (sq a.aD) (x.au.Base+(j:Int)) t).ord=a.ord:=by rw[ru,l.ord]
       exact congrArg some (f8 (kO (g:=g) M) X)
      unfold bE;rw[H,aj];exact s
     .rw[n]
      conv=>rhs;unfold ix
      rw[ce Q];exact Jo (λ(b:AW)(q:aP)=>dD b 1 (i:Int) (sq a.aD) q.ao q.aM) _ 0 1 _
    .obtain⟨c,s,f,y,n⟩:=T (j+1) b O l e;refine⟨c,?_,f,y,?_⟩
     .have H:pW fu (a.r g) (i:Int) x.au j (b.r g,b.ah)=some (b.r g,b.ah):=by
       unfold pW;simp only;rw[cY,C,aj,cJ (show ¬(j:Int)<4 by omega),aW,d]
      unfold bE;rw[H,aj];exact s
     .rw[n]
      conv=>rhs;unfold ix
      rw[ck Q]
  obtain⟨c,s,f,y,n⟩:=P x.au.aJ.length 0 a O ⟨X,X,X⟩ h;have D:bE (pW fu (a.r g) (i:Int) x.au) x.au.aJ.length 0 (a.r g,(a.r g).bb)=some (c.r g,c.ah):=s;rw[eT]at n;rw[D,aj,<-n];have d:({c.r g with aN:=(a.r g).aN,order:=(a.r g).order,be:=(a.r g).be,bb:=c.ah}:bj)=c.r g:=kO (g:=g) f.ord;dsimp only at d;simp only
  rw[d,Bl (w:=c.r g) (by show 0<=c.aD.bS/\c.aD.bS<=16777215;rw[f.aD];exact h.num) (by show c.aD.bx.toNat<64;rw[f.aD];exact L.lt h),aj,
   show(c.r g).dK=RV To.zero (·.to) c.ps from X,RV.get F (show c.ps[i]?=some x by rw[f.ps];exact o),aj,show(c.r g).V=a.aD from f.aD]
  have es:({aK.zero with ba:=(3:Int),aw:=(i:Int),To:=sq a.aD,ao:=x.to.Next}:aK)=({aK.zero with ba:=(3:Int),aw:=(i:Int),To:=sq a.aD,ao:=x.to.Next,aM:=([]:Y)}:aK):=X;rw[es,B5 A y.ah.1,aj];have M:(dD c 3 (i:Int) (sq a.aD) x.to.Next []).ord=a.ord:=by rw[ru,f.ord]
  exact congrArg some (f8 X (f8 (kO (g:=g) M) X))
theorem Ss{B:Nat}{a:AW}{g:List (Int×Int)}(h:GA B a)(m:ga g a)(p:Int):
 ∃g',yk (a.r g) p=some (g',(gB a p).1.r g',(gB a p).2)/\ga g' (gB a p).1:=by
 unfold yk gB;rw[or_some,aj,show(a.r g).n=(a.ps.length:Int)from X]
 cases l:dq a p with
 |false=>
  have:(decide (p<0)||decide (p>=(a.ps.length:Int)))=true:=by unfold dq at l;simp only[uM,px]at l;simp only[py,gL];omega
  rw[this];exact⟨g,X,m⟩
 |true=>
  obtain⟨i,rfl,hi⟩:=fP.1 l;have k:a.ps[i]?=some a.ps[i]:=by simp[hi]
  generalize a.ps[i]=x at k;rw[cJ O,cJ O,de,k];simp only[qT,aW,ii,fb];refine⟨iL g (i:Int) 1,?_,?_⟩
  .have:({a.r g with aN:=iL g (i:Int) 1}:bj)=({a with ps:=a.ps.set i {x with ea:=true}}:AW).r (iL g (i:Int) 1):=by
    unfold AW.r;simp only[pD];rw[RV.same (f:=(·.bd)) (y:=({x with ea:=true}:bm)) k X,RV.same (f:=(·.to)) (y:=({x with ea:=true}:bm)) k X,RV.same (f:=(·.au)) (y:=({x with ea:=true}:bm)) k X,RV.same (f:=(·.bw)) (y:=({x with ea:=true}:bm)) k X]
   exact congrArg some (f8 X (f8 this X))
  .intro j y n;have d:(a.ps.set i {x with ea:=true})[j]?=some y:=n;rw[xJ];by_cases c:j=i
   .subst c;rw[ir hi]at d;rw[ce X,<-dF d];rfl
   .rw[jI (λe=>c e.symm)]at d;rw[ck O];exact m j y d
theorem KN{r:To}{p:aP}{fu:Nat}(a:200<fu)(h:lR r)(hp:0<=p.ao/\p.ao<=16777214)(f:p.aM.length<=200):tn fu r p=some (iY fu r p):=by obtain⟨o,ts,d,e,_⟩:=WI a h hp f;rw[e];unfold iY;rw[d]
theorem ga.ps{g:List (Int×Int)}{a b:AW}(h:ga g a)(hp:b.ps=a.ps):ga g b:=λi x d=>h i x (by rw[<-hp];exact d)
theorem ga.set{g:List (Int×Int)}{a:AW}(h:ga g a){i:Nat}{x y:bm}(f:a.ps[i]?=some x)(k:y.ea=x.ea):ga g {a with ps:=a.ps.set i y}:=λj z l=>by
 have hi:=(ed f).1;have d:(a.ps.set i y)[j]?=some z:=l;by_cases c:j=i
 .subst c;rw[ir hi]at d;rw[<-dF d,k];exact h j x f
 .rw[jI (λe=>c e.symm)]at d;exact h j z d
theorem Mb.same{a b:AW}(h:Mb a)(e:b.aD=a.aD)(d:b.ps.length=a.ps.length):Mb b:=by unfold Mb;rw[e,d];exact h
theorem My{B:Nat}{a:AW}{g:List (Int×Int)}{fu:Nat}(d:20<=fu)(h:GA B a)(q:Mb a)(p:Int){k:Nat}{m:Int×Int×Y}(f:a.ord[k]?=some m)(e:G3 m):
 vr fu (a.r g) p (k:Int)=some ((dD a 2 (sq a.aD) p (k:Int) (cU m)).ah,(dD a 2 (sq a.aD) p (k:Int) (cU m)).r g):=by
 obtain⟨n,o,y⟩:=e;obtain⟨t,_,A,_⟩:=qN n.1 (show m.1<1000000000 by omega);obtain⟨x,_,C,_⟩:=qN o.1 (show m.2.1<1000000000 by omega);have i:(a.r g).be[k]?=some ⟨m.1,m.2.1⟩:=by show(a.ord.map _)[k]?=_;rw[kD,f];rfl
 have j:(a.r g).order[k]?=some m.2.2:=by show(a.ord.map _)[k]?=_;rw[kD,f];rfl
 unfold vr;rw[Bl (w:=a.r g) h.num (q.lt h),aj,cY,i,aj];simp only
 rw[t,aj,eu (by simp;omega),aj,aj,x,aj,eu (by simp only[cr,bN,bV];omega),aj,
  eu (by simp only[cr,bN,bV];omega),aj,cY,j,aj,eu (by simp only[cr,bN,bV];omega),aj]
 have es:=B5 (g:=g) d h.ah.1 2 (sq a.aD) p (k:Int) (cU m);have s:(a.r g).V=a.aD:=X;have l:(((ig m.1++([58]:Y))++ig m.2.1)++([58]:Y))++m.2.2=cU m:=X;rw[s,l,es,aj];exact congrArg some (f8 X (kO (g:=g) (ru ..)))
theorem Ww{B:Nat}{a b:AW}{g:List (Int×Int)}{fu:Nat}{n:aK}{x9:To}{l:List Y}{j:Nat}{t:Y}(T:20<=fu)(h:GA B b)(hB:B<=2^35)(hm:Mb b)(hgo:ga g b)(hl:l[j]?=some t)(P:G3 (n.aw,x9.Next+(j:Int),t)):
 tq fu (a.r g) n x9 l j (b.r g,b.ord.map (·.2.2),b.ord.map (λm=>(⟨m.1,m.2.1⟩:Mark)),b.ah)=some ((fp b n.aw (x9.Next+(j:Int)) t).r g,(fp b n.aw (x9.Next+(j:Int)) t).ord.map (·.2.2),(fp b n.aw (x9.Next+(j:Int)) t).ord.map (λm=>(⟨m.1,m.2.1⟩:Mark)),(fp b n.aw (x9.Next+(j:Int)) t).ah):=by
 have g2:=P.2.1;simp only at g2;have ho:=h.ord.1;have hn:=h.n;obtain⟨f,k⟩:∃f:AW,f={b with ord:=b.ord++[(n.aw,x9.Next+(j:Int),t)]}:=⟨_,X⟩
 have p:f.ord=b.ord++[(n.aw,x9.Next+(j:Int),t)]:=by rw[k]
 have hw:aq (x9.Next+(j:Int))=x9.Next+(j:Int):=bO O O;have V:GA (B+1) f:=by
  rw[k];refine⟨h.n,λx hx=>(h.ps x hx).mono O,⟨?_,λm hm=>?_⟩,h.ah,h.num⟩
  .simp only[cr,bN,bV];omega
  .rcases e9.1 hm with e|e
   .exact h.ord.2 m e
   .rw[iq.1 e];exact P
 have M:b.ord.map (·.2.2)++([t]:List Y)=f.ord.map (·.2.2):=by rw[p,kG];rfl
 have ek:b.ord.map (λm=>(⟨m.1,m.2.1⟩:Mark))++([({Mark.zero with au:=n.aw,seq:=x9.Next+(j:Int)}:Mark)]:List Mark)=f.ord.map (λm=>(⟨m.1,m.2.1⟩:Mark)):=by rw[p,kG];rfl
 unfold tq;simp only;rw[cY,hl,aj,eu (by simp;omega),aj,hw,eu (by simp;omega),aj,fb];simp only;have AO:lj (b.r g).n=some b.ps.length:=by rw[show(b.r g).n=(b.ps.length:Int)from X,zb O,de]
 rw[AO,aj,ek];have L:({b.r g with aN:=(a.r g).aN,order:=b.ord.map (·.2.2)++([t]:List Y),be:=f.ord.map (λm=>(⟨m.1,m.2.1⟩:Mark)),bb:=b.ah}:bj)=f.r g:=by rw[M,k];rfl
 dsimp only at L;rw[L]
 obtain⟨Q,A⟩:=mR (body:=vp fu (a.r g) (b.ord.map (·.2.2)) t (f.ord.map (λm=>(⟨m.1,m.2.1⟩:Mark)))) (λc:AW=>(c.r g,c.ah))
  (λ(c:AW)i(_:bm)=>bif act c (i:Int)then dD c 2 (sq b.aD) (i:Int) (b.ord.length:Int) (cU (n.aw,x9.Next+(j:Int),t))else c) (λ_ c=>hQ f c/\GA (B+1) c) (l:=b.ps) (λi y c _ hc=>by
   obtain⟨o,q⟩:=hc;have D:c.aD=b.aD:=by rw[o.aD,k]
   have C:c.ps=b.ps:=by rw[o.ps,k]
   have F:({c.r g with aN:=(a.r g).aN,order:=b.ord.map (·.2.2)++([t]:List Y),be:=f.ord.map (λm=>(⟨m.1,m.2.1⟩:Mark)),bb:=c.ah}:bj)=c.r g:=by rw[M];exact kO (g:=g) o.ord
   dsimp only at F;have K:Mb c:=hm.same D (by rw[C]);have W:ga g c:=hgo.ps C;unfold vp;simp only;rw[F,xe K W,aj]
   cases hac:act c (i:Int)with
   |false=>exact⟨X,o,q⟩
   |true=>
    have Ub:((b.ord.map (·.2.2)++([t]:List Y)).length:Int)=(b.ord.length:Int)+1:=by simp
    have UK:aq (((b.ord.map (·.2.2)++([t]:List Y)).length:Int)-1)=(b.ord.length:Int):=by rw[Ub,bO O O];omega
    have S:c.ord[b.ord.length]?=some (n.aw,x9.Next+(j:Int),t):=by rw[o.ord,p];simp
    rw[bM,bM,UK,My T q K (i:Int) S P,aj,D];have H:=o.send 2 (sq b.aD) (i:Int) (b.ord.length:Int) (cU (n.aw,x9.Next+(j:Int),t));refine⟨?_,H,q.send (λe=>absurd e ab) (λ_=>⟨_,P,X⟩)⟩;have:=kO (g:=g) H.ord;rw[<-M]at this
    exact congrArg some (f8 this X)) b.ps.length 0 f O ⟨⟨X,X,X⟩,V⟩
 rw[eT]at Q A;have s:foldI (λ(c:AW)i(_:bm)=>bif act c (i:Int)then dD c 2 (sq b.aD) (i:Int) (b.ord.length:Int) (cU (n.aw,x9.Next+(j:Int),t))else c) 0 b.ps f=fp b n.aw (x9.Next+(j:Int)) t:=by rw[k];rfl
 rw[s]at Q A;generalize fp b n.aw (x9.Next+(j:Int)) t=d at Q A;have xA:bE (vp fu (a.r g) (b.ord.map (·.2.2)) t (f.ord.map (λm=>(⟨m.1,m.2.1⟩:Mark)))) b.ps.length 0 (f.r g,b.ah)=some (d.r g,d.ah):=by
  have:f.ah=b.ah:=by rw[k]
  rw[<-this];exact Q
 rw[xA,aj];simp only;have hd:=kO (g:=g) A.1.ord;dsimp only at hd;rw[M,<-A.1.ord];rw[<-A.1.ord]at hd;exact congrArg some (f8 hd X)
theorem Wy{B fu:Nat}{a:AW}{g:List (Int×Int)}{n:aK}(H:200<fu)(h:GA B a)(hB:B<=2^34)(hm:Mb a)(hgo:ga g a)(hn:GN n)(hk:n.ba=1)(xh:dq a n.aw=true)(T:n.ao<=16777214):
 nJ fu (a.r g) n=some ((jN fu a n).ord.map (·.2.2),(jN fu a n).ord.map (λm=>(⟨m.1,m.2.1⟩:Mark)),(jN fu a n).ah,(jN fu a n).r g):=by
 obtain⟨i,hi,K⟩:=fP.1 xh;have s:a.ps[i]?=some a.ps[i]:=by simp[K]
 generalize a.ps[i]=x at s;have h6:i<6:=by have:=h.n.2;omega
 have hp:=h.ps x (dj s);have M:=hn.1.seq;have V:=hn.1.au;have ht:=hn.2.1 hk;unfold nJ jN;rw[hk,hi,de,s];simp only[mC,bM];rw[show(a.r g).dM=RV To.zero (·.bw) a.ps from X,RV.get h6 s,aj,aj];have ep:({aP.zero with ao:=n.ao,aM:=n.aM}:aP)=⟨n.ao,n.aM⟩:=X;rw[ep,KN H hp.iw.1 ⟨M.1,T⟩ (by simp only;omega),aj,fb];obtain⟨_,t2,_,t4⟩:=vN (r:=x.bw) (p:=⟨n.ao,n.aM⟩) H hp.iw.1 ⟨M.1,T⟩ (by simp only;omega);have C:=Cn hp.iw.1 (λy hy=>(hp.iw.2 y hy).1) T t2;have mu:=hp.iw.1.hi;have Uj:=hp.iw.1.lo;rw[cJ (show ¬n.ao>16777214 by omega),aW];generalize iY fu x.bw ⟨n.ao,n.aM⟩=r at t2 t4 C;obtain⟨o,ts⟩:=r;simp only at t2 t4 C;simp only[aj,fb]
 have nq:GP B {x with bw:=o}:=⟨hp.bd,hp.jz,hp.base,hp.late,hp.to,C,λy hy=>by
  rcases(t2.fE y hy).2.2 with q|q
  .exact hp.iw.2 y q
  .rw[q];exact⟨T,ht⟩⟩
 obtain⟨k,e⟩:∃k:AW,k={a with ps:=a.ps.set i {x with bw:=o}}:=⟨_,X⟩
 have TM:GA B k:=by rw[e];exact h.set i nq
 have Ud:Mb k:=hm.same (by rw[e]) (by rw[e];simp);have W:ga g k:=by rw[e];exact hgo.set s X
 have L:(RV To.zero (·.bw) a.ps).setIfInBounds i (⟨o.Next,o.bg⟩:To)=RV To.zero (·.bw) (a.ps.set i {x with bw:=o}):=RV.set K X;have Q:({a.r g with dM:=RV To.zero (·.bw) (a.ps.set i {x with bw:=o})}:bj)=k.r g:=by rw[e];unfold AW.r;simp only[pD];rw[RV.same (f:=(·.bd)) (y:=({x with bw:=o}:bm)) s X,RV.same (f:=(·.to)) (y:=({x with bw:=o}:bm)) s X,RV.same (f:=(·.au)) (y:=({x with bw:=o}:bm)) s X]
 dsimp only at Q;rw[L,Q,<-e]
 obtain⟨l1,l2⟩:=mR (body:=tq fu (a.r g) n x.bw ts) (λb:AW=>(b.r g,b.ord.map (·.2.2),b.ord.map (λm=>(⟨m.1,m.2.1⟩:Mark)),b.ah)) (λb j t=>fp b (i:Int) (x.bw.Next+(j:Int)) t)
  (λj b=>b.ps=k.ps/\b.aD=k.aD/\GA (B+j) b) (l:=ts) (λj t b hj hb=>by
   obtain⟨A,F,D⟩:=hb;have xg:=(ed hj).1;have hg:G3 (n.aw,x.bw.Next+(j:Int),t):=by
    refine⟨V,⟨by simp only;omega,by simp only;omega⟩,?_⟩;rcases t2.au j t hj with q|q
    .exact(hp.iw.2 _ q).2
    .have:t=n.aM:=by injection q
     rw[this];exact ht
   have P:=Ww (a:=a) (g:=g) (l:=ts) (x9:=x.bw) (fu:=fu) O D O (Ud.same F (by rw[A])) (W.ps A) hj hg;rw[hi]at P;refine⟨P,?_,?_,?_⟩
   .rw[(pT ..).ps];exact A
   .rw[(pT ..).aD];exact F
   .rw[<-hi];exact D.fp hg) ts.length 0 k O ⟨X,X,TM⟩
 rw[eT]at l1 l2;have S:bE (tq fu (a.r g) n x.bw ts) ts.length 0 (k.r g,(a.r g).order,(a.r g).be,(a.r g).bb)=some ((foldI (λ(b:AW)j t=>fp b (i:Int) (x.bw.Next+(j:Int)) t) 0 ts k).r g,(foldI (λ(b:AW)j t=>fp b (i:Int) (x.bw.Next+(j:Int)) t) 0 ts k).ord.map (·.2.2),(foldI (λ(b:AW)j t=>fp b (i:Int) (x.bw.Next+(j:Int)) t) 0 ts k).ord.map (λm=>(⟨m.1,m.2.1⟩:Mark)),(foldI (λ(b:AW)j t=>fp b (i:Int) (x.bw.Next+(j:Int)) t) 0 ts k).ah):=by
  have e1:(a.r g).order=k.ord.map (·.2.2):=by rw[e];rfl
  have e2:(a.r g).be=k.ord.map (λm=>(⟨m.1,m.2.1⟩:Mark)):=by rw[e];rfl
  have e3:(a.r g).bb=k.ah:=by rw[e];rfl
  rw[e1,e2,e3];exact l1
 generalize foldI (λ(b:AW)j t=>fp b (i:Int) (x.bw.Next+(j:Int)) t) 0 ts k=d at S l2;rw[S,aj];rfl
def mS(l:List (Int×Int×Y)):List ay:=l.map λm=>⟨m.1,m.2.2⟩
def Told(base:List ay)(a:List (Int×Int×Y))(x:bm):Prop:=
 (0<=x.to.Next/\x.to.Next<=a.length)/\x.bd=base++mS (a.take x.to.Next.toNat)/\∀p∈x.to.bg,∃m,a[p.ao.toNat]?=some m/\p.aM=cU m
def NV(v:Int)(a:List (Int×Int×Y))(n:aK):Prop:=n.bh<=v/\(n.ba=2->n.bh=v->∃m,a[n.ao.toNat]?=some m/\n.aM=cU m)
structure PV(base:List ay)(a:AW):Prop where
 bd:∀(i:Nat)x,a.ps[i]?=some x->act a (i:Int)=true->Told base a.ord x
 ah:∀n∈a.ah,NV a.aD.bS a.ord n
theorem kh{a:AW}{i:Nat}{x:bm}(d:a.ps[i]?=some x):act a (i:Int)=(eR a.aD.bx i&&!x.ea):=by have hi:=(ed d).1;have e:dq a (i:Int)=true:=fP.2 ⟨i,X,hi⟩;unfold act;rw[e,de,d,l7]
theorem PV.send{base:List ay}{a:AW}(h:PV base a){k f t s:Int}{x:Y}(d:k=2->∃m,a.ord[s.toNat]?=some m/\x=cU m):PV base (dD a k f t s x):=by
 unfold dD
 cases i:(lM (ji a.aD k f t s x)&&decide (a.ah.length<60))with
 |false=>exact h
 |true=>
  refine⟨h.bd,λn g=>?_⟩;rcases e9.1 g with q|q
  .exact h.ah n q
  .rw[iq.1 q];exact⟨jY _,λe _=>d e⟩
theorem PV.set{base:List ay}{a:AW}(h:PV base a){i:Nat}{x y:bm}(g:a.ps[i]?=some x)(l:y.ea=x.ea)(m:Told base a.ord x->Told base a.ord y):PV base {a with ps:=a.ps.set i y}:=by
 have hi:=(ed g).1;refine⟨λj z k f=>?_,h.ah⟩;have d:(a.ps.set i y)[j]?=some z:=k;by_cases c:j=i
 .subst c;rw[ir hi]at d;obtain rfl:=dF d;have e:=kh (a:={a with ps:=a.ps.set j y}) k;rw[e,l]at f;exact m (h.bd j x g (by rw[kh g];exact f))
 .rw[jI (λe=>c e.symm)]at d;refine h.bd j z d ?_;have e:=kh (a:={a with ps:=a.ps.set i y}) k;rw[e]at f;rw[kh d];exact f
theorem PV.yF{base:List ay}{a:AW}(h:PV base a)(p:Int)(t:Y):PV base (iN a p t).1:=by
 unfold iN
 cases f:(gZ a p !=0)with
 |true=>exact h
 |false=>
  obtain⟨i,x,rfl,d,g⟩:=nO f;rw[aW]
  cases decide (t.length>150)with
  |true=>exact h
  |false=>
  cases decide (a.ah.length=60)with
  |true=>exact h
  |false=>
   rw[aW,aW,de,d];simp only
   cases jU x.au with
   |true=>exact h
   |false=>rw[aW];exact PV.send (k:=1) (h.set (y:={x with au:=⟨x.au.Base,x.au.aJ++[t]⟩}) d X λq=>q) (λe=>absurd e ab)
theorem PV.again{base:List ay}{a:AW}(h:PV base a)(p:Int):PV base (jT a p).1:=by
 unfold jT
 cases f:(gZ a p !=0)with
 |true=>exact h
 |false=>obtain⟨i,x,rfl,g,l⟩:=nO f;rw[aW,de,g];exact PV.send (k:=3) (nh (PV base) _ 0 a (λb j q _ d=>d.send (λe=>absurd e ab)) h) (λe=>absurd e ab)
theorem PV.wQ{base:List ay}{a:AW}(h:PV base a)(p:Int):PV base (gB a p).1:=by
 unfold gB
 cases l:dq a p with
 |false=>exact h
 |true=>
  obtain⟨i,rfl,hi⟩:=fP.1 l;have g:a.ps[i]?=some a.ps[i]:=by simp[hi]
  generalize a.ps[i]=x at g;rw[de,g];simp only[ii,aW];refine⟨λj z k f=>?_,h.ah⟩;have d:(a.ps.set i {x with ea:=true})[j]?=some z:=k;have e:=kh (a:={a with ps:=a.ps.set i {x with ea:=true}}) k;rw[e]at f;by_cases c:j=i
  .subst c;rw[ir hi]at d;obtain rfl:=dF d;simp at f
  .rw[jI (λe=>c e.symm)]at d;exact h.bd j z d (by rw[kh d];exact f)
theorem Told.more{base:List ay}{a more:List (Int×Int×Y)}{x:bm}(h:Told base a x):Told base (a++more) x:=by obtain⟨e,f,g⟩:=h;refine⟨⟨e.1,by rw[cr];omega⟩,by rw[E3 O];exact f,λp hp=>?_⟩;obtain⟨m,d,i⟩:=g p hp;exact⟨m,by rw[ou (ed d).1];exact d,i⟩
theorem PV.fp{base:List ay}{b:AW}(h:PV base b)(p q:Int)(t:Y):PV base (fp b p q t):=by
 have l:PV base {b with ord:=b.ord++[(p,q,t)]}:=by refine⟨λi x A o=>(h.bd i x A o).more,λn s=>?_⟩;obtain⟨g,k⟩:=h.ah n s;refine⟨g,λe f=>?_⟩;obtain⟨m,d,y⟩:=k e f;exact⟨m,by show(b.ord++[(p,q,t)])[n.ao.toNat]?=_;rw[ou (ed d).1];exact d,y⟩
 unfold Go.Proofs.YtklkkoelldkncaaGreatDoor.fp;refine(nh (λc:AW=>PV base c/\c.ord=b.ord++[(p,q,t)]) _ 0 _ (λc j x _ a=>?_) ⟨l,X⟩).1
 cases act c (j:Int)with
 |false=>exact a
 |true=>rw[bM];refine⟨a.1.send (λ_=>⟨(p,q,t),?_,X⟩),by rw[ru];exact a.2⟩;rw[a.2,de];simp
theorem sk{d α:Type}{f:d->Nat->α->d}(a:Nat->d->Prop){l:List α}(h:∀(i:Nat)x b,l[i]?=some x->a i b->a (i+1) (f b i x)):∀(k i:Nat)(b:d),i+k=l.length->a i b->a l.length (foldI f i (l.drop i) b)
 |0,i,b,g,e=>by rw[kp O];rw[<-g];exact e
 |k+1,i,b,g,e=>by
  have hi:i<l.length:=by omega
  have j:l[i]?=some l[i]:=by simp[hi]
  rw[jd hi];exact sk a h k (i+1) _ O (h i _ b j e)
theorem PV.order{base:List ay}{a:AW}(h:PV base a)(fu:Nat)(n:aK):PV base (jN fu a n):=by
 unfold jN
 cases e:a.ps[n.aw.toNat]? with
 |none=>exact h
 |some x=>
  simp only
  cases decide (n.ao>16777214)with
  |true=>exact h
  |false=>exact nh (PV base) _ 0 _ (λb j t _ d=>d.fp ..) (h.set (y:={x with bw:=(iY fu x.bw ⟨n.ao,n.aM⟩).1}) e X λq=>q)
theorem PV.fd{base:List ay}(s f:Int):∀(k i:Nat){b:AW},PV base b->PV base (fd s f k i b)
 |0,_,_,h=>h
 |k+1,i,b,h=>by
  unfold Go.Proofs.YtklkkoelldkncaaGreatDoor.fd
  cases a:b.ord[i]? with
  |none=>exact h
  |some m=>exact PV.fd s f k (i+1) (h.send λ_=>⟨m,by rw[de];exact a,X⟩)
theorem TF{b:AW}{i:Nat}{x:bm}{m:Int×Int×Y}(d:b.ps[i]?=some x)(a:G3 m):∃f,gJ b (i:Int) (cU m)={b with ps:=b.ps.set i {x with bd:=x.bd++[⟨m.1,m.2.2⟩],au:=f}}:=by unfold gJ;rw[de,d,vv a];exact⟨_,X⟩
theorem PV.take{base:List ay}{B fu:Nat}{a:AW}{n:aK}(h:PV base a)(T:GA B a)(pi:200<fu)(hn:GN n)(D:n.ba=2)(hv:n.bh=a.aD.bS)(Um:NV a.aD.bS a.ord n)(V:act a n.To=true):PV base (jO fu a n):=by
 have xh:dq a n.To=true:=by unfold act at V;rw[eJ,eJ]at V;exact V.1.1
 obtain⟨i,hi,K⟩:=fP.1 xh;have W:a.ps[i]?=some a.ps[i]:=by simp[K]
 generalize a.ps[i]=x at W;have hp:=T.ps x (dj W);obtain⟨⟨t1,t2⟩,t3,t4⟩:=h.bd i x W (by rw[<-hi];exact V);obtain⟨mn,g,A⟩:=Um.2 D hv;unfold jO;rw[hi,de,W];simp only;by_cases hs:n.ao>16777214
 .rw[dA hs];exact h
 .have xm:=hn.1.seq;have xi:=Ax (T.ord.2 mn (dj g));obtain⟨_,M,_,_⟩:=vN (r:=x.to) (p:=⟨n.ao,n.aM⟩) pi hp.to.1 ⟨xm.1,by simp only;omega⟩ (by simp only;rw[A];omega);rw[cJ hs];generalize iY fu x.to ⟨n.ao,n.aM⟩=r at M;obtain⟨o,ts⟩:=r;simp only at M;rw[aW];simp only;obtain⟨N,hN⟩:=kn t1;have aB:∀(j:Nat)t,ts[j]?=some t->∃m,a.ord[N+j]?=some m/\t=cU m/\G3 m:=λj t hj=>by
   rcases M.au j t hj with q|q
   .obtain⟨m,s,e2⟩:=t4 _ q;refine⟨m,?_,e2,T.ord.2 m (dj s)⟩;have:((x.to.Next+(j:Int))).toNat=N+j:=by omega
    simp only at s;rw[this]at s;exact s
   .have q1:x.to.Next+(j:Int)=n.ao:=by injection q
    have q2:t=n.aM:=by injection q
    refine⟨mn,?_,q2.trans A,T.ord.2 mn (dj g)⟩;have:n.ao.toNat=N+j:=by omega
    rw[this]at g;exact g
  have fin:=sk (f:=λ(b:AW)(_:Nat)t=>gJ b (i:Int) t) (λj b=>b.aD=a.aD/\b.ord=a.ord/\b.ah=a.ah/\(∀k:Nat,k≠i->b.ps[k]?=a.ps[k]?)/\∃y,b.ps[i]?=some y/\y.ea=x.ea/\y.to=o/\y.bd=x.bd++mS ((a.ord.drop N).take j)) (l:=ts) (λj t b hj hb=>by
   obtain⟨P,Q,b3,b4,y,S,b6,F,b8⟩:=hb;obtain⟨m,s,rfl,e3⟩:=aB j t hj;obtain⟨f,hf⟩:=TF S e3;rw[hf];have L:=(ed S).1;refine⟨P,Q,b3,λk D=>?_,_,ir L,b6,F,?_⟩
   .show(b.ps.set i _)[k]?=_;rw[jI (λe=>D e.symm)];exact b4 k D
   .show y.bd++[_]=_;have hd:(a.ord.drop N)[j]?=some m:=by rw[qV];exact s
    rw[b8,uF,hd];unfold mS;rw[kG,f9]
    rfl) ts.length 0 {a with ps:=a.ps.set i {x with to:=o}} O ⟨X,X,X,λk D=>by
     show(a.ps.set i _)[k]?=_
     rw[jI (λe=>D e.symm)],_,ir K,X,X,by simp[mS]⟩
  rw[eT]at fin;generalize foldI (λ(b:AW)(_:Nat)t=>gJ b (i:Int) t) 0 ts {a with ps:=a.ps.set i {x with to:=o}}=d at fin;obtain⟨P,Q,b3,b4,y,S,b6,F,b8⟩:=fin;have mu:=M.next;have hle:N+ts.length<=a.ord.length:=by
   rcases pr ts.length with e|e
   .omega
   .have hg:ts[ts.length-1]?=some (ts[ts.length-1]'O):=by simp
    obtain⟨m,s,_⟩:=aB _ _ hg;have:=(ed s).1;omega
  have JV:Told base a.ord y:=by
   refine⟨by rw[F];omega,?_,λp hp=>?_⟩
   .rw[F,b8,t3,show o.Next.toNat=N+ts.length by omega,show x.to.Next.toNat=N by omega,f9];unfold mS;rw[<-kG,<-List.take_add]
   .rw[F]at hp;rcases(M.fE p hp).2.2 with q|q
    .exact t4 p q
    .rw[q];exact⟨mn,g,A⟩
  refine⟨λj z hz H=>?_,λm hm=>?_⟩
  .rw[Q];by_cases c:j=i
   .subst c;rw[S]at hz;rw[<-dF hz];exact JV
   .have C:=hz;rw[b4 j c]at C;refine h.bd j z C ?_;rw[kh hz,P]at H;rw[kh C];exact H
  .rw[P,Q];rw[b3]at hm;exact h.ah m hm
theorem PV.Cr{base:List ay}{a:AW}(h:PV base a){l:List aK}(d:∀n∈l,n∈a.ah):PV base {a with ah:=l}:=⟨h.bd,λn e=>h.ah n (d n e)⟩
theorem PV.DV{base:List ay}{B fu:Nat}{a:AW}{n:aK}(h:PV base a)(f:GA B a)(d:200<fu)(j:GN n)(k:n.bh=a.aD.bS)(e:NV a.aD.bS a.ord n)(g:act a n.To=true):PV base (iQ fu a n):=by
 unfold iQ
 cases !dq a n.aw with
 |true=>exact h
 |false=>
 cases n.ba==1 with
 |true=>exact h.order fu n
 |false=>
 cases n.ba==3 with
 |true=>exact PV.fd _ _ _ _ h
 |false=>
 cases i:n.ba==2 with
 |true=>exact h.take f d j (by simpa using i) k e g
 |false=>exact h
theorem PV.move{base:List ay}{B fu:Nat}{a:AW}(h:PV base a)(j:GA B a)(f:200<fu)(k d:Int):PV base (iW fu a k d).1:=by
 unfold iW
 cases !(decide (d>=1)&&decide (d<=3))with
 |true=>exact h
 |false=>
 cases !(decide (k>=0)&&decide (k<=(a.ah.length:Int)-1))with
 |true=>exact h
 |false=>
 cases (d==3)&&decide (a.ah.length=60)with
 |true=>exact h
 |false=>
 cases o:a.ah[k.toNat]? with
 |none=>exact h
 |some n=>
  have g:=dj o;simp only[aW]
  cases d==3 with
  |true=>
   refine h.Cr λm e=>?_;rcases e9.1 e with q|q
   .exact q
   .rw[iq.1 q];exact g
  |false=>
   rw[aW];have l:PV base {a with ah:=a.ah.take k.toNat++a.ah.drop (k.toNat+1)}:=h.Cr λm e=>by
    rcases e9.1 e with q|q
    .exact qZ q
    .exact oy q
   cases i:((d==1)&&(n.bh==a.aD.bS))&&act a n.To with
   |false=>exact l
   |true=>rw[eJ,eJ]at i;exact l.DV (j.Bq k.toNat) f (j.ah.2 n g) (by simpa using i.1.2) (h.ah n g) i.2
theorem Kd{m g:BitVec 8}{i:Nat}(h:eR (m&&& ~~~g) i=true):eR m i=true:=by
 have e:∀x:BitVec 8,eR x i=x.getLsbD i:=λx=>by
  unfold eR;rw[eZ,jW];have:((x>>>i)&&&(1:BitVec 8)).toNat=(x.getLsbD i).toNat:=by rw[A7,oq,BitVec.getLsbD,show(1:BitVec 8).toNat=1 from X,E5,Nat.testBit,oi,Nat.and_comm,E5];rcases Nat.mod_two_eq_zero_or_one (x.toNat/2^i)with q|q<;>rw[q]<;>rfl
  rw[this];cases x.getLsbD i<;>simp
 rw[e,xu,eJ]at h;rw[e];exact h.1
theorem PV.change{base:List ay}{B:Nat}{a:AW}(h:PV base a)(hG:GA B a):∃s,PV s (iE a).1:=by
 obtain⟨n1,V⟩:=xL a.aD (gi a).1 hG.num;unfold iE;generalize gi a=z at n1 V;obtain⟨g,L⟩:=z;simp only at n1 V ⊢
 cases hn:((gD a.aD g).2 !=0)with
 |true=>exact⟨base,h⟩
 |false=>
  have T:(gD a.aD g).2=0:=by simpa using hn
  obtain⟨m1,m2,m3⟩:=V T;refine⟨L,?_⟩;rw[aW]
  have fin:=sk (f:=λ(b:AW)i(_:bm)=>fi L b i) (λj b=>b.aD=a.aD/\b.ah=a.ah/\b.ps.length=a.ps.length/\(∀k:Nat,j<=k->b.ps[k]?=a.ps[k]?)/\∀(k:Nat)x,k<j->a.ps[k]?=some x->b.ps[k]?=some (bif act a (k:Int)then kA L k x else{x with bw:=⟨0,[]⟩})) (l:=a.ps) (λi x b A hb=>by
   obtain⟨H,K,b3,b4,M⟩:=hb;have F:b.ps[i]?=some x:=by rw[b4 i (dO _)];exact A
   have q:=(ed F).1;have C:act b (i:Int)=act a (i:Int):=Aj H b3 (b4 i (dO _));have one:fi L b i={b with ps:=b.ps.set i (bif act a (i:Int)then kA L i x else{x with bw:=⟨0,[]⟩})}:=by unfold fi;rw[F,C]
   rw[one];refine⟨H,K,by simp[b3],λk W=>?_,λk y W t=>?_⟩
   .show(b.ps.set i _)[k]?=_;rw[jI O];exact b4 k O
   .show(b.ps.set i _)[k]?=_;by_cases c:k=i
    .subst c;rw[A]at t;rw[<-dF t,ir q]
    .rw[jI (λe=>c e.symm)];exact M k y O t) a.ps.length 0 a O ⟨X,X,X,λk _=>rfl,λk x W=>by omega⟩
  rw[eT]at fin;generalize foldI (λ(b:AW)i(_:bm)=>fi L b i) 0 a.ps a=d at fin;obtain⟨H,K,b3,b4,M⟩:=fin;refine⟨λi y t P=>?_,λn S=>?_⟩
  .have q:i<a.ps.length:=by rw[<-b3];exact(ed t).1
   have A:a.ps[i]?=some a.ps[i]:=by simp[q]
   generalize a.ps[i]=x at A;have o:d.ps[i]?=some y:=t;rw[M i x q A]at o;rw[kh t,eJ]at P;have Q:eR a.aD.bx i=true:=by have:eR (gD a.aD g).1.bx i=true:=P.1;rw[m3]at this;exact Kd this
   cases m:act a (i:Int)with
   |false=>rw[m,aW]at o;rw[kh A,Q,l7]at m;have:=P.2;rw[<-dF o]at this;simp only at this;rw[this]at m;cases m
   |true=>rw[m,bM]at o;rw[<-dF o];exact⟨⟨jY _,jY _⟩,by show L=L++[];simp,λp hp=>by cases hp⟩
  .have D:n∈a.ah:=by rw[<-K];exact S
   have hle:=(h.ah n D).1;refine⟨by show n.bh<=(gD a.aD g).1.bS;omega,λ_ e=>?_⟩;have e':n.bh=(gD a.aD g).1.bS:=e;omega
theorem PV.do{base:List ay}{B fu:Nat}{a:AW}(h:PV base a)(g:GA B a)(f:200<fu)(d:dJ):∃e,PV e (gS fu a d).1:=by
 unfold gS
 cases d.ba==1 with
 |true=>exact⟨base,h.yF ..⟩
 |false=>
 cases d.ba==2 with
 |true=>exact⟨base,h.again ..⟩
 |false=>
 cases d.ba==3 with
 |true=>exact⟨base,h.move g f ..⟩
 |false=>
 cases d.ba==4 with
 |true=>exact⟨base,h.wQ ..⟩
 |false=>
 cases d.ba==5 with
 |true=>exact h.change g
 |false=>exact⟨base,h⟩
theorem PV.new{n:Nat}:PV [] (jh n):=by refine⟨λi x d _=>?_,λm a=>by cases a⟩;have:=(sJ.1 (dj d)).2;rw[this];exact⟨⟨jY _,jY _⟩,X,λp hp=>by cases hp⟩
theorem PV.same{base:List ay}{a:AW}(h:PV base a){i j:Nat}{x y:bm}(k:a.ps[i]?=some x)(l:a.ps[j]?=some y)(f:act a (i:Int)=true)(g:act a (j:Int)=true)(d:x.bd.length=y.bd.length):x.bd=y.bd:=by
 obtain⟨⟨m,n⟩,e,_⟩:=h.bd i x k f;obtain⟨⟨o,p⟩,b3,_⟩:=h.bd j y l g;rw[e,b3]at d;unfold mS at d;simp only[cr,kF,gn]at d;have:x.to.Next.toNat=y.to.Next.toNat:=by omega
 rw[e,b3,this]
def fj(a:AW):List Bool:=a.ps.map (·.ea)
theorem wR{a:AW}{i:Nat}{x y:bm}(e:a.ps[i]?=some x)(d:y.ea=x.ea):fj {a with ps:=a.ps.set i y}=fj a:=by unfold fj;show List.map _ (a.ps.set i y)=_;rw[ox,d];exact Mg (by rw[kD,e];rfl)
theorem D6{α:Type}{f:AW->Nat->α->AW}(h:∀b j x,fj (f b j x)=fj b)(l:List α)(i:Nat)(b:AW):fj (foldI f i l b)=fj b:=
 nh (λc=>fj c=fj b) l i b (λc j x _ a=>(h c j x).trans a) X
theorem Jn(a:AW)(k f t s:Int)(x:Y):fj (dD a k f t s x)=fj a:=by unfold fj;rw[yG]
theorem Jl(s f:Int):∀(k i:Nat)(b:AW),fj (fd s f k i b)=fj b
 |0,_,_=>rfl
 |k+1,i,b=>by
  unfold fd
  cases b.ord[i]? with
  |none=>rfl
  |some m=>exact(Jl s f k (i+1) _).trans (Jn ..)
theorem Sy(b:AW)(p:Int)(t:Y):fj (gJ b p t)=fj b:=by
 unfold gJ
 cases a:b.ps[p.toNat]? with
 |none=>rfl
 |some x=>exact wR a X
theorem Sw(L:List ay)(b:AW)(i:Nat):fj (fi L b i)=fj b:=by
 unfold fi
 cases a:b.ps[i]? with
 |none=>rfl
 |some x=>refine wR a ?_;cases act b (i:Int)<;>rfl
theorem Sx(fu:Nat)(a:AW)(n:aK):fj (iQ fu a n)=fj a:=by
 unfold iQ
 cases (!dq a n.aw)with
 |true=>rfl
 |false=>
 cases n.ba==1 with
 |true=>
  simp only[bM,aW];unfold jN
  cases d:a.ps[n.aw.toNat]? with
  |none=>rfl
  |some x=>
   simp only
   cases decide (n.ao>16777214)with
   |true=>rfl
   |false=>rw[aW,D6 λb j t=>by unfold fj;rw[(pT ..).ps]];exact wR d X
 |false=>
 cases n.ba==3 with
 |true=>exact Jl ..
 |false=>
 cases n.ba==2 with
 |true=>
  simp only[bM,aW];unfold jO
  cases d:a.ps[n.To.toNat]? with
  |none=>rfl
  |some x=>
   simp only
   cases decide (n.ao>16777214)with
   |true=>rfl
   |false=>rw[aW,D6 λb j t=>Sy b n.To t];exact wR d X
 |false=>rfl
theorem Jm(fu:Nat)(a:AW)(d:dJ):fj (gS fu a d).1=if(d.ba==4)=true then fj (gB a d.cI).1 else fj a:=by
 unfold gS
 cases f:d.ba==1 with
 |true=>
  have e:(d.ba==4)=false:=by have:=jW.1 f;rw[this];rfl
  rw[e,ck (by simp),bM];unfold iN
  cases (gZ a d.cI !=0)with
  |true=>rfl
  |false=>
  cases decide (d.aM.length>150)with
  |true=>rfl
  |false=>
  cases decide (a.ah.length=60)with
  |true=>rfl
  |false=>
  cases i:a.ps[d.cI.toNat]? with
  |none=>rfl
  |some x=>
   simp only[aW]
   cases jU x.au with
   |true=>rfl
   |false=>rw[aW];simp only;rw[Jn];exact wR i X
 |false=>
 cases g:d.ba==2 with
 |true=>
  have e:(d.ba==4)=false:=by have:=jW.1 g;rw[this];rfl
  rw[e,ck (by simp)];simp only[bM,aW];unfold fj;rw[(Ak a d.cI).ps]
 |false=>
 cases h:d.ba==3 with
 |true=>
  have e:(d.ba==4)=false:=by have:=jW.1 h;rw[this];rfl
  rw[e,ck (by simp)];simp only[bM,aW];unfold iW
  cases !(decide (d.fw>=1)&&decide (d.fw<=3))with
  |true=>rfl
  |false=>
  cases !(decide (d.cI>=0)&&decide (d.cI<=(a.ah.length:Int)-1))with
  |true=>rfl
  |false=>
  cases (d.fw==3)&&decide (a.ah.length=60)with
  |true=>rfl
  |false=>
  cases a.ah[d.cI.toNat]? with
  |none=>rfl
  |some n=>
   simp only[aW]
   cases d.fw==3 with
   |true=>rfl
   |false=>
    rw[aW];simp only
    cases ((d.fw==1)&&(n.bh==a.aD.bS))&&act a n.To with
    |true=>rw[bM,Sx];rfl
    |false=>rfl
 |false=>
 cases e:d.ba==4 with
 |true=>rfl
 |false=>
 rw[ck (by simp)]
 cases d.ba==5 with
 |true=>
  simp only[bM,aW];unfold iE
  cases (gD a.aD (gi a).1).2 !=0 with
  |true=>rfl
  |false=>rw[aW];show fj (foldI _ 0 a.ps a)=_;rw[D6 λb j x=>Sw ..]
 |false=>rfl
def wt(a:AW)(es:List Int):Prop:=∀(i:Nat)b,(fj a)[i]?=some b->(b=true↔(i:Int)∈es)
theorem wt.new{n:Nat}:wt (jh n) []:=λi b a=>by
 have:(List.replicate n false)[i]?=some b:=by
  have e:fj (jh n)=List.replicate n false:=by unfold fj jh;show List.map _ (List.replicate n bm.zero)=_;rw[List.map_replicate];rfl
  rw[<-e];exact a
 have:=(sJ.1 (dj this)).2;rw[this];simp
theorem wt.do{fu:Nat}{a:AW}{es:List Int}(h:wt a es)(d:dJ):wt (gS fu a d).1 (if((gS fu a d).2==0&&d.ba==4)=true then es++[d.cI]else es):=by
 intro i b f;rw[Jm]at f;by_cases k:(d.ba==4)=true
 .rw[ce k]at f;have p:=jW.1 k;have s:gS fu a d=gB a d.cI:=by unfold gS;rw[p];rfl
  rw[s,k,Bool.and_true];unfold gB at f ⊢
  cases m:dq a d.cI with
  |false=>rw[m]at f;exact h i b f
  |true=>
   obtain⟨j,o,l⟩:=fP.1 m;have n:a.ps[j]?=some a.ps[j]:=by simp[l]
   generalize a.ps[j]=x at n;rw[m,o,de,n]at f;rw[o,de,n];simp only[ii,aW,mC,jX]at f ⊢;have g:((fj a).set j true)[i]?=some b:=by unfold fj at f ⊢;rw[<-f];show _=(List.map _ (a.ps.set j _))[i]?;rw[ox]
   by_cases c:i=j
   .subst c;rw[ir (by unfold fj;rw[kF];exact l)]at g;rw[<-dF g];simp
   .rw[jI (λe=>c e.symm)]at g;rw[h i b g,e9,iq];exact⟨.inl,λq=>q.resolve_right O⟩
 .rw[ck k]at f;rw[show(d.ba==4)=false by simpa using k,A8];exact h i b f
abbrev pI:=@RV.get
abbrev pJ:=@RV.same
def fe(f:aw):Int:=f.Base+f.aJ.length
def own(i:Nat)(l:List (Int×Int×Y)):List Int:=(l.filter λm=>m.1==(i:Int)).map (·.2.1)
def mx(n:Int):List Int:=(List.range n.toNat).map λ(k:Nat)=>(k:Int)
theorem pU(i:Nat)(l m:List (Int×Int×Y)):own i (l++m)=own i l++own i m:=by unfold own;rw[List.filter_append,kG]
theorem BG(i:Nat)(m:Int×Int×Y):own i [m]=if m.1=(i:Int)then[m.2.1]else[]:=by
 unfold own;by_cases c:m.1=(i:Int)
 .rw[ce c,List.filter_cons_of_pos (by simpa using c)];rfl
 .rw[ck c,List.filter_cons_of_neg (by simpa using c)];rfl
theorem Vv{n:Int}(h:0<=n):mx (n+1)=mx n++[n]:=by obtain⟨k,rfl⟩:=kn h;unfold mx;rw[show((k:Int)+1).toNat=k+1 by omega,de,A0,kG];rfl
structure OS(D:Nat)(a:AW):Prop where
 sn:∀n∈a.ah,dq a n.aw=true
 cap:∀x∈a.ps,fe x.au<=D
 oA:∀(i:Nat)x,a.ps[i]?=some x->x.bw.Next<=fe x.au/\∀p∈x.bw.bg,p.ao<fe x.au
 note:∀n∈a.ah,n.ba=1->n.bh=a.aD.bS->∀x,a.ps[n.aw.toNat]?=some x->n.ao<fe x.au
 nM:∀(i:Nat)x,a.ps[i]?=some x->own i a.ord=mx x.bw.Next
 vh:∀m∈a.ord,dq a m.1=true
 base:∀(i:Nat)x,a.ps[i]?=some x->act a (i:Int)=true->x.au.Base<=(own i (a.ord.take x.to.Next.toNat)).length
theorem OS.mono{D E:Nat}{a:AW}(h:OS D a)(e:D<=E):OS E a:=⟨h.sn,λx d=>by have:=h.cap x d;omega,h.oA,h.note,h.nM,h.vh,h.base⟩
theorem uQ{a b:AW}(h:b.ps.length=a.ps.length)(p:Int):dq b p=dq a p:=by unfold dq;rw[h]
theorem Kg{B:Nat}{a:AW}(h:GA B a)(g:Mb a):dq a (sq a.aD)=true:=by
 rw[Mp h.num (g.lt h)];have e:=h.n.1;have d:∀k:Nat,eR a.aD.bx k=true->k<a.ps.length:=λk f=>by
  rcases pu k a.ps.length with c|c
  .exact c
  .rw[Kc g c]at f;cases f
 unfold vP
 cases i:eR a.aD.bx 0 with
 |true=>exact fP.2 ⟨0,X,d 0 i⟩
 |false=>
 cases e:eR a.aD.bx 1 with
 |true=>exact fP.2 ⟨1,X,d 1 e⟩
 |false=>
 cases j:eR a.aD.bx 2 with
 |true=>exact fP.2 ⟨2,X,d 2 j⟩
 |false=>
 cases l:eR a.aD.bx 3 with
 |true=>exact fP.2 ⟨3,X,d 3 l⟩
 |false=>
 cases m:eR a.aD.bx 4 with
 |true=>exact fP.2 ⟨4,X,d 4 m⟩
 |false=>
 cases n:eR a.aD.bx 5 with
 |true=>exact fP.2 ⟨5,X,d 5 n⟩
 |false=>exact fP.2 ⟨0,X,by omega⟩
theorem OS.seq{D:Nat}{a:AW}(h:OS D a){m:Int×Int×Y}(j:m∈a.ord){i:Nat}{x:bm}(hi:m.1=(i:Int))(f:a.ps[i]?=some x):m.2.1<fe x.au:=by have d:m.2.1∈own i a.ord:=mE.2 ⟨m,List.mem_filter.2 ⟨j,by simpa using hi⟩,X⟩;rw[h.nM i x f]at d;obtain⟨k,g,e⟩:=mE.1 d;have:=xy.1 g;have:=(h.oA i x f).1;omega
theorem KL:∀l:List (Int×Int×Y),(∀m∈l,0<=m.1/\m.1<=5)->l.length=(own 0 l).length+(own 1 l).length+(own 2 l).length+(own 3 l).length+(own 4 l).length+(own 5 l).length
 |[],_=>rfl
 |m::l,h=>by
  have d:=KL l λx a=>h x (nw _ a);have f:=h m (by simp);have e:∀i,(own i (m::l)).length=(if m.1=(i:Int)then 1 else 0)+(own i l).length:=λi=>by
   rw[show m::l=[m]++l from X,pU,BG,cr];by_cases c:m.1=(i:Int)
   .rw[ce c,ce c];rfl
   .rw[ck c,ck c];rfl
  rw[bN,e,e,e,e,e,e,d];have:m.1=0\/m.1=1\/m.1=2\/m.1=3\/m.1=4\/m.1=5:=by omega
  rcases this with q|q|q|q|q|q<;>rw[q]<;>simp<;>omega
theorem OS.len{D B:Nat}{a:AW}(h:OS D a)(k:GA B a):a.ord.length<=6*D:=by
 have p:=KL a.ord λm f=>(k.ord.2 m f).1;have d:∀i,(own i a.ord).length<=D:=λi=>by
  by_cases hi:i<a.ps.length
  .have g:a.ps[i]?=some a.ps[i]:=by simp[hi]
   rw[h.nM i _ g];have l:=(h.oA i _ g).1;have n:=h.cap _ (dj g);unfold mx;simp only[kF,List.length_range];omega
  .have:own i a.ord=[]:=by
    unfold own;rw[List.map_eq_nil_iff,List.filter_eq_nil_iff];intro m f q;obtain⟨j,e,o⟩:=fP.1 (h.vh m f);have:m.1=(i:Int):=by simpa using q
    omega
   rw[this];exact jF _
 have:=d 0;have:=d 1;have:=d 2;have:=d 3;have:=d 4;have:=d 5;omega
theorem OS.send{D:Nat}{a:AW}(h:OS D a){k f t s:Int}{x:Y}(i:dq a f=true)(g:k=1->∀y,a.ps[f.toNat]?=some y->s<fe y.au):OS D (dD a k f t s x):=by
 unfold dD
 cases l:(lM (ji a.aD k f t s x)&&decide (a.ah.length<60))with
 |false=>exact h
 |true=>
  refine⟨λn e=>?_,h.cap,h.oA,λn e d j=>?_,h.nM,h.vh,h.base⟩
  .rcases e9.1 e with q|q
   .exact h.sn n q
   .rw[iq.1 q];exact i
  .rcases e9.1 e with q|q
   .exact h.note n q d j
   .rw[iq.1 q]at d ⊢;exact g d
theorem OS.sub{D:Nat}{a:AW}(h:OS D a){l:List aK}(e:∀n∈l,n∈a.ah):OS D {a with ah:=l}:=⟨λn d=>h.sn n (e n d),h.cap,h.oA,λn d=>h.note n (e n d),h.nM,h.vh,h.base⟩
theorem OS.set{D E:Nat}{a:AW}(h:OS D a){i:Nat}{x y:bm}(g:a.ps[i]?=some x)(P:D<=E)(K:fe y.au<=E)(Q:fe x.au<=fe y.au)(B:y.bw=x.bw)(t:y.ea=false->x.ea=false)
 (H:(act a (i:Int)=true->x.au.Base<=(own i (a.ord.take x.to.Next.toNat)).length)->act a (i:Int)=true->y.au.Base<=(own i (a.ord.take y.to.Next.toNat)).length):OS E {a with ps:=a.ps.set i y}:=by
 have hi:=(ed g).1;have f:∀(j:Nat)z,(a.ps.set i y)[j]?=some z->(j=i/\z=y)\/(j≠i/\a.ps[j]?=some z):=λj z d=>by
  by_cases c:j=i
  .subst c;rw[ir hi]at d;exact .inl ⟨X,(dF d).symm⟩
  .rw[jI (λe=>c e.symm)]at d;exact .inr ⟨c,d⟩
 have l:∀p,dq ({a with ps:=a.ps.set i y}:AW) p=dq a p:=λp=>uQ (by simp) p;refine⟨λn o=>by rw[l];exact h.sn n o,λz d=>?_,λj z d=>?_,λn o A C z d=>?_,λj z d=>?_,λm L=>by rw[l];exact h.vh m L,λj z d k=>?_⟩
 .rcases kH d with q|q
  .have:=h.cap z q;omega
  .rw[q];exact K
 .rcases f j z d with⟨rfl,rfl⟩|⟨c,q⟩
  .obtain⟨S,M⟩:=h.oA j x g;rw[B];exact⟨by omega,λp hp=>by have:=M p hp;omega⟩
  .exact h.oA j z q
 .rcases f _ z d with⟨c,rfl⟩|⟨c,q⟩
  .have:=h.note n o A C x (by rw[c];exact g);omega
  .exact h.note n o A C z q
 .rcases f j z d with⟨rfl,rfl⟩|⟨c,q⟩
  .rw[B];exact h.nM j x g
  .exact h.nM j z q
 .have F:act ({a with ps:=a.ps.set i y}:AW) (j:Int)=(eR a.aD.bx j&&!z.ea):=kh d;rw[F,eJ]at k;rcases f j z d with⟨rfl,rfl⟩|⟨c,q⟩
  .have s:act a (j:Int)=true:=by
    rw[kh g,k.1,t (by simpa using k.2)];rfl
   exact H (λq=>h.base j x g q) s
  .exact h.base j z q (by rw[kh q,k.1,k.2];rfl)
theorem OS.yF{D:Nat}{a:AW}(h:OS D a)(p:Int)(t:Y):OS (D+1) (iN a p t).1:=by
 unfold iN
 cases j:(gZ a p !=0)with
 |true=>exact h.mono O
 |false=>
  obtain⟨i,x,rfl,f,m⟩:=nO j;rw[aW]
  cases decide (t.length>150)with
  |true=>exact h.mono O
  |false=>
  cases decide (a.ah.length=60)with
  |true=>exact h.mono O
  |false=>
   rw[aW,aW,de,f];simp only
   cases jU x.au with
   |true=>exact h.mono O
   |false=>
    rw[aW];have n:=h.cap x (dj f);have e:fe (⟨x.au.Base,x.au.aJ++[t]⟩:aw)=fe x.au+1:=by unfold fe;simp;omega
    have hi:=(ed f).1;have g:=h.set (E:=D+1) (y:={x with au:=⟨x.au.Base,x.au.aJ++[t]⟩}) f O (by simp only;rw[e];omega) (by simp only;rw[e];omega) X (λq=>q) (λq=>q);refine g.send (k:=1) ?_ (λ_ y l=>?_)
    .exact fP.2 ⟨i,X,by simpa using hi⟩
    .have d:(a.ps.set i ({x with au:=⟨x.au.Base,x.au.aJ++[t]⟩}:bm))[i]?=some y:=l;rw[ir hi]at d;rw[<-dF d];simp only;rw[e];unfold fe;omega
theorem OS.again{D B:Nat}{a:AW}(h:OS D a)(C:GA B a)(p:Int):OS D (jT a p).1:=by
 unfold jT
 cases A:(gZ a p !=0)with
 |true=>exact h
 |false=>
  obtain⟨i,x,rfl,m,F⟩:=nO A;have n:dq a (i:Int)=true:=fP.2 ⟨i,X,(ed m).1⟩;rw[aW,de,m];simp only;have k:∀(b:Int)(j:Nat)(l:List Y)(q:aP),q∈ix b j l->q.ao<b+j+l.length:=by
   intro b j l
   induction l generalizing j with
   |nil=>intro q d;simp[ix]at d
   |cons t l s=>
    intro q d;unfold ix at d;simp only[bN];split at d
    .rcases fB.1 d with e|e
     .rw[e];simp only;omega
     .have:=s (j+1) q e;omega
    .have:=s (j+1) q d;omega
  have f:OS D (foldI (λb _(q:aP)=>dD b 1 (i:Int) (sq a.aD) q.ao q.aM) 0 (ix x.au.Base 0 x.au.aJ) a)/\hQ a (foldI (λb _(q:aP)=>dD b 1 (i:Int) (sq a.aD) q.ao q.aM) 0 (ix x.au.Base 0 x.au.aJ) a):=
   nh (λb=>OS D b/\hQ a b) _ 0 a (λb j q d g=>by
    refine⟨g.1.send ((uQ (by rw[g.2.ps]) _).trans n) (λ_ y o=>?_),g.2.send ..⟩;rw[g.2.ps,de,m]at o;rw[<-dF o];have:=k _ _ _ _ d
    unfold fe;omega) ⟨h,X,X,X⟩
  refine f.1.send ((uQ (by rw[f.2.ps]) _).trans n) (λe=>absurd e ab)
theorem OS.wQ{D:Nat}{a:AW}(h:OS D a)(p:Int):OS D (gB a p).1:=by
 unfold gB
 cases e:dq a p with
 |false=>exact h
 |true=>
  obtain⟨i,rfl,hi⟩:=fP.1 e;have d:a.ps[i]?=some a.ps[i]:=by simp[hi]
  generalize a.ps[i]=x at d;rw[de,d];exact h.set (y:={x with ea:=true}) d (dO _) (h.cap x (dj d)) (jY _) X (λq=>by cases q) (λq=>q)
theorem Ka{n:Int}(h:0<=n):∀k:Nat,mx (n+k)=mx n++(List.range k).map λ(j:Nat)=>n+(j:Int)
 |0=>by simp
 |k+1=>by rw[show n+((k+1:Nat):Int)=(n+(k:Int))+1 by omega,Vv O,Ka h k,A0,kG,f9];rfl
theorem Z7{α:Type}{l:List α}{i:Nat}{y:α}(hi:i<l.length):∀(j:Nat)z,(l.set i y)[j]?=some z->(j=i/\z=y)\/(j≠i/\l[j]?=some z):=λj z a=>by
 by_cases c:j=i
 .subst c;rw[ir hi]at a;exact .inl ⟨X,(dF a).symm⟩
 .rw[jI (λe=>c e.symm)]at a;exact .inr ⟨c,a⟩
theorem Wv(b:AW)(p q:Int)(t:Y):∀n∈(fp b p q t).ah,n∈b.ah\/(n.ba=2/\n.aw=sq b.aD):=by
 unfold fp;refine nh (λc:AW=>∀n∈c.ah,n∈b.ah\/(n.ba=2/\n.aw=sq b.aD)) _ 0 _ (λc j x _ d=>?_) (λn a=>.inl a)
 cases act c (j:Int)with
 |false=>exact d
 |true=>
  rw[bM];intro n a;rcases Z0 _ _ _ _ _ _ n a with q|q
  .exact d n q
  .rw[q];exact .inr ⟨X,X⟩
theorem OS.order{D B fu:Nat}{base:List ay}{a:AW}{n:aK}(h:OS D a)(hP:PV base a)(hG:GA B a)(T:Mb a)(pi:200<fu)(s:GN n)(hk:n.ba=1)(xh:dq a n.aw=true)(av:∀x,a.ps[n.aw.toNat]?=some x->n.ao<fe x.au):OS D (jN fu a n):=by
 obtain⟨i,hi,L⟩:=fP.1 xh;have F:a.ps[i]?=some a.ps[i]:=by simp[L]
 generalize a.ps[i]=x at F;have hp:=hG.ps x (dj F);have xm:=s.1.seq;have ht:=s.2.1 hk;have hs:=av x (by rw[hi];exact F);have hpb:=hp.base;have sD:n.ao<=16777214:=by unfold fe at hs;omega
 obtain⟨ac8,K⟩:=h.oA i x F;unfold jN;rw[hi,de,F];simp only;obtain⟨_,t2,_,t4⟩:=vN (r:=x.bw) (p:=⟨n.ao,n.aM⟩) pi hp.iw.1 ⟨xm.1,sD⟩ (by simp only;omega);rw[cJ (show ¬n.ao>16777214 by omega),aW];generalize iY fu x.bw ⟨n.ao,n.aM⟩=r at t2 t4;obtain⟨o,ts⟩:=r;simp only at t2 t4 ⊢;have mu:=t2.next;have EI:=hp.iw.1.lo;have aB:∀(j:Nat)t,ts[j]?=some t->x.bw.Next+(j:Int)<fe x.au:=λj t hj=>by
  rcases t2.au j t hj with q|q
  .exact K _ q
  .have:x.bw.Next+(j:Int)=n.ao:=by injection q
   omega
 have Ur:o.Next<=fe x.au:=by
  rcases pr ts.length with e|e
  .omega
  .have hg:ts[ts.length-1]?=some (ts[ts.length-1]'O):=by simp
   have:=aB _ _ hg;omega
 have fin:=sk (f:=λ(b:AW)j t=>fp b (i:Int) (x.bw.Next+(j:Int)) t) (λj b=>b.ps=a.ps.set i {x with bw:=o}/\b.aD=a.aD/\(∃more:List (Int×Int×Y),b.ord=a.ord++more/\own i more=((List.range j).map λ(k:Nat)=>x.bw.Next+(k:Int))/\∀m∈more,m.1=(i:Int))/\∀n∈b.ah,n∈a.ah\/(n.ba=2/\n.aw=sq a.aD)) (l:=ts) (λj t b hj hb=>by
  obtain⟨M,P,⟨more,b3,b4,W⟩,b6⟩:=hb;refine⟨by rw[(pT ..).ps];exact M,by rw[(pT ..).aD];exact P,⟨more++[((i:Int),x.bw.Next+(j:Int),t)],?_,?_,λm T=>?_⟩,λn s=>?_⟩
  .rw[(pT ..).ord];show b.ord++_=_;rw[b3,f9]
  .rw[pU,b4,BG,ce X,A0,kG];rfl
  .rcases e9.1 T with q|q
   .exact W m q
   .rw[iq.1 q]
  .rcases Wv _ _ _ _ n s with q|q
   .exact b6 n q
   .rw[P]at q;exact .inr q) ts.length 0 {a with ps:=a.ps.set i {x with bw:=o}} O ⟨X,X,⟨[],by simp,by simp[own],λm T=>by cases T⟩,λn s=>.inl s⟩
 rw[eT]at fin;generalize foldI (λ(b:AW)j t=>fp b (i:Int) (x.bw.Next+(j:Int)) t) 0 ts {a with ps:=a.ps.set i {x with bw:=o}}=d at fin;obtain⟨M,P,⟨more,b3,b4,W⟩,b6⟩:=fin;have S:∀p,dq d p=dq a p:=λp=>uQ (by rw[M];simp) p;have H:∀(j:Nat)z,d.ps[j]?=some z->(j=i/\z={x with bw:=o})\/(j≠i/\a.ps[j]?=some z):=λj z g=>by rw[M]at g;exact Z7 L j z g
 refine⟨λn s=>?_,λz g=>?_,λj z g=>?_,λn s A hv z g=>?_,λj z g=>?_,λm C=>?_,λj z g ha=>?_⟩
 .rw[S];rcases b6 n s with q|q
  .exact h.sn n q
  .rw[q.2];exact Kg hG T
 .rw[M]at g;rcases kH g with q|q
  .exact h.cap z q
  .rw[q];exact h.cap x (dj F)
 .rcases H j z g with⟨rfl,rfl⟩|⟨c,q⟩
  .refine⟨Ur,λp Uv=>?_⟩;rcases(t2.fE p Uv).2.2 with q|q
   .exact K p q
   .rw[q];exact hs
  .exact h.oA j z q
 .rcases b6 n s with q|q
  .rw[P]at hv;rcases H _ z g with⟨c,rfl⟩|⟨c,q2⟩
   .exact h.note n q A hv x (by rw[c];exact F)
   .exact h.note n q A hv z q2
  .rw[q.1]at A;exact absurd A ab
 .rw[b3,pU];rcases H j z g with⟨rfl,rfl⟩|⟨c,q⟩
  .rw[h.nM j x F,b4];simp only;rw[mu,Ka EI]
  .have e:own j more=[]:=by
    unfold own;rw[List.map_eq_nil_iff,List.filter_eq_nil_iff];intro m C q';have h1:=W m C;have h2:m.1=(j:Int):=by simpa using q'
    omega
   rw[h.nM j z q,e,jH]
 .rw[S];rw[b3]at C;rcases e9.1 C with q|q
  .exact h.vh m q
  .rw[W m q];exact fP.2 ⟨i,X,L⟩
 .rw[b3];rw[kh g,P]at ha;have V:∀y,a.ps[j]?=some y->y.ea=z.ea->y.au=z.au->y.to=z.to->z.au.Base<=(own j ((a.ord++more).take z.to.Next.toNat)).length:=λy hy e1 e2 e3=>by
   have Q:act a (j:Int)=true:=by rw[kh hy,e1];exact ha
   obtain⟨tt,_,_⟩:=hP.bd j y hy Q;rw[E3 (by rw[<-e3];omega),<-e2,<-e3];exact h.base j y hy Q
  rcases H j z g with⟨rfl,rfl⟩|⟨c,q⟩
  .exact V x F X X X
  .exact V z q X X X
theorem OS.fd{D B:Nat}{a:AW}(d:GA B a)(j:Mb a)(f:Int):∀(k i:Nat)(b:AW),OS D b->hQ a b->OS D (fd (sq a.aD) f k i b)
 |0,_,_,h,_=>h
 |k+1,i,b,h,g=>by
  unfold Go.Proofs.YtklkkoelldkncaaGreatDoor.fd
  cases l:b.ord[i]? with
  |none=>exact h
  |some m=>exact OS.fd d j f k (i+1) _ (h.send ((uQ (by rw[g.ps]) _).trans (Kg d j)) (λe=>absurd e ab)) (g.send ..)
theorem Ea(f:aw)(k:Int):fe (lb f k)=fe f/\(lb f k).Base<=max f.Base k:=by
 unfold lb fe;by_cases c:k>f.Base+f.aJ.length
 .rw[dA c,bM];omega
 .rw[cJ c,aW];simp only[gM];omega
theorem WE{i:Nat}{l:List (Int×Int×Y)}{n:Int}{k:Nat}{m:Int×Int×Y}(h:own i l=mx n)(p:l[k]?=some m)(hi:m.1=(i:Int)):m.2.1=((own i (l.take k)).length:Int)/\own i (l.take (k+1))=own i (l.take k)++[m.2.1]:=by
 have f:own i (l.take (k+1))=own i (l.take k)++[m.2.1]:=by rw[uF,p,xv,pU,BG,ce hi]
 have j:l=l.take (k+1)++l.drop (k+1):=(eD _ _).symm;have g:own i l=own i (l.take k)++[m.2.1]++own i (l.drop (k+1)):=by rw[<-f,<-pU,<-j]
 refine⟨?_,f⟩;have a:(mx n)[(own i (l.take k)).length]?=some m.2.1:=by rw[<-h,g,f9,pz (dO _),Nat.sub_self];rfl
 unfold mx at a;rw[kD]at a;obtain⟨q,s,e⟩:=pw.1 a;obtain⟨o,d⟩:=ed s;rw[List.getElem_range]at d;omega
theorem WC(i:Nat)(l:List (Int×Int×Y))(k:Nat):(own i (l.take k)).length<=(own i (l.take (k+1))).length:=by rw[uF,pU,cr];omega
theorem Mx{B fu:Nat}{base:List ay}{a:AW}{n:aK}{x:bm}{i:Nat}(P:PV base a)(k:GA B a)(l:200<fu)(W:GN n)(T:n.ba=2)(hv:n.bh=a.aD.bS)(s:NV a.aD.bS a.ord n)(K:a.ps[i]?=some x)(Q:act a (i:Int)=true)(H:n.ao<=16777214):
 ∃(N:Nat)(o:To)(ts:List Y),x.to.Next=(N:Int)/\iY fu x.to ⟨n.ao,n.aM⟩=(o,ts)/\o.Next=((N+ts.length:Nat):Int)/\lR o/\(∀y∈o.bg,y∈x.to.bg\/y=⟨n.ao,n.aM⟩)/\ts.length<=17/\∀(j:Nat)t,ts[j]?=some t->∃m,a.ord[N+j]?=some m/\t=cU m/\G3 m:=by
 have hp:=k.ps x (dj K);obtain⟨⟨t1,t2⟩,t3,t4⟩:=P.bd i x K Q;obtain⟨F,d,g⟩:=s.2 T hv;have A:=W.1.seq;have V:=Ax (k.ord.2 F (dj d));obtain⟨_,f,_,D⟩:=vN (r:=x.to) (p:=⟨n.ao,n.aM⟩) l hp.to.1 ⟨A.1,H⟩ (by simp only;rw[g];omega);have e:=Cn hp.to.1 (λy C=>(hp.to.2 y C).1) H f;generalize iY fu x.to ⟨n.ao,n.aM⟩=r at f D e;obtain⟨o,ts⟩:=r;simp only at f D e;obtain⟨N,M⟩:=kn t1;have mu:=f.next;refine⟨N,o,ts,M,X,by omega,e,λy C=>(f.fE y C).2.2,D,λj t S=>?_⟩;rcases f.au j t S with q|q
 .obtain⟨m,h,L⟩:=t4 _ q;refine⟨m,?_,L,k.ord.2 m (dj h)⟩;have:((x.to.Next+(j:Int))).toNat=N+j:=by omega
  simp only at h;rw[this]at h;exact h
 .have q1:x.to.Next+(j:Int)=n.ao:=by injection q
  have q2:t=n.aM:=by injection q
  refine⟨F,?_,q2.trans g,k.ord.2 F (dj d)⟩;have:n.ao.toNat=N+j:=by omega
  rw[this]at d;exact d
theorem OS.take{D B fu:Nat}{base:List ay}{a:AW}{n:aK}(h:OS D a)(W:PV base a)(V:GA B a)(H:200<fu)(hn:GN n)(hk:n.ba=2)(hv:n.bh=a.aD.bS)(L:NV a.aD.bS a.ord n)(g:act a n.To=true):OS D (jO fu a n):=by
 have K:dq a n.To=true:=by unfold act at g;rw[eJ,eJ]at g;exact g.1.1
 obtain⟨i,hi,s⟩:=fP.1 K;have d:a.ps[i]?=some a.ps[i]:=by simp[s]
 generalize a.ps[i]=x at d;rw[hi]at g;unfold jO;rw[hi,de,d];simp only;by_cases P:n.ao>16777214
 .rw[dA P];exact h
 .obtain⟨N,o,ts,hN,T,ho,_,_,_,aB⟩:=Mx W V H hn hk hv L d g O;have p:=h.base i x d g;rw[cJ P,aW,T];simp only
  have fin:=sk (f:=λ(b:AW)(_:Nat)t=>gJ b (i:Int) t) (λj b=>∃y:bm,b={a with ps:=a.ps.set i y}/\y.ea=x.ea/\y.to=o/\y.bw=x.bw/\fe y.au=fe x.au/\y.au.Base<=(own i (a.ord.take (N+j))).length) (l:=ts) (λj t b hj hb=>by
   obtain⟨y,rfl,A,C,F,k,M⟩:=hb;obtain⟨m,Q,rfl,S⟩:=aB j t hj;refine⟨{y with bd:=y.bd++[⟨m.1,m.2.2⟩],au:=bif m.1==(i:Int)then lb y.au (m.2.1+1)else y.au},?_,A,C,F,?_,?_⟩
   .unfold gJ;simp only;rw[de,ir s,vv S];simp only[l0]
   .simp only
    cases (m.1==(i:Int))with
    |true=>rw[bM,(Ea ..).1];exact k
    |false=>exact k
   .have hmo:=WC i a.ord (N+j);simp only;rw[show N+(j+1)=N+j+1 by omega]
    cases hc:(m.1==(i:Int))with
    |true=>obtain⟨q1,q2⟩:=WE (h.nM i x d) Q (by simpa using hc);have:=(Ea y.au (m.2.1+1)).2;rw[bM,q2,cr];simp only[bN,bV];omega
    |false=>rw[aW];omega) ts.length 0 {a with ps:=a.ps.set i {x with to:=o}} O ⟨{x with to:=o},X,X,X,X,X,by
     rw[mA];have:x.to.Next.toNat=N:=by omega
     rw[this]at p;exact p⟩
  rw[eT]at fin;obtain⟨y,e,A,C,F,k,M⟩:=fin;rw[e];refine h.set d (dO _) (by rw[k];exact h.cap x (dj d)) (by rw[k];exact jY _) F (by rw[A];exact λq=>q) (λ_ _=>?_);rw[C,ho,de];exact M
theorem OS.DV{D B fu:Nat}{base:List ay}{a:AW}{n:aK}(h:OS D a)(k:PV base a)(f:GA B a)(l:Mb a)(e:200<fu)(m:GN n)(s:n.bh=a.aD.bS)(j:NV a.aD.bS a.ord n)(p:act a n.To=true)(i:n.ba=1->∀x,a.ps[n.aw.toNat]?=some x->n.ao<fe x.au):OS D (iQ fu a n):=by
 unfold iQ
 cases g:dq a n.aw with
 |false=>exact h
 |true=>
 simp only[ii,aW]
 cases o:n.ba==1 with
 |true=>
  have d:n.ba=1:=by simpa using o
  exact h.order k f l e m d g (i d)
 |false=>
 cases n.ba==3 with
 |true=>exact OS.fd f l _ _ _ _ h ⟨X,X,X⟩
 |false=>
 cases q:n.ba==2 with
 |true=>exact h.take k f e m (by simpa using q) s j p
 |false=>exact h
theorem OS.move{D B fu:Nat}{base:List ay}{a:AW}(h:OS D a)(o:PV base a)(l:GA B a)(x:Mb a)(i:200<fu)(k d:Int):OS D (iW fu a k d).1:=by
 unfold iW
 cases !(decide (d>=1)&&decide (d<=3))with
 |true=>exact h
 |false=>
 cases !(decide (k>=0)&&decide (k<=(a.ah.length:Int)-1))with
 |true=>exact h
 |false=>
 cases (d==3)&&decide (a.ah.length=60)with
 |true=>exact h
 |false=>
 cases y:a.ah[k.toNat]? with
 |none=>exact h
 |some n=>
  have e:=dj y;simp only[aW]
  cases d==3 with
  |true=>
   refine h.sub λm g=>?_;rcases e9.1 g with q|q
   .exact q
   .rw[iq.1 q];exact e
  |false=>
   rw[aW];have f:∀m∈a.ah.take k.toNat++a.ah.drop (k.toNat+1),m∈a.ah:=λm g=>by
    rcases e9.1 g with q|q
    .exact qZ q
    .exact oy q
   have p:OS D {a with ah:=a.ah.take k.toNat++a.ah.drop (k.toNat+1)}:=h.sub f
   cases j:((d==1)&&(n.bh==a.aD.bS))&&act a n.To with
   |false=>exact p
   |true=>
    rw[eJ,eJ]at j;have s:n.bh=a.aD.bS:=by simpa using j.1.2
    exact p.DV (o.Cr f) (l.Bq k.toNat) x i (l.ah.2 n e) s (o.ah n e) j.2 (λt=>h.note n e t s)
theorem Rr{B fu:Nat}{a:AW}{g:List (Int×Int)}{n:aK}(F:20<=fu)(V:Mb a)(hs:0<=n.ao/\n.ao<=16777215)(ha:GA B a)(hB:B<=2^40):∀(k i:Nat)(b:AW)(d:Nat),k<d->(i:Int)+k=n.ao+4->hQ a b->GA B b->
 ∃j,df (pX fu (a.r g) n) d ((i:Int),b.r g,b.ah)=some (.inl (j,(fd (sq a.aD) n.aw k i b).r g,(fd (sq a.aD) n.aw k i b).ah))/\hQ a (fd (sq a.aD) n.aw k i b)/\GA B (fd (sq a.aD) n.aw k i b):=by
 have A:((a.r g).order.length:Int)=a.ord.length:=by show((a.ord.map _).length:Int)=_;rw[kF]
 have w4:aq (n.ao+4)=n.ao+4:=bO O O;have l:∀b:AW,hQ a b->({b.r g with aN:=(a.r g).aN,order:=(a.r g).order,be:=(a.r g).be,bb:=b.ah}:bj)=b.r g:=λb f=>kO (g:=g) f.ord;have stop:∀(i:Nat)(b:AW)(d:Nat),0<d->hQ a b->¬((i:Int)<a.ord.length/\(i:Int)<n.ao+4)->∃j,df (pX fu (a.r g) n) d ((i:Int),b.r g,b.ah)=some (.inl (j,b.r g,b.ah)):=λi b d D f hc=>by
  obtain⟨d,rfl⟩:∃q,d=q+1:=⟨d-1,by omega⟩
  refine⟨i,?_⟩;have p:=l b f;dsimp only at p;unfold df pX;simp only;rw[A,w4,cJ (show ¬(i:Int)<min (a.ord.length:Int) (n.ao+4) by omega),p];rfl
 intro k
 induction k with
 |zero=>intro i b d D hi f o;obtain⟨j,L⟩:=stop i b d D f O;exact⟨j,L,f,o⟩
 |succ k W=>
  intro i b d D hi f o
  cases h:b.ord[i]? with
  |none=>have y:b.ord.length<=i:=Bf.1 h;obtain⟨j,L⟩:=stop i b d O f (by rw[f.ord]at y;omega);unfold fd;rw[h];exact⟨j,L,f,o⟩
  |some m=>
   have K:i<b.ord.length:=(ed h).1;have M:i<a.ord.length:=by rw[<-f.ord];exact K
   have t:=o.ord.2 m (dj h);have P:=o.ord.1;obtain⟨d,rfl⟩:∃q,d=q+1:=⟨d-1,by omega⟩
   have x:=f.send 2 (sq a.aD) n.aw (i:Int) (cU m);have H:GA B (dD b 2 (sq a.aD) n.aw (i:Int) (cU m)):=o.send (λe=>absurd e ab) (λ_=>⟨m,t,X⟩);obtain⟨j,Q,S,T⟩:=W (i+1) _ d O (by push_cast;omega) x H;unfold fd;rw[h];refine⟨j,?_,S,T⟩;have p:=l b f;have s:=l _ x;dsimp only at p s;have C:pX fu (a.r g) n ((i:Int),b.r g,b.ah)=some (.go (((i+1:Nat):Int),(dD b 2 (sq a.aD) n.aw (i:Int) (cU m)).r g,(dD b 2 (sq a.aD) n.aw (i:Int) (cU m)).ah)):=by unfold pX;simp only;rw[A,w4,dA (show(i:Int)<min (a.ord.length:Int) (n.ao+4) by omega),bM,p,My F o (V.same f.aD (by rw[f.ps])) n.aw h t,aj,f.aD];simp only;rw[s,bO O O];rfl
   unfold df;rw[C,aj];exact Q
theorem Rs{B fu:Nat}{a:AW}{g:List (Int×Int)}{n:aK}(i:20<=fu)(h:GA B a)(x:B<=2^40)(A:Mb a)(C:GN n)(y:n.ba=3):
 nJ fu (a.r g) n=some ((oW a n).ord.map (·.2.2),(oW a n).ord.map (λm=>(⟨m.1,m.2.1⟩:Mark)),(oW a n).ah,(oW a n).r g):=by
 have l:=C.1.seq;obtain⟨s,e⟩:=kn l.1;obtain⟨j,D,f,F⟩:=Rr (g:=g) (n:=n) i A l h x 4 s a fu O O ⟨X,X,X⟩ h;have t:oW a n=fd (sq a.aD) n.aw 4 s a:=by unfold oW;rw[e];rfl
 unfold nJ;rw[y,t];have o:((3:Int)==1)=false:=X;simp only[o,mC,bM,aW];have k:df (pX fu (a.r g) n) fu (n.ao,a.r g,(a.r g).bb)=some (.inl (j,(fd (sq a.aD) n.aw 4 s a).r g,(fd (sq a.aD) n.aw 4 s a).ah)):=by rw[e];exact D
 rw[k,kX];generalize fd (sq a.aD) n.aw 4 s a=d at f;have:=kO (g:=g) f.ord;have p:(a.r g).order=d.ord.map (·.2.2):=by rw[f.ord];rfl
 have q:(a.r g).be=d.ord.map (λm=>(⟨m.1,m.2.1⟩:Mark)):=by rw[f.ord];rfl
 dsimp only at this ⊢;rw[p,q];rfl
theorem TG{a:AW}{g:List (Int×Int)}{n:aK}{i N j:Nat}{o x9:To}{y:bm}{m:Int×Int×Y}(hi:n.To=(i:Int))(k:i<a.ps.length)(D:i<6)(hN:x9.Next=(N:Int))(hNl:N+j<=2^40)(T:a.ord[N+j]?=some m)(B:G3 m)(S:y.bd.length<=2^39)(Q:GF y.au)
 (H:m.1=(i:Int)->m.2.1<fe y.au):
 vq (a.r g) n x9 j (({a with ps:=a.ps.set i y}:AW).r g)=some ((gJ {a with ps:=a.ps.set i y} (i:Int) (cU m)).r g):=by
 have hb:=Q.base;have hl:=Q.late;have g2:=B.2.1;have hw:aq (x9.Next+(j:Int))=((N+j:Nat):Int):=by rw[hN,bO O O];omega
 have q:i<(a.ps.set i y).length:=by simpa using k
 have t:(a.ps.set i y)[i]?=some y:=ir k;have V:(a.r g).be[N+j]?=some ⟨m.1,m.2.1⟩:=by show(a.ord.map _)[N+j]?=_;rw[kD,T];rfl
 have W:(a.r g).order[N+j]?=some m.2.2:=by show(a.ord.map _)[N+j]?=_;rw[kD,T];rfl
 have l:∀f:aw,({({a with ps:=a.ps.set i y}:AW).r g with du:=RV [] (·.bd) (a.ps.set i ({y with bd:=y.bd++[⟨m.1,m.2.2⟩],au:=f}:bm)),aJ:=RV aw.zero (·.au) (a.ps.set i ({y with bd:=y.bd++[⟨m.1,m.2.2⟩],au:=f}:bm))}:bj)=({a with ps:=a.ps.set i ({y with bd:=y.bd++[⟨m.1,m.2.2⟩],au:=f}:bm)}:AW).r g:=λf=>by unfold AW.r;simp only[pD];have e:=pJ (f:=(·.to)) (d:=To.zero) (y:=({y with bd:=y.bd++[⟨m.1,m.2.2⟩],au:=f}:bm)) t X;have e':=pJ (f:=(·.bw)) (d:=To.zero) (y:=({y with bd:=y.bd++[⟨m.1,m.2.2⟩],au:=f}:bm)) t X;rw[l0]at e e';rw[e,e']
 have hM:gJ {a with ps:=a.ps.set i y} (i:Int) (cU m)={a with ps:=a.ps.set i ({y with bd:=y.bd++[⟨m.1,m.2.2⟩],au:=bif m.1==(i:Int)then lb y.au (m.2.1+1)else y.au}:bm)}:=by unfold gJ;simp only;rw[de,t,vv B];simp only[l0]
 have h:∀f:aw,(RV [] (·.bd) (a.ps.set i y)).setIfInBounds i (y.bd++([(⟨m.1,m.2.2⟩:ay)]:List ay))=RV [] (·.bd) (a.ps.set i ({y with bd:=y.bd++[⟨m.1,m.2.2⟩],au:=f}:bm)):=λf=>by rw[RV.set (y:=({y with bd:=y.bd++[⟨m.1,m.2.2⟩],au:=f}:bm)) q X,l0]
 rw[hM];unfold vq
 rw[hw,cY,V,aj,hi,show(({a with ps:=a.ps.set i y}:AW).r g).du=RV [] (·.bd) (a.ps.set i y)from X,pI D t,aj,DP O,aj,cY,W,aj,eu (by simp;omega),aj,fb,aj,fb,
  show(({a with ps:=a.ps.set i y}:AW).r g).aJ=RV aw.zero (·.au) (a.ps.set i y)from X,pI D t,aj,de]
 simp only;have es:({ay.zero with aw:=m.1,aM:=m.2.2}:ay)=⟨m.1,m.2.2⟩:=X;dsimp only at es;rw[es,ls,aj]
 cases C:((m.1==(i:Int))&&decide (m.2.1>=y.au.Base))with
 |false=>
  have P:(bif m.1==(i:Int)then lb y.au (m.2.1+1)else y.au)=y.au:=by
   cases hq:(m.1==(i:Int))with
   |false=>rfl
   |true=>rw[hq,l7,px]at C;rw[bM];unfold lb;rw[cJ O,aW,show max (m.2.1+1-y.au.Base) 0=0 by omega];simp
  rw[P,aW,h y.au];have p:=l y.au;have s:RV aw.zero (·.au) (a.ps.set i ({y with bd:=y.bd++[⟨m.1,m.2.2⟩],au:=y.au}:bm))=RV aw.zero (·.au) (a.ps.set i y):=by have e:=pJ (f:=(·.au)) (d:=aw.zero) (y:=({y with bd:=y.bd++[⟨m.1,m.2.2⟩],au:=y.au}:bm)) t X;rw[l0]at e;exact e
  rw[s]at p;exact congrArg some p
 |true=>
  rw[eJ,gL]at C;have K:m.1=(i:Int):=by simpa using C.1
  have F:=H K;unfold fe at F;obtain⟨d,hd⟩:∃d:Nat,m.2.1+1-y.au.Base=(d:Int):=kn O;have P:(bif m.1==(i:Int)then lb y.au (m.2.1+1)else y.au)=⟨m.2.1+1,y.au.aJ.drop d⟩:=by rw[C.1,bM];unfold lb;rw[cJ O,aW,show max (m.2.1+1-y.au.Base) 0=(d:Int) by omega,de,show y.au.Base+(d:Int)=m.2.1+1 by omega]
  have A:co y.au.aJ (aq (aq (m.2.1+1)-y.au.Base)) (y.au.aJ.length:Int)=some (y.au.aJ.drop d):=by rw[bO (x:=m.2.1+1) O O,hd,bO O O];unfold co;rw[ce O];simp only[de];rw[iI (by simp)]
  rw[P,bM,A,aj,fb];have L:(RV aw.zero (·.au) (a.ps.set i y)).setIfInBounds i (⟨y.au.Base,y.au.aJ.drop d⟩:aw)=RV aw.zero (·.au) (a.ps.set i ({y with au:=⟨y.au.Base,y.au.aJ.drop d⟩}:bm)):=by rw[RV.set (y:=({y with au:=⟨y.au.Base,y.au.aJ.drop d⟩}:bm)) q X,l0]
  have M:(RV aw.zero (·.au) (a.ps.set i ({y with au:=⟨y.au.Base,y.au.aJ.drop d⟩}:bm))).setIfInBounds i (⟨m.2.1+1,y.au.aJ.drop d⟩:aw)=RV aw.zero (·.au) (a.ps.set i ({y with bd:=y.bd++[⟨m.1,m.2.2⟩],au:=⟨m.2.1+1,y.au.aJ.drop d⟩}:bm)):=by rw[RV.set (y:=({y with bd:=y.bd++[⟨m.1,m.2.2⟩],au:=⟨m.2.1+1,y.au.aJ.drop d⟩}:bm)) (by simpa using k) X,l0]
  rw[L,pI D (ir k),aj,fb,bO (x:=m.2.1+1) O O];simp only;rw[M,h ⟨m.2.1+1,y.au.aJ.drop d⟩];exact congrArg some (l ⟨m.2.1+1,y.au.aJ.drop d⟩)
theorem aaW{D B fu:Nat}{base:List ay}{a:AW}{g:List (Int×Int)}{n:aK}(A:200<fu)(h:OS D a)(hP:PV base a)(p:GA B a)(hB:B<=2^34)(hn:GN n)(M:n.ba=2)(hv:n.bh=a.aD.bS)(C:NV a.aD.bS a.ord n)(s:act a n.To=true)(hs:n.ao<=16777214):
 nJ fu (a.r g) n=some ((jO fu a n).ord.map (·.2.2),(jO fu a n).ord.map (λm=>(⟨m.1,m.2.1⟩:Mark)),(jO fu a n).ah,(jO fu a n).r g):=by
 have P:dq a n.To=true:=by unfold act at s;rw[eJ,eJ]at s;exact s.1.1
 obtain⟨i,hi,e⟩:=fP.1 P;have k:a.ps[i]?=some a.ps[i]:=by simp[e]
 generalize a.ps[i]=x at k;have h6:i<6:=by have:=p.n.2;omega
 have hp:=p.ps x (dj k);rw[hi]at s;have S:=hn.1.seq;obtain⟨N,o,ts,hN,et,ho,_,_,JT,aB⟩:=Mx hP p A hn M hv C k s hs;obtain⟨mn,Q,T⟩:=C.2 M hv;have xi:=Ax (p.ord.2 mn (dj Q));have hol:=p.ord.1;unfold nJ jO;have e1:((2:Int)==1)=false:=X;have e2:((2:Int)==3)=false:=X;rw[M,hi,de,k];simp only[e1,e2,mC,bM,aW];rw[show(a.r g).dK=RV To.zero (·.to) a.ps from X,pI h6 k,aj,aj];have ep:({aP.zero with ao:=n.ao,aM:=n.aM}:aP)=⟨n.ao,n.aM⟩:=X;dsimp only at ep;rw[ep,KN A hp.to.1 ⟨S.1,hs⟩ (by simp only;rw[T];omega),et,aj,fb,cJ (show ¬n.ao>16777214 by omega),aW];simp only[aj,fb];have F:(RV To.zero (·.to) a.ps).setIfInBounds i (⟨o.Next,o.bg⟩:To)=RV To.zero (·.to) (a.ps.set i {x with to:=o}):=RV.set e X;have H:({a.r g with dK:=RV To.zero (·.to) (a.ps.set i {x with to:=o})}:bj)=({a with ps:=a.ps.set i {x with to:=o}}:AW).r g:=by unfold AW.r;simp only[pD];rw[pJ (f:=(·.bd)) (y:=({x with to:=o}:bm)) k X,pJ (f:=(·.bw)) (y:=({x with to:=o}:bm)) k X,pJ (f:=(·.au)) (y:=({x with to:=o}:bm)) k X]
 dsimp only at H;rw[F,H]
 obtain⟨V,y,W,_⟩:=mR (body:=vq (a.r g) n x.to) (λb:AW=>b.r g) (λb _ t=>gJ b (i:Int) t)
  (λj b=>∃y:bm,b={a with ps:=a.ps.set i y}/\fe y.au=fe x.au/\GF y.au/\y.bd.length<=B+j) (l:=ts) (λj t b hj hb=>by
   obtain⟨y,rfl,K,L,bl⟩:=hb;obtain⟨m,m1,rfl,m3⟩:=aB j t hj;have xg:=(ed hj).1;have hNj:=(ed m1).1;refine⟨TG (o:=o) hi e h6 hN O m1 m3 O L (λq=>by rw[K];exact h.seq (dj m1) q k),{y with bd:=y.bd++[⟨m.1,m.2.2⟩],au:=bif m.1==(i:Int)then lb y.au (m.2.1+1)else y.au},?_,?_,?_,?_⟩
   .unfold gJ;simp only;rw[de,ir e,vv m3];simp only[l0]
   .simp only
    cases (m.1==(i:Int))with
    |true=>rw[bM,(Ea ..).1];exact K
    |false=>exact K
   .simp only
    cases (m.1==(i:Int))with
    |true=>exact Ez L
    |false=>exact L
   .simp only[cr,bN,bV];omega) ts.length 0 {a with ps:=a.ps.set i {x with to:=o}} O ⟨{x with to:=o},X,X,hp.gf,by have:=hp.bd;simp only;omega⟩
 rw[eT]at V W;generalize foldI (λ(b:AW)(_:Nat)t=>gJ b (i:Int) t) 0 ts {a with ps:=a.ps.set i {x with to:=o}}=d at V W;rw[V,aj,W];rfl
theorem RU{D B fu:Nat}{base:List ay}{a:AW}{g:List (Int×Int)}{n:aK}(j:200<fu)(h:OS D a)(M:PV base a)(f:GA B a)(C:B<=2^34)(V:D<=2000000)(H:Mb a)(o:ga g a)(t:GN n)(K:n.bh=a.aD.bS)(l:NV a.aD.bS a.ord n)(P:act a n.To=true)(d:dq a n.aw=true)(q:n.ba=1->∀x,a.ps[n.aw.toNat]?=some x->n.ao<fe x.au):
 nJ fu (a.r g) n=some ((iQ fu a n).ord.map (·.2.2),(iQ fu a n).ord.map (λm=>(⟨m.1,m.2.1⟩:Mark)),(iQ fu a n).ah,(iQ fu a n).r g):=by
 unfold iQ;rw[d];simp only[ii,aW]
 cases y:n.ba==1 with
 |true=>
  have e:n.ba=1:=by simpa using y
  rw[bM];obtain⟨i,hi,p⟩:=fP.1 d;have L:a.ps[i]?=some a.ps[i]:=by simp[p]
  have Q:=q e a.ps[i] (by rw[hi];exact L);have W:=(f.ps _ (dj L)).base;exact Wy j f C H o t e d (by unfold fe at Q;omega)
 |false=>
 cases A:n.ba==3 with
 |true=>exact Rs O f O H t (by simpa using A)
 |false=>
 cases F:n.ba==2 with
 |true=>
  have k:n.ba=2:=by simpa using F
  obtain⟨mn,s,_⟩:=l.2 k K;have S:=(ed s).1;have T:=h.len f;exact aaW j h M f C t k K l P O
 |false=>unfold nJ;rw[y,A,F];rfl
theorem V7{D B fu:Nat}{base:List ay}{a:AW}{g:List (Int×Int)}(pi:200<fu)(h:OS D a)(hP:PV base a)(L:GA B a)(hB:B<=2^34)(hD:D<=2000000)(hm:Mb a)(hgo:ga g a)(k d:Int):
 ym fu (a.r g) k d=some ((iW fu a k d).1.ord.map (·.2.2),(iW fu a k d).1.ord.map (λm=>(⟨m.1,m.2.1⟩:Mark)),(iW fu a k d).1.r g,(iW fu a k d).2):=by
 unfold ym iW;have ac5:=L.ah.1;rw[or_some,aj,show(a.r g).bb=a.ah from X];have hh:(decide (d<1)||decide (d>3))=!(decide (d>=1)&&decide (d<=3)):=by rw[eZ];simp only[py,gL,Bool.not_eq_true',uM,px];omega
 rw[hh]
 cases hhw:(decide (d>=1)&&decide (d<=3))with
 |false=>rfl
 |true=>
 have AM:(decide (k<0)||decide (k>=(a.ah.length:Int)))=!(decide (k>=0)&&decide (k<=(a.ah.length:Int)-1)):=by rw[eZ];simp only[py,gL,Bool.not_eq_true',uM,px];omega
 rw[ii,aW,aW,or_some,aj,AM]
 cases C:(decide (k>=0)&&decide (k<=(a.ah.length:Int)-1))with
 |false=>rfl
 |true=>
 rw[eJ,gL,gL]at C;obtain⟨i,rfl⟩:=kn C.1;have ED:i<a.ah.length:=by omega
 have e6:((a.ah.length:Int)==60)=decide (a.ah.length=60):=by rw[eZ];simp;omega
 rw[ii,aW,aW,e6,ls,aj]
 cases h6:((d==3)&&decide (a.ah.length=60))with
 |true=>rfl
 |false=>
 have M:a.ah[i]?=some a.ah[i]:=by simp[ED]
 generalize a.ah[i]=n at M;have l:=dj M;rw[aW,aW,cY,M,aj,de,M];simp only
 cases h3:(d==3)with
 |true=>rw[bM,bM,eu (by simp;omega),aj,fb];rfl
 |false=>
  have c1:co a.ah 0 (i:Int)=some (a.ah.take i):=by unfold co;rw[ce O];simp
  have c2:co a.ah ((i+1:Nat):Int) (a.ah.length:Int)=some (a.ah.drop (i+1)):=by unfold co;rw[ce O];simp only[de];rw[iI (by simp)]
  have o:∀m∈a.ah.take i++a.ah.drop (i+1),m∈a.ah:=λm uq=>by
   rcases e9.1 uq with q|q
   .exact qZ q
   .exact oy q
  rw[aW,aW,c1,aj,bO (show-9223372036854775808<=(i:Int)+1 by omega) O,show(i:Int)+1=((i+1:Nat):Int) by rfl,c2,aj,Se (by simp;omega),aj,fb,ls,aj];obtain⟨b,f⟩:∃b:AW,b={a with ah:=a.ah.take i++a.ah.drop (i+1)}:=⟨_,X⟩
  have t:({a.r g with bb:=a.ah.take i++a.ah.drop (i+1)}:bj)=b.r g:=by rw[f];rfl
  dsimp only at t;have y:b.ah=a.ah.take i++a.ah.drop (i+1):=by rw[f]
  have e:b.ord=a.ord:=by rw[f]
  have s:b.aD=a.aD:=by rw[f]
  have P:GA B b:=by rw[f];exact L.Bq i
  have H:Mb b:=by rw[f];exact hm
  have A:ga g b:=by rw[f];exact hgo
  have S:PV base b:=by rw[f];exact hP.Cr o
  have Q:OS D b:=by rw[f];exact h.sub o
  have j:act b n.To=act a n.To:=by rw[f];rfl
  have F:∀p,dq b p=dq a p:=λp=>by rw[f];rfl
  have K:b.ps=a.ps:=by rw[f]
  rw[t,<-f,show(a.r g).V=a.aD from X];have UP:∃q:Nat,n.To=(q:Int):=kn (L.ah.2 n l).1.to.1;obtain⟨q,hq⟩:=UP;rw[hq]at j
  cases hc:((d==1)&&(n.bh==a.aD.bS))with
  |false=>rw[Bool.false_and];simp only[aW,aj];rw[<-y];exact congrArg some (f8 (by rw[e];rfl) (f8 (by rw[e];rfl) (f8 (kO (g:=g) e) X)))
  |true=>
   rw[eJ]at hc;have hv:n.bh=b.aD.bS:=by rw[s];simpa using hc.2
   simp only[bM,l7];rw[hq,xe H A,aj,aj,j]
   cases T:act a (q:Int)with
   |false=>simp only[aW,aj];rw[<-y];exact congrArg some (f8 (by rw[e];rfl) (f8 (by rw[e];rfl) (f8 (kO (g:=g) e) X)))
   |true=>have W:=h.sn n l;have V:=RU (g:=g) (n:=n) pi Q S P hB hD H A (L.ah.2 n l) hv (by have:=hP.ah n l;rw[s,e];exact this) (by rw[hq,j];exact T) (by rw[F];exact W) (λh1 x U6=>h.note n l h1 (by rw[<-s];exact hv) x (by rw[<-K];exact U6));simp only[bM];rw[V,aj];rfl
theorem Ap(L:List ay)(a:AW):(foldI (λb i(_:bm)=>fi L b i) 0 a.ps a).aD=a.aD/\(foldI (λb i(_:bm)=>fi L b i) 0 a.ps a).ah=a.ah/\(foldI (λb i(_:bm)=>fi L b i) 0 a.ps a).ps.length=a.ps.length/\
 ∀(k:Nat)x,a.ps[k]?=some x->(foldI (λb i(_:bm)=>fi L b i) 0 a.ps a).ps[k]?=some (bif act a (k:Int)then kA L k x else{x with bw:=⟨0,[]⟩}):=by
 have fin:=sk (f:=λ(b:AW)i(_:bm)=>fi L b i) (λj b=>b.aD=a.aD/\b.ah=a.ah/\b.ps.length=a.ps.length/\(∀k:Nat,j<=k->b.ps[k]?=a.ps[k]?)/\∀(k:Nat)x,k<j->a.ps[k]?=some x->b.ps[k]?=some (bif act a (k:Int)then kA L k x else{x with bw:=⟨0,[]⟩})) (l:=a.ps) (λi x b g t=>by
  obtain⟨o,q,b3,b4,s⟩:=t;have h:b.ps[i]?=some x:=by rw[b4 i (dO _)];exact g
  have m:=(ed h).1;have d:act b (i:Int)=act a (i:Int):=Aj o b3 (b4 i (dO _));have one:fi L b i={b with ps:=b.ps.set i (bif act a (i:Int)then kA L i x else{x with bw:=⟨0,[]⟩})}:=by unfold fi;rw[h,d]
  rw[one];refine⟨o,q,by simp[b3],λk p=>?_,λk y p n=>?_⟩
  .show(b.ps.set i _)[k]?=_;rw[jI O];exact b4 k O
  .show(b.ps.set i _)[k]?=_;by_cases c:k=i
   .subst c;rw[g]at n;rw[<-dF n,ir m]
   .rw[jI (λe=>c e.symm)];exact s k y O n) a.ps.length 0 a O ⟨X,X,X,λk _=>rfl,λk x p=>by omega⟩
 rw[eT]at fin;exact⟨fin.1,fin.2.1,fin.2.2.1,λk x g=>fin.2.2.2.2 k x (ed g).1 g⟩
theorem OS.change{D B:Nat}{base:List ay}{a:AW}(h:OS D a)(T:PV base a)(P:GA B a):OS D (iE a).1:=by
 obtain⟨Q,H⟩:=xL a.aD (gi a).1 P.num;unfold iE;generalize gi a=z at Q H;obtain⟨g,L⟩:=z;simp only at Q H ⊢
 cases hn:((gD a.aD g).2 !=0)with
 |true=>exact h
 |false=>
  have F:(gD a.aD g).2=0:=by simpa using hn
  obtain⟨m1,m2,m3⟩:=H F;rw[aW];obtain⟨S,q,b3,M⟩:=Ap L a;generalize foldI (λ(b:AW)i(_:bm)=>fi L b i) 0 a.ps a=d at S q b3 M;have C:∀p,dq ({d with aD:=(gD a.aD g).1,ord:=[]}:AW) p=dq a p:=λp=>uQ b3 p;have get:∀(i:Nat)y,d.ps[i]?=some y->∃x,a.ps[i]?=some x/\y=(bif act a (i:Int)then kA L i x else{x with bw:=⟨0,[]⟩}):=λi y f=>by
   have t:i<a.ps.length:=by rw[<-b3];exact(ed f).1
   have o:a.ps[i]?=some a.ps[i]:=by simp[t]
   have:=M i _ o;rw[f]at this;exact⟨_,o,dF this⟩
  have k:∀(i:Nat)y,d.ps[i]?=some y->0<=fe y.au/\fe y.au<=D/\y.bw=⟨0,[]⟩:=λi y f=>by
   obtain⟨x,o,e⟩:=get i y f;have hp:=(P.ps x (dj o)).base;have V:=h.cap x (dj o);rw[e]
   cases act a (i:Int)with
   |true=>
    rw[bM];refine⟨?_,?_,X⟩
    .unfold kA fe at*
     simp only[gM];omega
    .unfold kA fe at*
     simp only[gM];omega
   |false=>
    rw[aW];unfold fe at*
    exact⟨by simp only;omega,V,X⟩
  refine⟨λn l=>?_,λy f=>?_,λi y f=>?_,λn l _ hv=>?_,λi y f=>?_,λm hm=>?_,λi y f s=>?_⟩
  .rw[C];exact h.sn n (by rw[<-q];exact l)
  .obtain⟨i,hi⟩:=kE f;exact(k i y hi).2.1
  .obtain⟨q1,_,K⟩:=k i y f;rw[K];exact⟨q1,λp hp=>by cases hp⟩
  .have W:=(T.ah n (by rw[<-q];exact l)).1;have sF:n.bh=(gD a.aD g).1.bS:=hv;omega
  .obtain⟨_,_,K⟩:=k i y f;rw[K];rfl
  .cases hm
  .obtain⟨x,o,e⟩:=get i y f;rw[kh f,eJ]at s;have A:eR a.aD.bx i=true:=by
    have:eR (gD a.aD g).1.bx i=true:=s.1;rw[m3]at this;exact Kd this
   cases j:act a (i:Int)with
   |false=>rw[j,aW]at e;rw[kh o,A,l7]at j;have:=s.2;rw[e]at this;simp only at this;rw[this]at j;cases j
   |true=>rw[j,bM]at e;rw[e];exact Int.natCast_nonneg _
theorem Mb.change{B:Nat}{a:AW}(h:Mb a)(i:GA B a):Mb (iE a).1:=by
 obtain⟨f,e⟩:=xL a.aD (gi a).1 i.num;unfold iE;generalize gi a=z at f e;obtain⟨g,L⟩:=z;simp only at f e ⊢
 cases j:((gD a.aD g).2 !=0)with
 |true=>exact h
 |false=>
  have d:(gD a.aD g).2=0:=by simpa using j
  obtain⟨q,s,k⟩:=e d;rw[aW];obtain⟨l,o,b3,p⟩:=Ap L a;unfold Mb at*
  simp only;rw[k,b3,A7];have:=Nat.and_le_left (n:=a.aD.bx.toNat) (m:=(~~~g).toNat);omega
theorem ga.change{g:List (Int×Int)}{a:AW}(h:ga g a):ga g (iE a).1:=by
 unfold iE
 cases o:((gD a.aD (gi a).1).2 !=0)with
 |true=>exact h
 |false=>
  rw[aW];obtain⟨m,n,b3,l⟩:=Ap (gi a).2 a;intro i y k;have d:i<a.ps.length:=by rw[<-b3];exact(ed k).1
  have j:a.ps[i]?=some a.ps[i]:=by simp[d]
  have:=l i _ j;have e:(foldI (λb i(_:bm)=>fi (gi a).2 b i) 0 a.ps a).ps[i]?=some y:=k;rw[e]at this;rw[dF this];have f:=h i _ j;cases act a (i:Int)
  .exact f
  .exact f
theorem IH(i:Nat)(s:ay)(l:List ay):iF i (s::l)=(bif s.aw==(i:Int)then 1 else 0)+iF i l:=X
theorem II(i:Nat):∀l:List (Int×Int×Y),iF i (mS l)=(own i l).length
 |[]=>rfl
 |m::l=>by
  have a:=II i l;rw[show m::l=[m]++l from X,pU,BG,cr,<-a];show iF i ((⟨m.1,m.2.2⟩:ay)::mS l)=_;rw[IH];by_cases c:m.1=(i:Int)
  .rw[ce c,show((⟨m.1,m.2.2⟩:ay).aw==(i:Int))=true by simpa using c];rfl
  .rw[ck c,show((⟨m.1,m.2.2⟩:ay).aw==(i:Int))=false by simpa using c];rfl
theorem VK{D B:Nat}{base:List ay}{a:AW}(h:OS D a)(g:PV base a)(f:GA B a){i j:Nat}{x y:bm}(d:a.ps[i]?=some x)(k:act a (i:Int)=true)(F:a.ps[j]?=some y)(p:act a (j:Int)=true)(A:x.bd.length<=y.bd.length):
 iF i (y.bd.drop x.bd.length)<=x.au.aJ.length:=by
 obtain⟨S,M,_⟩:=g.bd i x d k;obtain⟨T,m,_⟩:=g.bd j y F p;have q:=h.base i x d k;have t:=(h.oA i x d).1;have e:=h.nM i x d;have C:=(f.ps x (dj d)).iw.1.lo;have s:=(f.ps x (dj d)).base;have rl:∀l,(mS l).length=l.length:=λl=>by unfold mS;simp
 have L:x.bd.length=base.length+x.to.Next.toNat:=by rw[M,cr,rl,gn];omega
 have Q:y.bd.length=base.length+y.to.Next.toNat:=by rw[m,cr,rl,gn];omega
 have hd:y.bd.drop x.bd.length=mS ((a.ord.take y.to.Next.toNat).drop x.to.Next.toNat):=by rw[L,m,List.drop_append,kp O];unfold mS;rw[uD,List.map_drop,show base.length+x.to.Next.toNat-base.length=x.to.Next.toNat by omega]
 rw[hd,II,List.drop_take];have n:own i a.ord=own i (a.ord.take x.to.Next.toNat)++own i (a.ord.drop x.to.Next.toNat):=by rw[<-pU,eD]
 have o:own i (a.ord.drop x.to.Next.toNat)=own i ((a.ord.drop x.to.Next.toNat).take (y.to.Next.toNat-x.to.Next.toNat))++own i ((a.ord.drop x.to.Next.toNat).drop (y.to.Next.toNat-x.to.Next.toNat)):=by rw[<-pU,eD]
 have H:=congrArg List.length n;have K:=congrArg List.length o;rw[e,cr]at H;rw[cr]at K;have P:(mx x.bw.Next).length=x.bw.Next.toNat:=by unfold mx;simp
 unfold fe at t;omega
theorem V5(m x:BitVec 8):m-(m&&&x)=m&&& ~~~(m&&&x):=by
 have d:(m&&& ~~~(m&&&x))&&&(m&&&x)=0:=by apply A2;intro i hi;simp only[xu,E6,hi,decide_true,l7];cases m.getLsbD i<;>cases x.getLsbD i<;>simp
 have e:(m&&& ~~~(m&&&x))|||(m&&&x)=m:=by apply A2;intro i hi;simp only[BitVec.getLsbD_or,xu,E6,hi,decide_true,l7];cases m.getLsbD i<;>cases x.getLsbD i<;>simp
 have a:(m&&& ~~~(m&&&x))+(m&&&x)=m:=by rw[BitVec.add_eq_or_of_and_eq_zero _ _ d,e]
 generalize m&&& ~~~(m&&&x)=p at a;generalize m&&&x=q at a;rw[<-a];exact BitVec.add_sub_cancel p q
theorem Ri(m y:BitVec 8):(m&&& ~~~y)&&&m=m&&& ~~~y:=by apply A2;intro i hi;simp only[xu,E6,hi,decide_true,l7];cases m.getLsbD i<;>cases y.getLsbD i<;>simp
theorem Wl{v:bh}{x:BitVec 8}{fu:Nat}(a:2^16<fu)(j:0<=v.bS/\v.bS<=16777215)(i:v.bx.toNat<64)(p:x.toNat<64):yb fu v x 0=some (gD v (v.bx&&&x)):=by
 rw[<-(xL v (v.bx&&&x) j).1];have e:∀y:BitVec 8,y.toNat<64->(((y>>>6).toNat:Int)!=((0:BitVec 8).toNat:Int))=false:=λy f=>by
  have:(y>>>6).toNat=0:=by rw[oq,oi];omega
  rw[this];rfl
 have f:(v.bx&&&x).toNat<64:=by rw[A7];have:=Nat.and_le_left (n:=v.bx.toNat) (m:=x.toNat);omega
 have z0:((0:BitVec 8).toNat:Int)=0:=X;have o:((1:BitVec 8).toNat:Int)=1:=X;have d:((63:BitVec 8).toNat:Int)=63:=X;have l:∀y:BitVec 8,y|||0=y:=λy=>by simp
 have g:∀y:BitVec 8,y&&&0=0:=λy=>by simp
 unfold yb rB BI rA rC zm;simp only[l,g,e _ i,e _ f];rw[Mk a,Mk a,IM,IM,Ri,V5];simp only[or_some,aj,z0,o,d];rw[cJ (show ¬v.bS<0 by omega),cJ (show ¬v.bS>16777215 by omega),cJ (show ¬(v.bx.toNat:Int)>63 by omega),cJ (show ¬(x.toNat:Int)>63 by omega)];have k:decide ((v.bx.toNat:Int)<1)=((v.bx.toNat:Int)==0):=by rw[eZ,gL,jW];omega
 rw[k];simp only[Bool.or_false,Bool.false_or]
 cases ((v.bx.toNat:Int)==0)with
 |true=>rfl
 |false=>
  simp only[kC,aW];have e0:¬((0:Int)>63):=by omega
  have h:¬((0:Int)>0):=by omega
  simp only[e0,h,xw,qT,aW]
  cases v.bS==16777215 with
  |true=>rfl
  |false=>rw[aW,aW];cases decide (aq (2*(ya (v.bx&&& ~~~(v.bx&&&x)):Int))>(ya v.bx:Int))<;>rfl
def wS(a:AW):BitVec 8×List ay:=
 foldI (λ(z:BitVec 8×List ay)i(x:bm)=>bif act a (i:Int)then(bif decide (x.bd.length>z.2.length)then(z.1,x.bd)else z)else(z.1|||((1:BitVec 8)<<<i),z.2)) 0 a.ps ((0:BitVec 8),([]:List ay))
theorem Rh(m z y:BitVec 8):m&&&(z|||y)=(m&&&z)|||(m&&&y):=by apply A2;intro i hi;simp only[xu,BitVec.getLsbD_or];cases m.getLsbD i<;>cases z.getLsbD i<;>cases y.getLsbD i<;>simp
theorem Jq(a:AW):∀(l:List bm)(i:Nat)(z w:BitVec 8×List ay),w.1=a.aD.bx&&&z.1->w.2=z.2->
 (foldI (λ(z:BitVec 8×List ay)i(x:bm)=>bif act a (i:Int)then(bif decide (x.bd.length>z.2.length)then(z.1,x.bd)else z)else(z.1|||(a.aD.bx&&&((1:BitVec 8)<<<i)),z.2)) i l w).1=a.aD.bx&&&(foldI (λ(z:BitVec 8×List ay)i(x:bm)=>bif act a (i:Int)then(bif decide (x.bd.length>z.2.length)then(z.1,x.bd)else z)else(z.1|||((1:BitVec 8)<<<i),z.2)) i l z).1/\
 (foldI (λ(z:BitVec 8×List ay)i(x:bm)=>bif act a (i:Int)then(bif decide (x.bd.length>z.2.length)then(z.1,x.bd)else z)else(z.1|||(a.aD.bx&&&((1:BitVec 8)<<<i)),z.2)) i l w).2=(foldI (λ(z:BitVec 8×List ay)i(x:bm)=>bif act a (i:Int)then(bif decide (x.bd.length>z.2.length)then(z.1,x.bd)else z)else(z.1|||((1:BitVec 8)<<<i),z.2)) i l z).2
 |[],_,_,_,e,d=>⟨e,d⟩
 |x::l,i,z,w,e,d=>by
  refine Jq a l (i+1) _ _ ?_ ?_
  .dsimp only
   cases act a (i:Int)with
   |true=>rw[bM,bM,d];cases decide (x.bd.length>z.2.length)<;>exact e
   |false=>
    show w.1|||_=a.aD.bx&&&(z.1|||_)
    rw[Rh,e]
  .dsimp only
   cases act a (i:Int)with
   |true=>rw[bM,bM,d];cases decide (x.bd.length>z.2.length)<;>simp[d]
   |false=>exact d
theorem SA(a:AW)(h:a.ps.length<=6):(wS a).1.toNat<64:=by
 unfold wS
 have:=sk (f:=λ(z:BitVec 8×List ay)i(x:bm)=>bif act a (i:Int)then(bif decide (x.bd.length>z.2.length)then(z.1,x.bd)else z)else(z.1|||((1:BitVec 8)<<<i),z.2)) (λ_ z=>z.1.toNat<64) (l:=a.ps) (λi x z g d=>by
  have hi:i<6:=by have:=(ed g).1;omega
  cases act a (i:Int)with
  |true=>rw[bM];cases decide (x.bd.length>z.2.length)<;>exact d
  |false=>
   show(z.1|||((1:BitVec 8)<<<i)).toNat<64;have e:((1:BitVec 8)<<<i).toNat<2^6:=by
    have:∀i:Fin 6,((1:BitVec 8)<<<i.val).toNat<2^6:=by decide
    exact this ⟨i,hi⟩
   rw[BitVec.toNat_or]
   exact Nat.or_lt_two_pow d e) a.ps.length 0 ((0:BitVec 8),([]:List ay)) O ab
 rwa[eT]at this
theorem Fj(i:Nat):∀(l:List ay)(k j:Nat)(z:List Y),j+k=l.length->iF i (l.drop j)<=z.length->bE (tp i l) k j z=some (z.drop (iF i (l.drop j)))
 |l,0,j,z,m,_=>by have e:l.drop j=[]:=kp O;rw[e];rfl
 |l,k+1,j,z,m,a=>by
  have d:j<l.length:=by omega
  have g:l[j]?=some l[j]:=by simp[d]
  rw[jd d]at a ⊢;generalize l[j]=s at g a;unfold bE tp;rw[cY,g,aj];rw[IH]at a ⊢
  cases f:(s.aw==(i:Int))with
  |true=>
   rw[f,bM]at a;have h:co z 1 (z.length:Int)=some (z.drop 1):=by unfold co;rw[ce O];rw[iI (by simp)];rfl
   rw[bM,bM,h,aj,aj];have:=Fj i l k (j+1) (z.drop 1) O (by rw[gM];omega);unfold tp at this;rw[this,nu]
  |false=>rw[f,aW]at a;rw[aW,aW,aj,cb];have:=Fj i l k (j+1) z O O;unfold tp at this;exact this
theorem RN{D B fu:Nat}{base:List ay}{a:AW}{g:List (Int×Int)}(pi:2^16<fu)(h:OS D a)(hP:PV base a)(p:GA B a)(hB:B<=2^34)(hm:Mb a)(P:ga g a):
 yi fu (a.r g)=some ((iE a).1.r g,(iE a).2):=by
 have hn:=p.n;have UQ:lj (a.r g).n=some a.ps.length:=by rw[show(a.r g).n=(a.ps.length:Int)from X,zb O,de]
 obtain⟨l1,_⟩:=mR (body:=vm (a.r g)) (λz:BitVec 8×List ay=>z) (λ(z:BitVec 8×List ay)i(x:bm)=>bif act a (i:Int)then(bif decide (x.bd.length>z.2.length)then(z.1,x.bd)else z)else(z.1|||((1:BitVec 8)<<<i),z.2)) (λ_ _=>True) (l:=a.ps) (λi x z k _=>by
  have F:i<6:=by have:=(ed k).1;omega
  refine⟨?_,bo⟩;unfold vm;rw[xe hm P,aj]
  cases act a (i:Int)with
  |false=>rw[uO,bM,qv,aj];rfl
  |true=>
   rw[ii,aW,bM,show(a.r g).du=RV [] (·.bd) a.ps from X,pI F k,aj,aj];by_cases c:x.bd.length>z.2.length
   .rw[dA c,dA (show(x.bd.length:Int)>(z.2.length:Int) by omega)];rfl
   .rw[cJ c,cJ (show ¬(x.bd.length:Int)>(z.2.length:Int) by omega)];rfl) a.ps.length 0 ((0:BitVec 8),([]:List ay)) O bo
 rw[eT]at l1;have xA:bE (vm (a.r g)) a.ps.length 0 ((0:BitVec 8),([]:List ay))=some (wS a):=l1;obtain⟨r1,r2⟩:=Jq a a.ps 0 ((0:BitVec 8),([]:List ay)) ((0:BitVec 8),([]:List ay)) (by simp) X;have Xb:(gi a).1=a.aD.bx&&&(wS a).1:=r1;have XZ:(gi a).2=(wS a).2:=r2;obtain⟨_,g2,g3⟩:=Jr p;have av:=SA a hn.2;unfold yi iE;rw[UQ,aj,xA,aj];simp only;rw[show(a.r g).V=a.aD from X,Wl pi p.num (hm.lt p) av,aj,<-Xb,<-XZ]
 cases hq:((gD a.aD (gi a).1).2 !=0)with
 |true=>rfl
 |false=>
  rw[aW,aW,aj];have o:∀(i:Nat)x,a.ps[i]?=some x->act a (i:Int)=true->iF i ((gi a).2.drop x.bd.length)<=x.au.aJ.length:=λi x k n=>by
   have S:=g2 i x k n;rcases g3 with q|⟨j,y,hy,Tq,q⟩
   .rw[q];simp[iF]
   .rw[q]at S ⊢;exact VK h hP p k n hy Tq S
  have M:=g2;have S2:(gi a).2.length<=B:=by
   rcases g3 with q|⟨j,x,k,_,q⟩
   .rw[q];exact jF _
   .rw[q];exact(p.ps x (dj k)).bd
  generalize(gi a).2=L at o M S2
  obtain⟨l2,l3,l4,l5⟩:=mR (body:=vn (a.r g) L) (λb:AW=>(⟨a.ps.length,a.aD,g,RV [] (·.bd) b.ps,RV To.zero (·.to) b.ps,RV aw.zero (·.au) b.ps,RV To.zero (·.bw) a.ps,a.ord.map (·.2.2),a.ord.map (λm=>(⟨m.1,m.2.1⟩:Mark)),a.ah⟩:bj)) (λb i(_:bm)=>fi L b i) (λi b=>b.aD=a.aD/\b.ps.length=a.ps.length/\∀j:Nat,i<=j->b.ps[j]?=a.ps[j]?) (l:=a.ps) (λi x b k hb=>by
   obtain⟨b1,b2,b3⟩:=hb;have F:i<6:=by have:=(ed k).1;omega
   have e:b.ps[i]?=some x:=by rw[b3 i (dO _)];exact k
   have t:=(ed e).1;have K:act b (i:Int)=act a (i:Int):=Aj b1 b2 (b3 i (dO _));have one:fi L b i={b with ps:=b.ps.set i (bif act a (i:Int)then kA L i x else{x with bw:=⟨0,[]⟩})}:=by unfold fi;rw[e,K]
   have A:(fi L b i).aD=a.aD/\(fi L b i).ps.length=a.ps.length/\∀j:Nat,i+1<=j->(fi L b i).ps[j]?=a.ps[j]?:=by rw[one];exact⟨b1,by simp only[pD];exact b2,λj hj=>by show(b.ps.set i _)[j]?=_;rw[jI O];exact b3 j O⟩
   refine⟨?_,A⟩;rw[one];have s:nI (⟨a.ps.length,a.aD,g,RV [] (·.bd) b.ps,RV To.zero (·.to) b.ps,RV aw.zero (·.au) b.ps,RV To.zero (·.bw) a.ps,a.ord.map (·.2.2),a.ord.map (λm=>(⟨m.1,m.2.1⟩:Mark)),a.ah⟩:bj) (i:Int)=some (act a (i:Int)):=by have:=xe (a:=a) hm P i;unfold nI at this ⊢;exact this
   have H:=M i x k;have hll:=(p.ps x (dj k)).bd;have acZ:=(p.ps x (dj k)).late;unfold vn;simp only;rw[show(a.r g).aN=g from X,show(a.r g).order=a.ord.map (·.2.2)from X,show(a.r g).be=a.ord.map (λm=>(⟨m.1,m.2.1⟩:Mark))from X,show(a.r g).bb=a.ah from X,s,aj]
   cases n:act a (i:Int)with
   |false=>rw[uO,bM,aW];have q1:=pJ (f:=(·.bd)) (d:=[]) (y:=({x with bw:=⟨0,[]⟩}:bm)) e X;have q2:=pJ (f:=(·.to)) (d:=To.zero) (y:=({x with bw:=⟨0,[]⟩}:bm)) e X;have q3:=pJ (f:=(·.au)) (d:=aw.zero) (y:=({x with bw:=⟨0,[]⟩}:bm)) e X;rw[q1,q2,q3]
   |true=>
    have H:=H n;have Q:=o i x k n;have ec:co L (x.bd.length:Int) (L.length:Int)=some (L.drop x.bd.length):=by unfold co;rw[ce O];simp only[de];rw[iI (by simp)]
    have T:=Fj i (L.drop x.bd.length) (L.drop x.bd.length).length 0 x.au.aJ O (by rw[eT];exact Q);rw[eT]at T;rw[ii,aW,bM,pI F e,aj,pI F e,aj,ec,aj,T,aj,aj,fb,aj,fb,fb,pI F e,aj,fb,de];have C:min (iF i (L.drop x.bd.length)) x.au.aJ.length=iF i (L.drop x.bd.length):=iV Q;have s1:(RV [] (·.bd) b.ps).setIfInBounds i L=RV [] (·.bd) (b.ps.set i (kA L i x)):=RV.set t X;have s2:(RV aw.zero (·.au) b.ps).setIfInBounds i (⟨0,x.au.aJ.drop (iF i (L.drop x.bd.length))⟩:aw)=RV aw.zero (·.au) (b.ps.set i (kA L i x)):=RV.set t (by unfold kA;rw[C]);have s3:(RV To.zero (·.to) b.ps).setIfInBounds i To.zero=RV To.zero (·.to) (b.ps.set i (kA L i x)):=RV.set t X;have ez:({aw.zero with aJ:=x.au.aJ.drop (iF i (L.drop x.bd.length))}:aw)=⟨0,x.au.aJ.drop (iF i (L.drop x.bd.length))⟩:=X;dsimp only at ez
    rw[s1,ez,s2,s3]) a.ps.length 0 a O ⟨X,X,λj _=>rfl⟩
  rw[eT]at l2 l3 l4 l5;obtain⟨c1,c2,W,c5⟩:=Ap L a;generalize foldI (λ(b:AW)i(_:bm)=>fi L b i) 0 a.ps a=d at l2 l3 l4 l5 c1 c2 W c5;have VD:bE (vn (a.r g) L) a.ps.length 0 (a.r g)=some (⟨a.ps.length,a.aD,g,RV [] (·.bd) d.ps,RV To.zero (·.to) d.ps,RV aw.zero (·.au) d.ps,RV To.zero (·.bw) a.ps,a.ord.map (·.2.2),a.ord.map (λm=>(⟨m.1,m.2.1⟩:Mark)),a.ah⟩:bj):=l2;rw[VD,aj];refine congrArg some (f8 ?_ X);have V:(Vector.replicate 6 To.zero:Vector To 6)=RV To.zero (·.bw) d.ps:=by
   apply uK;intro j hj;simp only[RV,Vector.getElem_replicate,A5]
   cases hd:d.ps[j]? with
   |none=>rfl
   |some y=>
    have xg:j<a.ps.length:=by rw[<-W];exact(ed hd).1
    have k:a.ps[j]?=some a.ps[j]:=by simp[xg]
    have:=c5 j _ k;rw[hd]at this;rw[dF this];cases act a (j:Int)<;>rfl
  unfold AW.r;simp only;rw[V,c2,W];rfl
theorem D8{α:Type}{f:AW->Nat->α->AW}(h:∀b j x,(f b j x).aD=b.aD):∀(l:List α)(i:Nat)(b:AW),(foldI f i l b).aD=b.aD
 |[],_,_=>rfl
 |x::l,i,b=>(D8 h l (i+1) _).trans (h b i x)
theorem In(s f:Int):∀(k i:Nat)(b:AW),(fd s f k i b).aD=b.aD
 |0,_,_=>rfl
 |k+1,i,b=>by
  unfold fd
  cases b.ord[i]? with
  |none=>rfl
  |some m=>exact(In s f k (i+1) _).trans (Gd ..)
theorem R0(fu:Nat)(a:AW)(n:aK):(iQ fu a n).aD=a.aD:=by
 unfold iQ
 cases (!dq a n.aw)with
 |true=>rfl
 |false=>
 cases n.ba==1 with
 |true=>
  simp only[bM,aW];unfold jN
  cases a.ps[n.aw.toNat]? with
  |none=>rfl
  |some x=>
   simp only
   cases decide (n.ao>16777214)with
   |true=>rfl
   |false=>rw[aW,D8 λb j t=>by rw[(pT ..).aD]]
 |false=>
 cases n.ba==3 with
 |true=>exact In ..
 |false=>
 cases n.ba==2 with
 |true=>
  simp only[bM,aW];unfold jO
  cases a.ps[n.To.toNat]? with
  |none=>rfl
  |some x=>
   simp only
   cases decide (n.ao>16777214)with
   |true=>rfl
   |false=>rw[aW,D8 λb j t=>by unfold gJ;cases b.ps[n.To.toNat]?<;>rfl]
 |false=>rfl
theorem R7{D B fu:Nat}{base:List ay}{a:AW}{g:List (Int×Int)}(Q:2^16<fu)(h:OS D a)(H:PV base a)(p:GA B a)(P:B<=2^34)(hD:D<=2000000)(o:Mb a)(f:ga g a)(d:dJ):
 ∃g',yj fu (a.r g) d=some (g',(gS fu a d).1.r g',(gS fu a d).2)/\ga g' (gS fu a d).1/\Mb (gS fu a d).1/\OS (D+1) (gS fu a d).1:=by
 have s:200<fu:=by omega
 have t:20<=fu:=by omega
 have q:=Bn fu a d;unfold yj;unfold gS at q ⊢
 cases k1:d.ba==1 with
 |true=>
  rw[k1]at q;simp only[bM]at q ⊢;rw[ZY t p o f,aj];have ho:=Ma a d.cI d.aM;have S:=h.yF d.cI d.aM;refine⟨g,congrArg some (f8 X (f8 (kO (g:=g) ho) X)),?_,?_,S⟩
  .intro i y F;unfold iN at F
   revert F
   cases hw:(gZ a d.cI !=0)with
   |true=>exact f i y
   |false=>
    obtain⟨j,x,hj,C,ha⟩:=nO hw;rw[aW]
    cases decide (d.aM.length>150)with
    |true=>exact f i y
    |false=>
    cases decide (a.ah.length=60)with
    |true=>exact f i y
    |false=>
     rw[aW,aW,hj,de,C];simp only
     cases jU x.au with
     |true=>exact f i y
     |false=>rw[aW];simp only;rw[yG];exact f.set (y:={x with au:=⟨x.au.Base,x.au.aJ++[d.aM]⟩}) C X i y
  .refine o.same ?_ q;unfold iN
   cases (gZ a d.cI !=0)with
   |true=>rfl
   |false=>
   cases decide (d.aM.length>150)with
   |true=>rfl
   |false=>
   cases decide (a.ah.length=60)with
   |true=>rfl
   |false=>
   cases a.ps[d.cI.toNat]? with
   |none=>rfl
   |some x=>
    simp only[aW]
    cases jU x.au with
    |true=>rfl
    |false=>rw[aW];simp only;rw[Gd]
 |false=>
 cases k2:d.ba==2 with
 |true=>simp only[bM,aW];rw[Q7 t p o f,aj];have L:=Ak a d.cI;exact⟨g,congrArg some (f8 X (f8 (kO (g:=g) L.ord) X)),f.ps L.ps,o.same L.aD (by rw[L.ps]),(h.again p d.cI).mono O⟩
 |false=>
 cases M:d.ba==3 with
 |true=>
  simp only[bM,aW];rw[V7 s h H p P hD o f,aj];have K:=Jm fu a d;have V:(iW fu a d.cI d.fw).1.aD=a.aD:=by
   unfold iW
   cases !(decide (d.fw>=1)&&decide (d.fw<=3))with
   |true=>rfl
   |false=>
   cases !(decide (d.cI>=0)&&decide (d.cI<=(a.ah.length:Int)-1))with
   |true=>rfl
   |false=>
   cases (d.fw==3)&&decide (a.ah.length=60)with
   |true=>rfl
   |false=>
   cases a.ah[d.cI.toNat]? with
   |none=>rfl
   |some n=>
    simp only[aW]
    cases d.fw==3 with
    |true=>rfl
    |false=>
     rw[aW];simp only
     cases ((d.fw==1)&&(n.bh==a.aD.bS))&&act a n.To with
     |true=>rw[bM,R0]
     |false=>rfl
  have k:(iW fu a d.cI d.fw).1.ps.length=a.ps.length:=by have:=Bn fu a d;unfold gS at this;rw[k1,k2,M]at this;exact this
  have A:fj (iW fu a d.cI d.fw).1=fj a:=by
   unfold gS at K;rw[k1,k2,M]at K;have k4:(d.ba==4)=false:=by
    have:d.ba=3:=by simpa using M
    rw[this];rfl
   rw[k4]at K;exact K
  refine⟨g,X,λi y F=>?_,o.same V k,(h.move H p o s d.cI d.fw).mono O⟩;have W:i<a.ps.length:=by rw[<-k];exact(ed F).1
  have C:a.ps[i]?=some a.ps[i]:=by simp[W]
  have e:=congrArg (λl:List Bool=>l[i]?) A;simp only[fj,kD]at e;rw[F,C]at e;have e':y.ea=a.ps[i].ea:=by simpa using e
  rw[e'];exact f i _ C
 |false=>
 cases k4:d.ba==4 with
 |true=>
  simp only[bM,aW];obtain⟨g',e1,e2⟩:=Ss p f d.cI;obtain⟨q1,q2⟩:=Jh a d.cI;rw[e1,aj];have V:(gB a d.cI).1.aD=a.aD:=by
   unfold gB
   cases !dq a d.cI with
   |true=>rfl
   |false=>cases a.ps[d.cI.toNat]?<;>rfl
  have k:(gB a d.cI).1.ps.length=a.ps.length:=by have:=Bn fu a d;unfold gS at this;rw[k1,k2,M,k4]at this;exact this
  have T:({(gB a d.cI).1.r g' with aN:=g',order:=a.ord.map (·.2.2),be:=a.ord.map (λm=>(⟨m.1,m.2.1⟩:Mark)),bb:=a.ah}:bj)=(gB a d.cI).1.r g':=by rw[<-q2];exact kO (g:=g') q1
  exact⟨g',congrArg some (f8 X (f8 T X)),e2,o.same V k,(h.wQ d.cI).mono O⟩
 |false=>
 cases k5:d.ba==5 with
 |true=>
  simp only[bM,aW];rw[RN Q h H p P o f,aj];obtain⟨_,_,c3⟩:=ID p P;refine⟨g,?_,f.change,o.change p,(h.change H p).mono O⟩;have:({(iE a).1.r g with aN:=g,bb:=a.ah}:bj)=(iE a).1.r g:=by rw[<-c3];rfl
  exact congrArg some (f8 X (f8 this X))
 |false=>exact⟨g,X,f,o,h.mono O⟩
set_option linter.unusedVariables false
theorem Vg(s:Y)(c:UInt8):Lib.indexByte s c= -1\/(0<=Lib.indexByte s c/\Lib.indexByte s c<s.length):=by
 induction s with
 |nil=>exact .inl X
 |cons b s a=>
  unfold Lib.indexByte;by_cases h:(b==c)=true
  .rw[ce h];right;simp only[bN];omega
  .rw[ck h];rcases a with e|⟨d,f⟩
   .rw[e];left;rfl
   .have:¬(Lib.indexByte s c==-1)=true:=by simp;omega
    rw[ck this];right;simp only[bN];omega
theorem Vi(s:Y)(c:UInt8):∃r,vI s ([c]:Y)=some r/\(r= -1\/(0<=r/\r<s.length)):=by
 unfold vI sI xq;by_cases h:([c]:Y)=s
 .subst h;have a:((([c]:Y).length:Int)==0)=false:=X;refine⟨0,?_,.inr ⟨jY _,Int.zero_lt_one⟩⟩;rw[a,aW,dA X];rfl
 .have a:((([c]:Y).length:Int)==0)=false:=X;have d:((([c]:Y).length:Int)==1)=true:=X;have e:bf ([c]:Y) 0=some c:=X;simp only[a,d,e,aW,bM,aj,cJ h];exact⟨_,X,Vg s _⟩
theorem aaz{s:Y}{c:UInt8}{fu:Nat}(W:s.length<=2^21)(T:s.length+10<fu):cV (vJ fu s ([c]:Y)) λl=>l.length<=s.length+1/\∀x∈l,x.length<=s.length:=by
 have j:tz s (c.toBitVec)<=s.length:=by unfold tz;have:=List.count_le_length (l:=s) (a:=UInt8.ofBitVec (c.toBitVec));omega
 have e:0<=tz s (c.toBitVec):=by unfold tz;omega
 unfold vJ Ch Cf;have e0:((-1:Int)==0)=false:=X;have D:decide (([c]:Y)=[])=false:=X;have F:decide ((-1:Int)<0)=true:=X;have H:((([c]:Y).length:Int)==0)=false:=X;have K:((([c]:Y).length:Int)==1)=true:=X;have L:bf ([c]:Y) 0=some c:=X;rw[e0,aW,D,aW,F,bM,H,aW,K,bM,L,aj,aj];generalize V:tz s (c.toBitVec)=q at j e;obtain⟨n,rfl⟩:=kn e;have w1:aq ((n:Int)+1)=((n+1:Nat):Int):=by rw[bO O O];rfl
 have w2:aq ((s.length:Int)+1)=((s.length+1:Nat):Int):=by rw[bO O O];rfl
 have w3:min (((n+1:Nat)):Int) ((s.length+1:Nat):Int)=((n+1:Nat):Int):=by omega
 have w4:aq (((n+1:Nat):Int)-1)=(n:Int):=by rw[bO O O];omega
 rw[aj,w1,w2,w3];have m:lH ((n+1:Nat):Int)=some (n+1):=by unfold lH;rw[ce O];rfl
 rw[m,aj,pL,pL,xT]
 refine pM (λz=>∃i:Nat,z.2.1=(i:Int)/\i<=n/\z.2.2.length=n+1/\z.1.length<=s.length/\∀x∈z.2.2,x.length<=s.length) (λz=>((n:Int)-z.2.1).toNat)
  ⟨0,X,jF _,by simp,dO _,λx k=>by rw[(sJ.1 k).2];simp⟩ (by simp only;omega) ?_
 rintro⟨t,z,l⟩ ⟨i,C,hi,B,o,k⟩;simp only at C B o k;subst C;have fin:∀t':Y,t'.length<=s.length->cV (some (t',((i:Nat):Int),l)) λa=>cV ((bf a.2.2 a.2.1).bind λS=>Let (a.2.2.set a.2.1.toNat a.1) λA=>(co A 0 (aq (a.2.1+1))).bind λy=>some y) λa=>cV (some a) λl=>l.length<=s.length+1/\∀x∈l,x.length<=s.length:=λt' p=>by
  rw[fa];simp only;have f:i<l.length:=by omega
  have w:aq ((i:Int)+1)=((i+1:Nat):Int):=by rw[bO O O];rfl
  rw[xF f,aj,u4,w,pL,xU];refine⟨by simp only[pD];omega,?_⟩;rw[fa,fa];refine⟨by simp;omega,λx g=>?_⟩;have:=qZ g;have:=oy this;rcases kH this with h|h
  .exact k x h
  .rw[h];exact p
 unfold Ci;simp only;rw[w2,w3,w4,nD];refine⟨λq=>?_,λq=>?_⟩
 .have q:i<n:=by simpa using q
  obtain⟨r,P,Q⟩:=Vi t c;rw[P,aj,nD];refine⟨λd=>?_,λd=>?_⟩
  .rw[fa];exact nC.2 (tc.2 (fin t o))
  .have d:¬r<0:=by simpa using d
   have Q:0<=r/\r<t.length:=by omega
   have M:(([c]:Y).length:Int)=1:=X;have f:i<l.length:=by omega
   rw[bO (show-9223372036854775808<=r+0 by omega) O,M,bO (show-9223372036854775808<=r+1 by omega) O,bO (show-9223372036854775808<=(i:Int)+1 by omega) O,pL,xU];refine⟨by omega,?_⟩;rw[xF f,aj,u4,pL,xU];refine⟨by omega,?_⟩;rw[fa];refine oH.2 ⟨⟨i+1,X,by omega,by simpa using B,?_,λx g=>?_⟩,?_⟩
   .simp only[gn,gM];omega
   .rcases kH g with h|h
    .exact k x h
    .rw[h];simp only[gn,gM];omega
   .simp only;omega
 .rw[fa];exact nC.2 (tc.2 (fin t o))
theorem LW{t:Y}:∀(k i:Nat)(z:Int)(b:Nat),i+k=t.length->i<=b->0<=z->z<10^b->b+k<=12->
 dT (yq t) k i z=some (bif (t.drop i).all gm then .inl (ne z (t.drop i))else .inr (0,false))
 |0,i,z,b,h,_,_,_,_=>by rw[kp O];rfl
 |k+1,i,z,b,h,n,j,l,m=>by
  have hi:i<t.length:=by omega
  have a:t[i]?=some t[i]:=by simp[hi]
  generalize t[i]=c at a;rw[Av a,ot];have p:(10:Int)^b<=10^11:=by
   have:(10:Nat)^b<=10^11:=uH O O
   exact_mod_cast this
  have d:(10:Int)^(b+1)=10^b*10:=by rw[Int.pow_succ]
  unfold dT yq;rw[Iy a,aj,or_some,aj];have e:c.toBitVec.toNat=c.toNat:=X;have o:=c.toNat_lt;rw[e,show((48:BitVec 8).toNat:Int)=48 from X,show((57:BitVec 8).toNat:Int)=57 from X];have f:(decide ((c.toNat:Int)<48)||decide ((c.toNat:Int)>57))=!gm c:=by unfold gm;rw[eZ];simp;omega
  rw[f]
  cases hd:gm c with
  |false=>rfl
  |true=>have g:=qM.1 hd;rw[ii,aW,l7,bO (show-9223372036854775808<=z*10 by omega) O,bO (show-9223372036854775808<=z*10+(c.toNat:Int) by omega) O,bO (show-9223372036854775808<=z*10+(c.toNat:Int)-48 by omega) O];exact LW k (i+1) _ (b+1) O O O (by rw[d];omega) O
theorem Rp{fu:Nat}(j:20<fu):∃v,vL fu ([48,49,50,51,52,53,54,55,56,57]:Y)=some (v,true)/\kb v λc=>decide (48<=c)&&decide (c<=57):=by
 have hd:∀i,i<10->([48,49,50,51,52,53,54,55,56,57]:Y)[i]?=some (UInt8.ofNat (48+i)):=by decide
 have d:cV (vL fu ([48,49,50,51,52,53,54,55,56,57]:Y)) λr=>r.2=true/\kb r.1 λc=>decide (48<=c)&&decide (c<=57):=by
  unfold vL;rw[xT];refine pM (λz=>∃i:Nat,z.1=(i:Int)/\i<=10/\kb z.2 λc=>decide (48<=c)&&decide (c<48+i)) (λz=>(10-z.1).toNat) ⟨0,X,by omega,kb.rep.to λc f=>by first|(simp;done)|(simp;omega)⟩ (by simp only;omega) ?_;rintro⟨z,v⟩ ⟨i,g,hi,a⟩;simp only at g a;subst g;unfold Cj;simp only;rw[nD];refine⟨λc=>?_,λc=>?_⟩
  .have c:i<10:=by(have:(i:Int)<10:=by simpa using c);omega
   rw[cY,hd i c,aj];have e:(UInt8.ofNat (48+i)).toBitVec.toNat=48+i:=by show(UInt8.ofNat (48+i)).toNat=_;simp;omega
   rw[e,show((128:BitVec 8).toNat:Int)=128 from X,cJ (show ¬((48+i:Nat):Int)>=128 by omega),aW,a.dI O,aj,u4,fa,de];refine oH.2 ⟨⟨i+1,by rw[bO O O];rfl,by omega,?_⟩,by simp only;rw[bO O O];omega⟩;refine(a.set (48+i) true).to λc f=>?_;by_cases q:c=48+i
   .subst q;rw[Ed];simp
   .rw[Ec q];congr 1;rw[eZ];simp;omega
  .have c:¬i<10:=by(have:(10:Int)<=i:=by simpa using c);omega
   have:i=10:=by omega
   subst this;rw[fa];refine nC.2 (tc.2 (fa.2 ⟨X,a.to λc f=>?_⟩));congr 1;rw[eZ];simp;omega
 obtain⟨⟨v,b⟩,e,rfl,h⟩:=d;exact⟨v,e,h⟩
theorem IL{v:Vector Bool 256}(a:kb v λc=>decide (48<=c)&&decide (c<=57))(c:UInt8):vK v c.toBitVec=some (gm c):=by unfold vK;have e:c.toBitVec.toNat=c.toNat:=X;have:=c.toNat_lt;rw[e,a.dI O];rfl
theorem ZI{v:Vector Bool 256}(k:kb v λc=>decide (48<=c)&&decide (c<=57)){t:Y}{fu:Nat}(m:t.length<=100)(l:110<fu):cV (za fu t v) λr=>r.length<=t.length/\(r=[]↔t.all gm=true)/\(r≠[]->r.all gm=false):=by
 unfold za;rw[pL,xT];refine pM (λz=>∃d:Y,t=z++d/\d.all gm=true) (λz=>z.length) ⟨[],by simp,X⟩ O ?_;rintro z ⟨d,hd,i⟩;have f:z.length<=t.length:=by rw[hd];simp
 unfold Cl;rw[nD];refine⟨λc=>?_,λc=>?_⟩
 .have c:0<z.length:=by simpa using c
  have w:aq ((z.length:Int)-1)=((z.length-1:Nat):Int):=by rw[bO O O];omega
  have g:z[z.length-1]?=some (z[z.length-1]'O):=by simp
  generalize z[z.length-1]'O=x at g;have a:z=z.take (z.length-1)++[x]:=by
   conv=>lhs;rw[<-eD (z.length-1) z]
   rw[Av g,kp O]
  rw[w,cY,g,aj,IL k,aj,nD];refine⟨λq=>?_,λq=>?_⟩
  .have q:gm x=false:=by simpa using q
   have j:z.all gm=false:=by rw[a,jc];simp[q]
   rw[fa];refine nC.2 (tc.2 (fa.2 (fa.2 ⟨f,?_,λ_=>j⟩)));constructor
   .intro e;rw[e]at c;simp at c
   .intro e;rw[hd,jc,j]at e;cases e
  .have q:gm x=true:=by simpa using q
   rw[pL,xU];refine⟨by omega,?_⟩;rw[fa];refine oH.2 ⟨⟨x::d,?_,by rw[ot,q,i];rfl⟩,?_⟩
   .simp only[Int.toNat_zero,eT,qR,de];rw[hd]
    conv=>lhs;rw[a]
    simp
   .simp only[gn,gM];omega
 .have c:¬0<z.length:=by simpa using c
  have a:z=[]:=sR.1 O;rw[fa];refine nC.2 (tc.2 (fa.2 (fa.2 ⟨f,⟨λ_=>?_,λ_=>a⟩,λh=>absurd a h⟩)));rw[hd,a];exact i
theorem VM{v:Vector Bool 256}(f:kb v λc=>decide (48<=c)&&decide (c<=57)){t:Y}{fu:Nat}(j:t.length<=100)(i:110<fu):cV (yZ fu t v) λr=>r=[]↔t.all gm=true:=by
 unfold yZ;rw[pL,xT];refine pM (λz=>∃d:Y,t=d++z/\d.all gm=true) (λz=>z.length) ⟨[],by simp,X⟩ O ?_;rintro z ⟨d,hd,a⟩;have g:z.length<=t.length:=by rw[hd];simp
 unfold Ck
 cases z with
 |nil=>rw[cJ (show ¬((([]:Y).length:Int)>0) by simp),aW,fa];refine nC.2 (tc.2 (fa.2 (fa.2 ⟨λ_=>?_,λ_=>rfl⟩)));rw[hd,jH];exact a
 |cons x z=>
  have el:bf (x::z) (0:Int)=some x:=cY (x::z) 0;rw[dA (show(((x::z).length:Int)>0) by simp only[bN];omega),bM,el,aj,IL f,aj,nD];refine⟨λq=>?_,λq=>?_⟩
  .have q:gm x=false:=by simpa using q
   rw[fa];refine nC.2 (tc.2 (fa.2 (fa.2 ⟨λh=>(by cases h),λe=>?_⟩)));rw[hd,jc,ot,q,Bool.false_and,A8]at e;cases e
  .have q:gm x=true:=by simpa using q
   rw[pL,xU];refine⟨by simp only[bN];omega,?_⟩;rw[fa];refine oH.2 ⟨⟨d++[x],?_,by rw[jc,a];simp[q]⟩,?_⟩
   .rw[hd];simp
   .simp only[gn,gM,bN];omega
theorem aa4{t:Y}{fu:Nat}(g:1<=t.length)(p:t.length<=100)(i:110<fu):∃r,yX fu t ([48,49,50,51,52,53,54,55,56,57]:Y)=some r/\(r=[]↔t.all gm=true):=by
 obtain⟨v,ev,j⟩:=Rp (fu:=fu) O;obtain⟨r,m,o,a,f⟩:=ZI j p i;obtain⟨q,eq,n⟩:=VM j (t:=r) O i;have d:t≠[]:=λe=>by rw[e]at g;simp at g
 refine⟨q,?_,?_⟩
 .unfold yX;have k:decide (([48,49,50,51,52,53,54,55,56,57]:Y)=[])=false:=X;have l:((([48,49,50,51,52,53,54,55,56,57]:Y).length:Int)==1)=false:=X;rw[cJ d,aW,k,aj,aW,l,aW,aj,aW,ev,aj];simp only[bM];rw[m,aj,eq];rfl
 .rw[n];by_cases e:r=[]
  .rw[e];simp only[List.all_nil,true_iff];exact a.1 e
  .rw[f e];constructor
   .intro h;cases h
   .intro h;exact absurd (a.2 h) e
theorem Mj(a b c:Int):tC a b c=some (decide (a>=b)&&decide (a<=c)):=by unfold tC;rw[ls,aj]
def mp(s:Y):Bool:=match s with|c::_=>c==45|[]=>false
theorem JE(s:Y):uA s ([45]:Y)=some (mp s):=by
 unfold uA
 cases s with
 |nil=>rfl
 |cons c s=>
  have e:(([45]:Y).length:Int)=1:=X;have a:co (c::s) 0 1=some [c]:=by unfold co;rw[ce (by simp only[bN];omega)];rfl
  rw[e,dA (show((c::s).length:Int)>=1 by simp only[bN];omega),bM,a,aj,aj];congr 1;show decide ([c]=[45])=(c==45)
  rw[eZ];simp
def pF(s:Y):Y:=bif mp s then s.drop 1 else s
theorem aa3(s:Y):yY s ([45]:Y)=some (pF s):=by
 unfold yY AU pF;rw[JE,aj]
 cases h:mp s with
 |false=>rfl
 |true=>
  have e:(([45]:Y).length:Int)=1:=X
  have d:1<=s.length:=by cases s with
   |nil=>cases h
   |cons c s=>simp
  have a:co s 1 (s.length:Int)=some (s.drop 1):=by unfold co;rw[ce O];congr 1;exact iI (by simp)
  rw[bM,e,a];rfl
theorem KB{s:Y}{fu:Nat}(T:s.length<=2^21)(S:200<fu):∃n b,vD fu s=some (n,b)/\vu s=some (n,b)/\(b=true->-1000000000<n/\n<1000000000):=by
 have q:(bif mp s then((co s (1:Int) (s.length:Int)).bind λP=>some (P,(-1:Int)))else some (s,(1:Int)))=some (pF s,bif mp s then-1 else 1):=by
  unfold pF
  cases h:mp s with
  |false=>rfl
  |true=>
   have F:1<=s.length:=by cases s with
    |nil=>cases h
    |cons c s=>simp
   have p:co s 1 (s.length:Int)=some (s.drop 1):=by unfold co;rw[ce O];congr 1;exact iI (by simp)
   rw[bM,p];rfl
 have F:(pF s).length<=s.length/\s.length<=(pF s).length+1:=by
  unfold pF
  cases h:mp s with
  |false=>simp
  |true=>simp;omega
 unfold vD vu Cg;rw[aa3,aj,Mj,aj,JE,aj,aj,q,aj];simp only;rw[or_some,aj];generalize g:pF s=t at F;by_cases m:1<=t.length/\t.length<=9
 .have x:(decide ((t.length:Int)>=1)&&decide ((t.length:Int)<=9))=true:=by simp;omega
  have y:(decide ((t.length:Int)<1)||decide ((t.length:Int)>9))=false:=by rw[uN];simp;omega
  obtain⟨r,H,q⟩:=aa4 (t:=t) (fu:=fu) m.1 O O;rw[x,y,ii,aW,aW,H,aj,aj,eu (by simp;omega),aj];have k:(Y.bytes t).length=t.length:=by simp[Y.bytes]
  have rd:=LW (t:=t) t.length 0 0 0 O O O O O;rw[eT]at rd;rw[k,rd]
  cases j:t.all gm with
  |false=>
   have:r≠[]:=λe=>by rw[q.1 e]at j;cases j
   rw[cJ this];exact⟨0,false,X,X,λh=>by cases h⟩
  |true=>
   rw[dA (q.2 j)];simp only[ii,aW,bM,kX];have o:=DR (t:=t) t.length 0 0 0 O O O O O (by rw[eT];exact j);rw[eT]at o;have M:=IW t 0 0 O O j;have hp:(10:Int)^(0+t.length)<=10^9:=by
    have:(10:Nat)^(0+t.length)<=10^9:=uH O O
    exact_mod_cast this
   generalize Q:ne 0 t=D at o M;have L:0<=D/\D<1000000000:=by omega
   have C:lP s=some ((bif mp s then-D else D),()):=by
    unfold lP xo;have K:0<s.length:=by omega
    obtain⟨c,a,rfl⟩:∃c a,s=c::a:=by
     cases s with
     |nil=>simp at K
     |cons c a=>exact⟨c,a,X⟩
    have el:bf (c::a) (0:Int)=some c:=cY (c::a) 0;have p:c.toBitVec.toNat=c.toNat:=X;have i:((c.toBitVec.toNat:Int)==((45:BitVec 8).toNat:Int))=(c==45):=by
     rw[p,eZ,jW,jW,show((45:BitVec 8).toNat:Int)=45 from X];constructor
     .intro h;exact UInt8.toNat_inj.1 (by simp;omega)
     .intro h;rw[h];rfl
    have A:((c.toBitVec.toNat:Int)==((43:BitVec 8).toNat:Int))=(c==43):=by
     rw[p,eZ,jW,jW,show((43:BitVec 8).toNat:Int)=43 from X];constructor
     .intro h;exact UInt8.toNat_inj.1 (by simp;omega)
     .intro h;rw[h];rfl
    rw[dA (show(0:Int)<((c::a).length:Int) by omega),bM,dA (show((c::a).length:Int)<19 by omega),aj,bM,el,aj,aj,i,A,or_some,aj];have d:mp (c::a)=(c==45):=X;rw[d];unfold pF at g;rw[d]at g
    cases f:c==45 with
    |true=>
     rw[f,bM]at g;have g:a=t:=by simpa using g
     subst g;have l:co (c::a) 1 ((c::a).length:Int)=some a:=by unfold co;rw[ce (by simp only[bN];omega)];simp
     rw[Bool.true_or,bM,l,aj,cJ (show ¬(a.length:Int)<1 by omega),aW,kX,eu (by simp;omega),aj,k,o,kX,aj,i,f,bM,aj,aj,bO (show-9223372036854775808<=0-D by omega) O];simp
    |false=>
     rw[f,aW]at g;subst g;have B:(c==43)=false:=by rw[ot,eJ,qM]at j;rw[uN,ne_eq,jW];intro h;rw[h]at j;have:(43:UInt8).toNat=43:=X;omega
     rw[B,qT,aW,kX,eu (by simp only[bV];omega),aj,k,o,kX,aj,i,f,aW,aj,aj];rfl
   rw[C];refine⟨bif mp s then-D else D,true,X,?_,λ_=>?_⟩
   .congr 2
    cases mp s with
    |true=>rw[bM,bM,bO (show-9223372036854775808<=-1*D by omega) O];omega
    |false=>rw[aW,aW,bO (show-9223372036854775808<=1*D by omega) O];omega
   .cases mp s with
    |true=>rw[bM];omega
    |false=>rw[aW];omega
 .have x:(decide ((t.length:Int)>=1)&&decide ((t.length:Int)<=9))=false:=by rw[uN];simp;omega
  have y:(decide ((t.length:Int)<1)||decide ((t.length:Int)>9))=true:=by simp;omega
  rw[x,y];exact⟨0,false,X,X,λh=>by cases h⟩
theorem kinds(x:Y):∃k:Int,jV (x==·) ([([115,101,116]:Y),([97,100,100]:Y),([109,111,115,116]:Y),([99,111,112,121]:Y)]:List Y)=k/\-1<=k/\k<=3/\
 ((k= -1/\jV (x==·) ([([]:Y),([115,101,116]:Y),([97,100,100]:Y),([109,111,115,116]:Y),([99,111,112,121]:Y)]:List Y)<1)\/(0<=k/\jV (x==·) ([([]:Y),([115,101,116]:Y),([97,100,100]:Y),([109,111,115,116]:Y),([99,111,112,121]:Y)]:List Y)=k+1)):=by
 by_cases e:x=[115,101,116]
 .subst e;exact⟨0,by decide,by decide,by decide,.inr ⟨by decide,by decide⟩⟩
 by_cases f:x=[97,100,100]
 .subst f;exact⟨1,by decide,by decide,by decide,.inr ⟨by decide,by decide⟩⟩
 by_cases g:x=[109,111,115,116]
 .subst g;exact⟨2,by decide,by decide,by decide,.inr ⟨by decide,by decide⟩⟩
 by_cases h:x=[99,111,112,121]
 .subst h;exact⟨3,by decide,by decide,by decide,.inr ⟨by decide,by decide⟩⟩
 refine⟨-1,AR.2 λy a=>?_,by decide,by decide,.inl ⟨X,?_⟩⟩
 .simp only[fB,qO,qS]at a;rcases a with rfl|rfl|rfl|rfl<;>simp[*]
 .by_cases d:x=[]
  .subst d;decide
  .have:jV (x==·) ([([]:Y),([115,101,116]:Y),([97,100,100]:Y),([109,111,115,116]:Y),([99,111,112,121]:Y)]:List Y)= -1:=AR.2 λy a=>by
    simp only[fB,qO,qS]at a;rcases a with rfl|rfl|rfl|rfl|rfl<;>simp[*]
   rw[this];decide
structure Ht(c:cH):Prop where
 k1:1<=c.ba
 k4:c.ba<=4
 ac6:0<=c.ee
 ac7:c.ee<=9
 n1:-1000000000<c.N
 n2:c.N<1000000000
 copy:c.ba=4->0<=c.N/\c.N<=9
theorem Zz{s:Y}{fu:Nat}(M:s.length<=2^21)(hf:s.length+300<fu):∃c e,yC fu s=some (c,e)/\yd fu s=some (c,e)/\(e=0->Ht c):=by
 obtain⟨l,el,-,t⟩:=aaz (fu:=fu) M O;unfold yC yd;rw[el,aj,aj];by_cases q:l.length=3
 .have m:((l.length:Int)!=3)=false:=by rw[q];rfl
  rw[m,aW,aW];obtain⟨a,b,c,rfl⟩:∃a b c,l=[a,b,c]:=by
   match l,q with
   |[a,b,c],_=>exact⟨a,b,c,X⟩
  have Q:bf [a,b,c] (0:Int)=some a:=cY [a,b,c] 0;have S:bf [a,b,c] (1:Int)=some b:=cY [a,b,c] 1;have T:bf [a,b,c] (2:Int)=some c:=cY [a,b,c] 2;obtain⟨f,x,V,W,m3⟩:=KB (s:=b) (fu:=fu) (by have:=t b (by simp);omega) O;obtain⟨g,y,p1,p2,p3⟩:=KB (s:=c) (fu:=fu) (by have:=t c (by simp);omega) O;obtain⟨k,k1,k2,k3,P⟩:=kinds a;rw[Q,S,T];simp only[aj];rw[I7,I7,k1];simp only[aj];rw[V,W];simp only[aj];rw[p1,p2];simp only[aj,or_some,Mj];have wk:aq (k+1)=k+1:=bO O O;rw[wk];rcases P with⟨rfl,o⟩|⟨H,o⟩
  .rw[show((-1:Int)+1==0)=true from X,dA o];exact⟨cH.zero,12,X,X,λh=>by cases h⟩
  .rw[o];have A:(k+1==0)=false:=by simp;omega
   have B:decide (k+1<1)=false:=by simp;omega
   rw[A,B]
   cases x with
   |false=>exact⟨cH.zero,12,X,X,λh=>by cases h⟩
   |true=>
    cases y with
    |false=>exact⟨cH.zero,12,X,X,λh=>by cases h⟩
    |true=>
     have L:=m3 X;have i:=p3 X;simp only[ii,qT,aW];have C:(decide (f<0)||decide (f>9))=!(decide (f>=0)&&decide (f<=9)):=by rw[eZ];simp<;>omega
     have D:(decide (g<0)||decide (g>9))=!(decide (g>=0)&&decide (g<=9)):=by rw[eZ];simp<;>omega
     rw[C,D]
     cases j:decide (f>=0)&&decide (f<=9)with
     |false=>exact⟨cH.zero,1,X,X,λh=>by cases h⟩
     |true=>
      have d:0<=f/\f<=9:=by simpa using j
      simp only[ii,aW]
      cases F:(k+1==4)with
      |false=>
       have n:k+1≠4:=by simpa using F
       exact⟨⟨k+1,f,g⟩,0,X,X,λ_=>⟨by show 1<=k+1;omega,by show k+1<=4;omega,d.1,d.2,i.1,i.2,λh=>absurd h n⟩⟩
      |true=>
       cases K:decide (g>=0)&&decide (g<=9)with
       |false=>exact⟨cH.zero,1,X,X,λh=>by cases h⟩
       |true=>
        have p:0<=g/\g<=9:=by simpa using K
        exact⟨⟨k+1,f,g⟩,0,X,X,λ_=>⟨by show 1<=k+1;omega,by show k+1<=4;omega,d.1,d.2,i.1,i.2,λ_=>p⟩⟩
 .have m:((l.length:Int)!=3)=true:=by simp;omega
  rw[m];exact⟨cH.zero,12,X,X,λh=>by cases h⟩
theorem RS(x:Int):tA x=some (min (max x (-1000000000)) 1000000000):=X
theorem Kz(x:Int):oI x=some (min (max x (-1000000000)) 1000000000):=by
 unfold oI;by_cases a:x>1000000000
 .rw[dA a,bM];congr 1;omega
 .rw[cJ a,aW];by_cases d:x< -1000000000
  .rw[dA d,bM];congr 1;omega
  .rw[cJ d,aW];congr 1;omega
theorem aaG{c:cH}(h:Ht c)(v:Vector Int 10):∃w,yE v c=some w/\((oI c.N).bind λa=>
 (bif c.ba==(2:Int)then((dI v c.ee).bind λg=>(oI (aq ((max (-1099511627776:Int) (min g (1099511627776:Int)))+a))).bind λf=>some f)else
 bif c.ba==(3:Int)then((dI v c.ee).bind λi=>some (max a i))else
 bif c.ba==(4:Int)then((dI v c.N).bind λj=>some j)else some a).bind λl=>
 (dI v c.ee).bind λM=>Let (v.setIfInBounds c.ee.toNat l) λe=>some e)=some w:=by
 obtain⟨k,d,n⟩:=c;obtain⟨A,B,m,C,D,F,o⟩:=h;simp only at A B m C D F o;obtain⟨x,K⟩:=MO v m (show d<(10:Nat) by omega);unfold yE;simp only[K,aj,RS,Kz,Let];by_cases p:k=1
 .subst p;exact⟨_,X,X⟩
 by_cases q:k=2
 .subst q;refine⟨_,X,?_⟩;simp only[show((2:Int)==1)=false from X,show((2:Int)==2)=true from X,bM,aW,aj];congr 2;rw[bO (show-9223372036854775808<=max (-1099511627776:Int) (min x 1099511627776)+min (max n (-1000000000)) 1000000000 by omega) O,bO (show-9223372036854775808<=min (max x (-4000000000)) 4000000000+min (max n (-1000000000)) 1000000000 by omega) O];omega
 by_cases s:k=3
 .subst s;refine⟨_,X,?_⟩;simp only[show((3:Int)==1)=false from X,show((3:Int)==2)=false from X,show((3:Int)==3)=true from X,bM,aW,aj];congr 2;omega
 have t:k=4:=by omega
 subst t;have H:=o X;obtain⟨y,L⟩:=MO v H.1 (show n<(10:Nat) by omega);simp only[L,aj,show((4:Int)==1)=false from X,show((4:Int)==2)=false from X,show((4:Int)==3)=false from X,show((4:Int)==4)=true from X,bM,aW];exact⟨_,X,X⟩
theorem L3{v:Vector Int 10}{l:List Y}{fu:Nat}(L:∀s∈l,s.length<=2^21)(P:2^21+400<fu):∃r,vC fu v l=some r/\ye fu v l=some r:=by
 obtain⟨e,r,D,_⟩:=LS (f:=yD fu l) (g:=yf fu l) (λ_ _=>True) l.length 0 ((0:Int),v) bo (by
  rintro j ⟨n,z⟩ _ B _;have B:j<l.length:=by omega
  have o:l[j]?=some l[j]:=by simp[B]
  have C:=L _ (dj o);generalize l[j]=s at o C;obtain⟨c,e,F,H,K⟩:=Zz (fu:=fu) C O;unfold yD yf;simp only[cY,o,aj,F,H];by_cases A:e=0
  .subst A;obtain⟨w,w1,w2⟩:=aaG (K X) z;simp only[kC,aW,w1,aj]
   have:((oI c.N).bind λa=>
    (bif c.ba==(2:Int)then((dI z c.ee).bind λd=>(oI (aq ((max (-1099511627776:Int) (min d (1099511627776:Int)))+a))).bind λq=>some q)else
    bif c.ba==(3:Int)then((dI z c.ee).bind λi=>some (max a i))else
    bif c.ba==(4:Int)then((dI z c.N).bind λk=>some k)else some a).bind λt=>
    (dI z c.ee).bind λM=>Let (z.setIfInBounds c.ee.toNat t) λp=>some (n,p))=some (n,w):=by
    revert w2
    simp only[Kz,aj,Let]
    cases (bif c.ba==(2:Int)then((dI z c.ee).bind λd=>some (min (max (aq (max (-1099511627776) (min d 1099511627776)+min (max c.N (-1000000000)) 1000000000)) (-1000000000)) 1000000000))else
     bif c.ba==(3:Int)then((dI z c.ee).bind λi=>some (max (min (max c.N (-1000000000)) 1000000000) i))else
     bif c.ba==(4:Int)then((dI z c.N).bind λk=>some k)else some (min (max c.N (-1000000000)) 1000000000))with
    |none=>intro h;cases h
    |some y=>
     simp only[aj]
     cases dI z c.ee with
     |none=>intro h;cases h
     |some x=>simp only[aj];intro h;rw[dF h]
   exact⟨this.symm,_,this,bo⟩
  .have m:(e !=0)=true:=by simpa using A
   rw[m]
   exact⟨X,_,X,bo⟩)
 unfold vC ye;rw[e,D];exact⟨_,X,X⟩
theorem MM(l:List ay)(e:l.length<=2^38):∀(k i:Nat)(z:List Y),i+k=l.length->z.length<=i->bE (vY (l,0)) k i z=some (z++(l.drop i).map (·.aM))
 |0,i,z,d,_=>by rw[kp O];show some z=some (z++[]);rw[jH]
 |k+1,i,z,d,g=>by
  have hi:i<l.length:=by omega
  have f:l[i]?=some l[i]:=by simp[hi]
  have a:vY (l,0) i z=some (z++[l[i].aM]):=by unfold vY;simp only;rw[cY,f,aj,eu (by simp;omega),aj]
  unfold bE;rw[a,aj,MM l e k (i+1) _ O (by simp;omega),jd hi,ow,f9];rfl
def qa(fu:Nat)(l:List ay):Vector Int 10:=((vC fu (Vector.replicate 10 (0:Int)) (l.map (·.aM))).getD (Vector.replicate 10 0,0)).1
theorem aa7{B fu:Nat}{a:AW}(d:2^21+400<fu)(h:GA B a)(j:B<=2^35){i:Nat}(hi:i<a.ps.length):zB fu a.w (i:Int)=some (qa fu a.ps[i].bd,0):=by
 have hp:=h.ps a.ps[i] (qX hi);have f:=hp.bd
 obtain⟨r,g,_⟩:=L3 (fu:=fu) (v:=Vector.replicate 10 (0:Int)) (l:=a.ps[i].bd.map (·.aM)) (λs k=>by
  obtain⟨x,m,rfl⟩:=mE.1 k;have:=hp.jz x m
  omega) d
 have e:=MM a.ps[i].bd O a.ps[i].bd.length 0 [] O (by simp);rw[eT,uD]at e;unfold zB;rw[VW h j hi,aj];simp only[kC,aW];rw[e,aj,g,aj];unfold qa;rw[g];rfl
theorem Wk{n:Nat}:vk (n:Int)=some ((jh n).r []):=by
 unfold vk;rw[qv,aj];have a:∀{α:Type}(d:α)(f:bm->α),f bm.zero=d->RV d f (List.replicate n bm.zero)=Vector.replicate 6 d:=λd f h=>by
  apply uK;intro j e;simp only[RV,A5,Vector.getElem_replicate]
  cases hd:(List.replicate n bm.zero)[j]? with
  |none=>rfl
  |some y=>rw[(sJ.1 (dj hd)).2];exact h
 unfold AW.r jh;rw[a [] (·.bd) X,a To.zero (·.to) X,a aw.zero (·.au) X,a To.zero (·.bw) X];simp only[ov];rfl
theorem Mb.new{n:Nat}(h:1<=n/\n<=6):Mb (jh n):=by
 have:∀n:Fin 7,1<=n.val->(((1:BitVec 8)<<<n.val)-(1:BitVec 8)).toNat<2^n.val:=by decide
 unfold Mb jh;simp only[ov];exact this ⟨n,by omega⟩ h.1
theorem Bw{n i:Nat}{x:bm}(a:(jh n).ps[i]?=some x):x=bm.zero:=(sJ.1 (dj a)).2
theorem ga.new{n:Nat}:ga [] (jh n):=λi x a=>by rw[Bw a];rfl
theorem OS.new{n:Nat}:OS 0 (jh n):=by
 refine⟨λm d=>(by cases d),λx a=>?_,λi x a=>?_,λm d=>(by cases d),λi x a=>?_,λm d=>(by cases d),λi x a _=>?_⟩
 .rw[(sJ.1 a).2];exact jY _
 .rw[Bw a];exact⟨jY _,λp hp=>(by cases hp)⟩
 .rw[Bw a];rfl
 .rw[Bw a];exact jY _
theorem L8(l:List ay)(f:l.length<=2^38):∀(k i:Nat)(z:List Y),i+k=l.length->z.length<=i->bE (vo l) k i z=some (z++(l.drop i).map (·.aM))
 |0,i,z,d,_=>by have e:l.drop i=[]:=kp O;rw[e];show some z=some (z++[]);rw[jH]
 |k+1,i,z,d,h=>by
  have hi:i<l.length:=by omega
  have g:l[i]?=some l[i]:=by simp[hi]
  have a:vo l i z=some (z++[l[i].aM]):=by unfold vo;rw[cY,g,aj,eu (by simp;omega),aj]
  unfold bE;rw[a,aj,L8 l f k (i+1) _ O (by simp;omega),jd hi,ow,f9];rfl
theorem ZT{B fu:Nat}{a:AW}{g:List (Int×Int)}(d:2^21+400<fu)(h:GA B a)(o:B<=2^35){i:Nat}(hi:i<a.ps.length):yo fu (a.r g) (i:Int)=some (qa fu a.ps[i].bd):=by
 have hp:=h.ps a.ps[i] (qX hi);have f:=hp.bd
 obtain⟨r,m,n⟩:=L3 (fu:=fu) (v:=Vector.replicate 10 (0:Int)) (l:=a.ps[i].bd.map (·.aM)) (λs j=>by
  obtain⟨x,k,rfl⟩:=mE.1 j;have:=hp.jz x k
  omega) d
 have e:=L8 a.ps[i].bd O a.ps[i].bd.length 0 [] O (by simp);rw[eT,uD]at e;unfold yo;rw[show(a.r g).du=RV [] (·.bd) a.ps from X,pI (by have:=h.n.2;omega) (show a.ps[i]?=some a.ps[i] by simp[hi]),aj,e,aj,n,aj];unfold qa;rw[m];rfl
