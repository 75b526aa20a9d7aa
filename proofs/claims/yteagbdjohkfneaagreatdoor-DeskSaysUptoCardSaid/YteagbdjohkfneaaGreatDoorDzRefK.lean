/-
  The document's receiver after a parcel, as the code's.
-/
import Derived.Test.YteagbdjohkfneaaGreatDoorDzWireRef
namespace Go.Proofs.YteagbdjohkfneaaGreatDoor
open an
theorem TM{r:To}(h:r.bu.Pairwise iP):∃m,bC (wj r) r.bu.length 0 []=some m/\∀s t,dg m s=some t↔(⟨s,t⟩:bc)∈r.bu:=by
 have k:cc (bC (wj r) r.bu.length 0 []) λz=>∀s t,dg z s=some t↔(⟨s,t⟩:bc)∈r.bu:=by
  refine kU (λi z=>∀s t,dg z s=some t↔(⟨s,t⟩:bc)∈r.bu.take i) (λs t=>by simp[Mk]) ?_ (λz g=>by rwa[gF,vx]at g);intro i z _ hi g;have hi:i<r.bu.length:=by omega
  have d:r.bu[i]?=some r.bu[i]:=by simp[hi]
  generalize r.bu[i]=x at d;unfold wj;rw[cK,d,ae,lU,co];intro s t;rw[vO,acv d,fx,ia];by_cases e:s=x.aA
  .rw[bE e];constructor
   .intro q;refine .inr ?_;cases x;simp only at e q;rw[e,dp q]
   .rintro(q|q)
    .obtain⟨j,f⟩:=ji q;have a:j<i:=by have:=(dl f).1;simp at this;omega
     rw[tL,bE a]at f;have:=rJ h a f d;simp only at this;omega
    .rw[<-q]
  .rw[ca e,g s t];constructor
   .exact .inl
   .rintro(q|q)
    .exact q
    .rw[<-q]at e;exact absurd X e
 obtain⟨m,e,l⟩:=k;exact⟨m,e,l⟩
theorem abd{f:List (Int×Y)}{N:Int}{fu:Nat}(q:0<=N/\N<=1000000000)(p:∀s t,dg f s=some t->s<N+16)(x:40<fu):
 ∃k:Nat,k<=16/\cw (se f) fu ((⟨N,[]⟩:To),[])=some (.inl ((⟨N+k,[]⟩:To),tl (dg f) N k))/\(∀j:Nat,j<k->(dg f (N+j)).isSome=true)/\dg f (N+k)=none:=by
 have g:cc (cw (se f) fu ((⟨N,[]⟩:To),[])) λo=>∃k:Nat,k<=16/\o=.inl ((⟨N+k,[]⟩:To),tl (dg f) N k)/\(∀j:Nat,j<k->(dg f (N+j)).isSome=true)/\dg f (N+k)=none:=by
  refine lW (λz=>∃k:Nat,k<=16/\z=((⟨N+k,[]⟩:To),tl (dg f) N k)/\∀j:Nat,j<k->(dg f (N+j)).isSome=true) (λz=>20-z.2.length) ⟨0,by omega,by simp[tl],λj h=>by omega⟩ (by simp;omega) ?_;rintro _ ⟨k,m,rfl,a⟩;unfold se;simp only
  cases d:dg f (N+k)with
  |none=>simp only[Cm,lO,bG];exact co.2 (mW.2 ⟨k,m,X,a,d⟩)
  |some t=>
   have n:=p _ _ d;simp only[Cn,fX,aS,zd];rw[dm (by rw[sy];simp;omega),ae,lU,co,bT (show-9223372036854775808<=N+(k:Int)+1 by omega) O];refine kT.2 ⟨⟨k+1,by omega,?_,λj y=>?_⟩,?_⟩
   .rw[On,d];simp;omega
   .by_cases e:j=k
    .subst e;rw[d];rfl
    .exact a j O
   .simp only[cH,sy,List.length_singleton];omega
 obtain⟨o,e,k,a,rfl,i,l⟩:=g;exact⟨k,a,e,i,l⟩
theorem aa9{r:To}{f:List (Int×Y)}{q:Int}{fu:Nat}(F:0<=r.aN/\r.aN<=1000000000)(K:r.aN<=q/\q<=r.aN+16)(B:∀s t,dg f s=some t->s<r.aN+16)(H:40<fu):
 ∃k e,cw (zV r f) fu (q+1,(⟨q,[]⟩:To))=some (.inl (k,(⟨q,e⟩:To)))/\e.Pairwise iP/\o2 (dg f) (q+1) e/\e.length<=16:=by
 have n:ap (r.aN+16)=r.aN+16:=bT O O;have m:cc (cw (zV r f) fu (q+1,(⟨q,[]⟩:To))) λo=>∃k e,o=.inl (k,(⟨q,e⟩:To))/\e.Pairwise iP/\o2 (dg f) (q+1) e/\e.length<=16:=by
  refine lW (λz=>∃k e,z=(k,(⟨q,e⟩:To))/\q+1<=k/\k<=q+17/\e.Pairwise iP/\(∀s t,(⟨s,t⟩:bc)∈e↔q+1<=s/\s<k/\dg f s=some t)/\(e.length:Int)<=k-(q+1)) (λz=>(r.aN+20-z.1).toNat)
   ⟨q+1,[],X,jz _,by omega,.nil,λs t=>by simp;omega,by simp⟩ (by simp only;omega) ?_
  rintro _ ⟨k,e,rfl,i,p,g,h,D⟩;unfold zV;simp only[n];rw[fc];refine⟨λc=>?_,λc=>?_⟩
  .have c:k<r.aN+16:=by simpa using c
   have x:ap (k+1)=k+1:=bT O O
   cases j:dg f k with
   |none=>
    simp only[Cm,aS];rw[x,co];refine kT.2 ⟨⟨k+1,e,X,by omega,by omega,g,λs t=>?_,by omega⟩,by simp only;omega⟩;rw[h s t];constructor
    .rintro⟨a,b,d⟩;exact⟨a,by omega,d⟩
    .rintro⟨a,b,d⟩;have:s≠k:=λe=>by subst e;rw[j]at d;cases d
     exact⟨a,by omega,d⟩
   |some C=>
    simp only[Cn,bG,zd];rw[dm (by simp;omega),ae,x,co];refine kT.2 ⟨⟨k+1,e++[⟨k,C⟩],X,by omega,by omega,?_,λs t=>?_,by simp;omega⟩,by simp only;omega⟩
    .rw[GK];refine⟨g,by simp,λa y b A=>?_⟩;rw[ia.1 A];have:=((h a.aA a.aY).1 y).2.1;exact this
    .rw[fx,ia,h s t];constructor
     .rintro(⟨a,b,d⟩|d)
      .exact⟨a,by omega,d⟩
      .cases d;exact⟨i,by omega,j⟩
     .rintro⟨a,b,d⟩;by_cases e:s=k
      .subst e;rw[j]at d;right;rw[dp d]
      .exact .inl ⟨a,by omega,d⟩
  .have c:¬k<r.aN+16:=by simpa using c
   rw[co];refine mW.2 ⟨k,e,X,g,λs t=>?_,by omega⟩;rw[h s t];constructor
   .rintro⟨a,_,b⟩;exact⟨a,b⟩
   .rintro⟨a,b⟩;exact⟨a,by have:=B s t b;omega,b⟩
 obtain⟨o,e,k,l,rfl,i,p,g⟩:=m;exact⟨k,l,e,i,p,g⟩
theorem YE{r:To}{p:bc}{fu:Nat}(dL:200<fu)(h:mC r)(hp:0<=p.aA/\p.aA<=16777214)(ht:p.aY.length<=200):
 ∃o ts,nE fu r p=some (o,ts,0)/\uh fu r p=some (o,ts)/\jH r p o ts:=by
 have hN:0<=r.aN/\r.aN<=1000000000:=by have:=h.lo;have:=h.hi;omega
 have VL:=h.hi;have w16:ap (r.aN+16)=r.aN+16:=bT O O;have z:=h.len;obtain⟨m,em,F⟩:=TM h.inc;obtain⟨k,b,eb,hk,Wv,Ww,hb⟩:=L6 (t:=p.aA) (fu:=fu) h.inc O (λx l=>by have:=h.iB x l;omega) O O;have n:∀s t,dg m s=some t->r.aN<s/\s<=r.aN+15:=λs t q=>h.iB _ ((F s t).1 q);have d:(dg m p.aA).isSome=b:=by
  rw[ew,hb];constructor
  .intro q;obtain⟨t,e⟩:=Option.isSome_iff_exists.1 q;exact⟨_,(F _ _).1 e,X⟩
  .rintro⟨x,l,q⟩;have:=(F x.aA x.aY).2 l;rw[q]at this;rw[this];rfl
 have S:∀f:List (Int×Y),(∀s t,dg f s=some t->r.aN<=s/\s<r.aN+16)->∃(q:Nat)(e:List bc),q<=16/\(andThen (cw (se f) fu (({To.zero with aN:=r.aN}:To),([]:List Y))) λ(T,Xq)=>
  andThen (cw (zV r f) fu (ap (T.aN+(1:Int)),({T with bu:=([]:List bc)}:To))) λ(_,y75)=>some (y75,Xq))=some ((⟨r.aN+q,e⟩:To),tl (dg f) r.aN q)/\
  (∀j:Nat,j<q->(dg f (r.aN+j)).isSome=true)/\dg f (r.aN+q)=none/\e.Pairwise iP/\o2 (dg f) (r.aN+q+1) e/\e.length<=16:=λf hf=>by
  obtain⟨q,q1,q2,q3,q4⟩:=abd (f:=f) (fu:=fu) hN (λs t x=>(hf s t x).2) O;obtain⟨k',e,p1,p2,p3,p4⟩:=aa9 (r:=r) (f:=f) (q:=r.aN+q) (fu:=fu) hN O (λs t x=>(hf s t x).2) O;refine⟨q,e,q1,?_,q3,q4,p2,p3,p4⟩;have MO:cw (se f) fu (({To.zero with aN:=r.aN}:To),([]:List Y))=some (.inl ((⟨r.aN+q,[]⟩:To),tl (dg f) r.aN q)):=q2;rw[MO,jK];simp only;rw[bT (show-9223372036854775808<=r.aN+(q:Int)+1 by omega) O,p1,jK]
 unfold nE uh;rw[Ic h,ae];simp only[iW,aS];rw[zu,ae,c0 (show p.aA>=0 by omega),c0 (show p.aA<=16777214 by omega)];unfold pG;simp only[je,fX,aS,ae];rw[cm (show ¬(p.aY.length:Int)>200 by omega),aS,BM O,ae];simp only[Let];rw[eb,ae,or_some,ae,or_some,ae,w16,em,ae,iR,ae,iR,ae,d];by_cases B:r.aN<=p.aA/\p.aA<r.aN+16/\b=false
 .obtain⟨i1,W,rfl⟩:=B;rw[cm (show ¬p.aA<r.aN by omega),cm (show ¬p.aA>=r.aN+16 by omega),c0 (show p.aA>=r.aN by omega),c0 (show p.aA<r.aN+16 by omega)];simp only[oE,lO,je,bG,aS,ae];have g:∀s t,dg (eR m p.aA p.aY) s=some t↔(⟨s,t⟩:bc)∈r.bu\/(⟨s,t⟩:bc)=p:=λs t=>by
   have rH:∀t,(⟨p.aA,t⟩:bc) ∉ r.bu:=λt q=>by have:=(F _ _).2 q;rw[this]at d;cases d
   rw[vO];by_cases e:s=p.aA
   .subst e;rw[bE X];constructor
    .intro q;right;rw[<-dp q]
    .rintro(q|q)
     .exact absurd q (rH t)
     .rw[<-q]
   .rw[ca e,F s t];constructor
    .exact .inl
    .rintro(q|q)
     .exact q
     .rw[<-q]at e;exact absurd X e
  obtain⟨q,e,hq,V,P,r2,Q,H,r5⟩:=S (eR m p.aA p.aY) (λs t x=>by
   rcases(g s t).1 x with x|x
   .have:=h.iB _ x;simp only at this;omega
   .rw[<-x]at i1 W;exact⟨i1,W⟩)
  have A:∀o ts,o=(⟨r.aN+q,e⟩:To)->ts=tl (dg (eR m p.aA p.aY)) r.aN q->jH r p o ts:=by
   rintro o ts rfl rfl;refine⟨by rw[sy],Q,λx l=>?_,λx l=>?_,r5,λi t hi=>?_⟩
   .have qo:=(H x.aA x.aY).1 l;have M:=(g _ _).1 qo.2;refine⟨by simp only;omega,?_,M⟩;rcases M with y|y
    .have:=h.iB _ y;simp only at this;omega
    .rw[<-y]at W;simp only at W;omega
   .rcases(g _ _).1 ((H x.aA x.aY).1 l).2 with y|y
    .exact h.jR _ y
    .rw[<-y]at ht;exact ht
   .exact(g _ _).1 (Om hi P)
  by_cases c:p.aA>r.aN
  .rw[c0 c,bG];have ei:uD r.bu (k:Int) [p]=some (r.bu.take k++[p]++r.bu.drop k):=by
    unfold uD;have ec:∃x,bY r.bu (k:Int) (r.bu.length:Int)=some x:=⟨_,by unfold bY;rw[bE O]⟩
    obtain⟨x,ec⟩:=ec;rw[ec,ae,dm (by simp;omega),ae,cP]
   obtain⟨n1,n2⟩:=LP (p:=p) h.inc hk Wv (λj x hj l=>by
    have:=Ww j x hj l;have yQ:x.aA≠p.aA:=λe=>by have:=hb.2 ⟨x,du l,e⟩;cases this
    omega)
   have D:q=0:=by
    refine FH P r2 (k':=0) (λj hj=>by omega) ?_
    cases e:dg (eR m p.aA p.aY) (r.aN+((0:Nat):Int))with
    |none=>rfl
    |some t=>
     rcases(g _ _).1 e with y|y
     .have:=h.iB _ y;simp only at this;omega
     .rw[<-y]at c;simp at c
   subst D;have K:e=r.bu.take k++[p]++r.bu.drop k:=Cc Q n1 λs t=>by
    rw[H s t,n2,g s t];constructor
    .exact λx=>x.2
    .intro x;refine⟨?_,x⟩;rcases x with y|y
     .have:=h.iB _ y;simp only at this;push_cast;omega
     .rw[<-y]at c;simp only at c;push_cast;omega
   rw[ei,ae];refine⟨⟨r.aN,e⟩,[],?_,?_,A _ _ (by simp) (by simp[tl])⟩
   .rw[K]
   .refine V.trans ?_;simp[tl]
  .have C:p.aA=r.aN:=by omega
   rw[cm c,aS,bT (show-9223372036854775808<=r.aN+1 by omega) O];have L:dg (eR m p.aA p.aY) r.aN=some p.aY:=by rw[vO,bE C.symm]
   obtain⟨q',E',c1,c2,c3,c4,c5,c6,c7,c8⟩:=Ks (f:=dg (eR m p.aA p.aY)) (N:=r.aN) (E:=r.bu) (fu:=fu) hN h.inc (λs t=>by
    rw[g s t];constructor
    .intro x;have:=h.iB _ x;simp only at this;exact⟨by omega,.inl x⟩
    .rintro⟨a,x|x⟩
     .exact x
     .rw[<-x]at C;simp only at C;omega) z (by rw[L];rfl) O
   have e1:tl (dg (eR m p.aA p.aY)) r.aN 1=[p.aY]:=by simp[tl,L]
   rw[e1]at c1;obtain rfl:q'=q:=FH c2 c3 P r2;have K:E'=e:=Cc c4 Q λs t=>by
    rw[c5 s t,H s t];constructor
    .rintro⟨a,x⟩;have:s≠r.aN+q':=λy=>by rw[y,c3]at x;cases x
     exact⟨by omega,x⟩
    .rintro⟨a,x⟩;exact⟨by omega,x⟩
   subst K;have TO:cw rW fu (({To.zero with aN:=r.aN+1,bu:=r.bu}:To),([p.aY]:List Y),r.bu)=some (.inl ((⟨r.aN+q',E'⟩:To),tl (dg (eR m p.aA p.aY)) r.aN q',E')):=c1;rw[TO,jK];simp only;rw[BM O,ae];exact⟨_,_,X,V,A _ _ X X⟩
 .have e1:((decide (p.aA<r.aN)||decide (p.aA>=r.aN+16))||b)=true:=by
   cases b
   .simp only[zj,mQ,eW];have:¬(r.aN<=p.aA/\p.aA<r.aN+16):=λx=>B ⟨x.1,x.2,X⟩;omega
   .simp
  have e2:((!b&&decide (p.aA>=r.aN))&&decide (p.aA<r.aN+16))=false:=by
   cases b
   .rw[rR];simp only[lO,kR,ne_eq,eu,eW];exact λx=>B ⟨by omega,by omega,X⟩
   .simp
  rw[e1,bG,e2,aS,ae];obtain⟨q,e,hq,V,P,r2,Q,H,r5⟩:=S m (λs t x=>by have:=n s t x;omega);have D:q=0:=by
   refine FH P r2 (k':=0) (λj hj=>by omega) ?_
   cases e:dg m (r.aN+((0:Nat):Int))with
   |none=>rfl
   |some t=>have:=n _ _ e;omega
  subst D;have K:e=r.bu:=Cc Q h.inc λs t=>by
   rw[H s t,<-F s t];constructor
   .exact λx=>x.2
   .intro x;have:=n _ _ x;exact⟨by push_cast;omega,x⟩
  subst K;refine⟨⟨r.aN,r.bu⟩,[],X,V.trans (by simp[tl]),⟨by simp,h.inc,λx l=>?_,h.jR,z,λi t hi=>by simp at hi⟩⟩;have:=h.iB x l;exact⟨this.1,by omega,.inl l⟩
def eC:Nat->Nat->Nat
 |0,_=>0
 |f+1,m=>m%2+eC f (m/2)
theorem Ad:∀(a b m:Nat),eC (a+b) m=eC a (m%2^a)+eC b (m/2^a)
 |0,b,m=>by simp[eC]
 |a+1,b,m=>by
  rw[show a+1+b=(a+b)+1 by omega];show m%2+eC (a+b) (m/2)=(m%2^(a+1))%2+eC a (m%2^(a+1)/2)+eC b (m/2^(a+1));rw[Ad a b (m/2)];have d:m%2^(a+1)%2=m%2:=by rw[pu,vy,Nat.mod_mul_right_mod]
  have e:m%2^(a+1)/2=m/2%2^a:=by rw[pu,vy,Nat.mod_mul_right_div_self]
  have f:m/2/2^a=m/2^(a+1):=by rw[Nat.div_div_eq_div_mul,pu,vy]
  rw[d,e,f];omega
theorem uq:∀(a m:Nat),eC a m<=a
 |0,_=>dG _
 |a+1,m=>by have:=uq a (m/2);show m%2+eC a (m/2)<=a+1;omega
def pc(x:BitVec 16):Nat:=eC 16 x.toNat
theorem Hm(x:BitVec 16):pc x<=16:=uq _ _
theorem Yo{a:Y}(e:(List.range 256).all (λk=>match a[k]? with
 |none=>false
 |some v=>decide (v.toNat=eC 8 k))=true){k:Nat}(d:k<256):∃v:UInt8,bh a (k:Int)=some v/\v.toNat=eC 8 k:=by
 have:=lQ.1 e k (pp.2 d);rw[cK]
 cases h:a[k]? with
 |none=>rw[h]at this;cases this
 |some v=>rw[h]at this;exact⟨v,X,by simpa using this⟩
theorem HX{fu:Nat}(j:2^16<fu)(x:BitVec 16):oO fu x=some (pc x:Int):=by
 refine oK ?_;unfold oO;rw[mo];have m:=x.isLt;refine lW (λz:(BitVec 16)×Int=>∃f:Nat,f<=16/\z.1.toNat<2^f/\z.2+eC f z.1.toNat=pc x/\0<=z.2) (λz=>z.1.toNat) ⟨16,by omega,m,by unfold pc;simp,by simp only;omega⟩ (by simp only;omega) ?_;rintro⟨y,n⟩ ⟨f,s,e,a,i⟩;simp only at e a i;unfold z7;simp only;rw[fc];refine⟨λk=>?_,λk=>?_⟩
 .have k:0<y.toNat:=by have:=j5 k;simp at this;omega
  obtain⟨f,rfl⟩:∃g,f=g+1:=⟨f-1,by
   rcases rM f with rfl|q
   .simp at e;omega
   .omega⟩
  have d:(y/(2:BitVec 16)).toNat=y.toNat/2:=by rw[BitVec.toNat_udiv];rfl
  have h:(y%(2:BitVec 16)).toNat=y.toNat%2:=by rw[vA];rfl
  have hp:eC (f+1) y.toNat=y.toNat%2+eC f (y.toNat/2):=X;have l:=Hm x;rw[co,h,bT O O];refine⟨⟨f,by omega,?_,?_,by simp only;omega⟩,?_⟩
  .simp only[d];rw[pu]at e;omega
  .simp only[d];rw[hp]at a;push_cast at a ⊢;omega
  .simp only[d];omega
 .have k:y.toNat=0:=by have:=ln k;simp at this;omega
  rw[co];show cc (some n) _;rw[co];rw[k]at a;have o:∀f,eC f 0=0:=by
   intro f
   induction f with
   |zero=>rfl
   |succ f p=>show 0%2+eC f (0/2)=0;simpa using p
  rw[o]at a;omega
theorem Y9{m:Nat}(h:m<256):eC 16 m=eC 8 m:=by have:=Ad 8 8 m;rw[show m/2^8=0 by omega,kO O]at this;rw[this];simp[eC]
def zC(x:BitVec 8):Nat:=eC 8 x.toNat
theorem N1{fu:Nat}(a:2^16<fu)(x:BitVec 8):oO fu (BitVec.ofInt 16 (x.toNat:Int))=some (zC x:Int):=by
 rw[HX a];have d:=x.isLt;congr 2;unfold pc zC;have:(BitVec.ofInt 16 (x.toNat:Int)).toNat=x.toNat:=by rw[rN];omega
 rw[this,Y9 O]
theorem Kv(x:BitVec 8):rX x=some (zC x:Int):=by unfold rX;obtain⟨v,a,d⟩:=Yo (by kernel_rfl) (k:=x.toNat) (by have:=x.isLt;omega);rw[a,ae];congr 2
def RV{α:Type}(d:α)(f:bw->α)(ps:List bw):Vector α 6:=Vector.ofFn λi:Fin 6=>match ps[i.val]? with|some x=>f x|none=>d
theorem RV.get{α:Type}{d:α}{f:bw->α}{ps:List bw}{i:Nat}{x:bw}(hi:i<6)(a:ps[i]?=some x):cI (RV d f ps) (i:Int)=some (f x):=by rw[uF _ hi];simp[RV,a]
theorem RV.set{α:Type}{d:α}{f:bw->α}{ps:List bw}{i:Nat}{v:α}{y:bw}(hi:i<ps.length)(g:v=f y):(RV d f ps).setIfInBounds i v=RV d f (ps.set i y):=by
 apply rP;intro j a;by_cases c:j=i
 .subst c;simp[RV,hi,g]
 .rw[mO a (λe=>c e.symm)];simp only[RV,Cp];rw[iu (λe=>c e.symm)]
theorem RV.same{α:Type}{d:α}{f:bw->α}{ps:List bw}{i:Nat}{x y:bw}(a:ps[i]?=some x)(h:f y=f x):RV d f (ps.set i y)=RV d f ps:=by
 have hi:=(dl a).1;apply rP;intro j g;simp only[RV,Cp];by_cases c:j=i
 .subst c;rw[fY hi,a];exact h
 .rw[iu (λe=>c e.symm)]
def AW.r(a:AW)(g:List (Int×Int)):bi:=⟨a.ps.length,a.aO,g,RV [] (·.bq) a.ps,RV To.zero (·.to) a.ps,RV aJ.zero (·.aF) a.ps,RV To.zero (·.bN) a.ps,a.ord.map (·.2.2),a.ord.map (λm=>(⟨m.1,m.2.1⟩:cN)),a.ah⟩
theorem lw{a b:AW}{g:List (Int×Int)}(h:b.ord=a.ord):({b.r g with aI:=g,bd:=a.ord.map (·.2.2),bf:=a.ord.map (λm=>(⟨m.1,m.2.1⟩:cN)),bj:=b.ah}:bi)=b.r g:=by unfold AW.r;simp only;rw[h]
def gx(g:List (Int×Int))(a:AW):Prop:=∀(i:Nat)x,a.ps[i]?=some x->(((dg g (i:Int)).getD (0:Int))==(0:Int))=!x.eE
def Mb(a:AW):Prop:=a.aO.bJ.toNat<2^a.ps.length
theorem Ts(x:BitVec 8):x%2=x&&&1:=by apply nD;rw[vA,rL];show x.toNat%2=x.toNat&&&1;rw[Ci]
theorem LW(m:BitVec 8)(i:Nat):((((m>>>i)%(2:BitVec 8)).toNat:Int)==((1:BitVec 8).toNat:Int))=fg m i:=by rw[Ts];rfl
theorem LX{m:BitVec 8}{n i:Nat}(h:m.toNat<2^n)(hi:n<=i):fg m i=false:=by
 unfold fg;have:m>>>i=0:=by apply nD;rw[py,pw];have a:2^n<=2^i:=lN O hi;rw[zb O];rfl
 rw[this];rfl
theorem yJ{a:AW}{g:List (Int×Int)}(k:Mb a)(h:gx g a)(i:Nat):oM (a.r g) (i:Int)=some (act a (i:Int)):=by
 unfold oM;rw[og,ae,show(a.r g).V=a.aO from X,LW,show(a.r g).aI=g from X];by_cases hi:i<a.ps.length
 .have f:a.ps[i]?=some a.ps[i]:=by simp[hi]
  have d:dt a (i:Int)=true:=fN.2 ⟨i,X,hi⟩;unfold act;rw[d,cP,f,h i _ f];cases fg a.aO.bJ i<;>rfl
 .have d:dt a (i:Int)=false:=by
   rw[rR];intro q;obtain⟨j,e,l⟩:=fN.1 q;omega
  unfold act;rw[d,LX k O];rfl
theorem OG{a:AW}{g:List (Int×Int)}(f:Mb a)(e:gx g a)(p:Int):wv (a.r g) p=some (gm a p):=by
 unfold wv gm;rw[or_some,ae,show(a.r g).n=(a.ps.length:Int)from X]
 cases d:dt a p with
 |false=>
  have:(decide (p<0)||decide (p>=(a.ps.length:Int)))=true:=by unfold dt at d;simp only[oD,lm]at d;simp only[mQ,eW];omega
  rw[this];rfl
 |true=>obtain⟨i,rfl,hi⟩:=fN.1 d;rw[cm O,cm O,yJ f e];cases act a (i:Int)<;>rfl
def xg(m:BitVec 8):Int:=bif fg m 0 then 0 else bif fg m 1 then 1 else bif fg m 2 then 2 else bif fg m 3 then 3 else bif fg m 4 then 4 else bif fg m 5 then 5 else 0
theorem acz:((List.range 64).all λm=>m==0||(match vN (BitVec.ofNat 8 m)with|some x=>x==xg (BitVec.ofNat 8 m)|none=>false))=true:=by kernel_rfl
theorem N7{v:bB}(l:0<=v.ce/\v.ce<=16777215)(j:v.bJ.toNat<64):sq v=xg v.bJ:=by
 have g:q6 v=some (xg v.bJ,0)\/(v.bJ=0/\∃e,q6 v=some ((0:Int),e)):=by
  unfold q6 q5 sE;have i:(((v.bJ>>>6).toNat:Int)!=((0:BitVec 8).toNat:Int))=false:=by
   have:(v.bJ>>>6).toNat=0:=by rw[py,pw];omega
   rw[this];rfl
  rw[or_some,ae,or_some,ae,i,ae,or_some,ae,cm O,cm O];by_cases d:v.bJ=0
  .right;rw[d];exact⟨X,_,X⟩
  .left;have f:((v.bJ.toNat:Int)==((0:BitVec 8).toNat:Int))=false:=by
    rw[ll];intro e;refine d (nD ?_);have:((0:BitVec 8).toNat:Int)=0:=X;show v.bJ.toNat=0;omega
   rw[f];have a:=lQ.1 acz v.bJ.toNat (pp.2 j);rw[BitVec.ofNat_toNat]at a;have k:(v.bJ.toNat==0)=false:=by rw[ll];intro e;exact d (nD e)
   rw[k,Ct,BitVec.setWidth_eq]at a
   cases h:vN v.bJ with
   |none=>rw[h]at a;cases a
   |some x=>
    rw[h]at a;have a:x=xg v.bJ:=by simpa using a
    rw[a];rfl
 unfold sq;rcases g with e|⟨d,e,q⟩
 .rw[e];rfl
 .rw[q,d];rfl
theorem CE{w:bi}(l:0<=w.V.ce/\w.V.ce<=16777215)(k:w.V.bJ.toNat<64):sk w=some (sq w.V):=by
 rw[N7 l k];have a:∀i:Nat,zY w i ()=some (bif fg w.V.bJ i then .ret (i:Int)else .go ()):=λi=>by unfold zY;rw[og,ae,LW];cases fg w.V.bJ i<;>rfl
 unfold sk xg
 cases d:fg w.V.bJ 0 with
 |true=>unfold cM;rw[a,d];rfl
 |false=>
 cases e:fg w.V.bJ 1 with
 |true=>unfold cM;rw[a,d];unfold cM;simp only[aS,ae];rw[a,e];rfl
 |false=>
 cases f:fg w.V.bJ 2 with
 |true=>simp[cM,a,d,e,f,andThen]
 |false=>
 cases g:fg w.V.bJ 3 with
 |true=>simp[cM,a,d,e,f,g,andThen]
 |false=>
 cases h:fg w.V.bJ 4 with
 |true=>simp[cM,a,d,e,f,g,h,andThen]
 |false=>
 cases j:fg w.V.bJ 5 with
 |true=>simp[cM,a,d,e,f,g,h,j,andThen]
 |false=>simp[cM,a,d,e,f,g,h,j,andThen]
theorem Mb.lt{a:AW}{B:Nat}(h:GA B a)(e:Mb a):a.aO.bJ.toNat<64:=by have d:=h.n.2;have:2^a.ps.length<=2^6:=lN O d;unfold Mb at e;omega
theorem Dz{a:AW}{g:List (Int×Int)}{fu:Nat}(d:20<=fu)(m:a.ah.length<=60)(k f t s:Int)(x:Y):
 sl fu (a.r g) ({aV.zero with aX:=k,aJ:=f,To:=t,aA:=s,aY:=x}:aV)=some ((dO a k f t s x).ah,(dO a k f t s x).r g):=by
 have e:({({aV.zero with aX:=k,aJ:=f,To:=t,aA:=s,aY:=x}:aV)with bB:=(a.r g).V.ce}:aV)=jB a.aO k f t s x:=X;unfold sl;rw[eg,e,show(a.r g).bj=a.ah from X,Fg _ d];obtain⟨c,i,l⟩:=oe (jB a.aO k f t s x);have h:mu (jB a.aO k f t s x)=(c==0):=by unfold mu;rw[i]
 unfold dO;rw[i,h];by_cases j:a.ah.length<60
 .rw[c0 (show(a.ah.length:Int)<60 by omega),c0 j];simp only[bG,ae,Cs]
  cases (c==0)with
  |false=>rfl
  |true=>simp only[bG];rw[dm (by simp;omega),ae,eg];rfl
 .rw[cm (show ¬(a.ah.length:Int)<60 by omega),cm j,zf];rfl
theorem abz{B:Nat}{a:AW}{g:List (Int×Int)}{fu:Nat}(q:20<=fu)(h:GA B a)(A:Mb a)(D:gx g a)(p:Int)(t:Y):
 qO fu (a.r g) p t=some ((iM a p t).1.ah,(iM a p t).1.r g,(iM a p t).2):=by
 unfold qO iM;rw[OG A D,ae]
 cases K:(gm a p !=0)with
 |true=>rfl
 |false=>
  obtain⟨i,x,rfl,e,L⟩:=oW K;have hi:=(dl e).1;have z:i<6:=by have:=h.n.2;omega
  rw[aS,aS];by_cases C:t.length>150
  .rw[c0 C,c0 (show(t.length:Int)>150 by omega)];rfl
  .rw[cm C,cm (show ¬(t.length:Int)>150 by omega),aS,aS,show(a.r g).aR=RV aJ.zero (·.aF) a.ps from X,RV.get z e,ae,cP,e];have hp:=(h.ps x (du e)).gf;have M:=hp.base;have S:=hp.late;simp only;rw[show(a.r g).bj=a.ah from X,bT (show-9223372036854775808<=x.aF.bI+(x.aF.aR.length:Int) by omega) O,or_some,ae,or_some,ae];have l:((a.ah.length:Int)==60)=decide (a.ah.length=60):=by rw[ew];simp;omega
   have k:(((x.aF.aR.length:Int)==16)||decide (x.aF.bI+(x.aF.aR.length:Int)>=16777215))=jZ x.aF:=by unfold jZ;congr 1;rw[ew];simp;omega
   rw[Bool.or_assoc,k,l]
   cases P:decide (a.ah.length=60)with
   |true=>rfl
   |false=>
    cases Q:jZ x.aF with
    |true=>rfl
    |false=>
     simp only[oE,aS];have s:=h.ah.1;rw[xY O,ae,dm (by simp;omega),ae,eg];obtain⟨b,d⟩:∃b:AW,b={a with ps:=a.ps.set i {x with aF:=⟨x.aF.bI,x.aF.aR++[t]⟩}}:=⟨_,X⟩
     have o:b.ps[i]?=some {x with aF:=⟨x.aF.bI,x.aF.aR++[t]⟩}:=by rw[d];exact fY hi
     have m:(RV aJ.zero (·.aF) a.ps).setIfInBounds i ({x.aF with aR:=x.aF.aR++([t]:List Y)}:aJ)=RV aJ.zero (·.aF) b.ps:=by rw[d];exact RV.set hi X
     have j:({a.r g with aR:=RV aJ.zero (·.aF) b.ps,bj:=a.ah}:bi)=b.r g:=by rw[d];unfold AW.r;simp only[qx];rw[RV.same (f:=(·.bq)) (y:=({x with aF:=⟨x.aF.bI,x.aF.aR++[t]⟩}:bw)) e X,RV.same (f:=(·.to)) (y:=({x with aF:=⟨x.aF.bI,x.aF.aR++[t]⟩}:bw)) e X,RV.same (f:=(·.bN)) (y:=({x with aF:=⟨x.aF.bI,x.aF.aR++[t]⟩}:bw)) e X]
     dsimp only at j;rw[m,j,<-d,CE (w:=b.r g) (by rw[d];exact h.num) (by rw[d];exact A.lt h),ae,RV.get z o,ae,ae];have H:(b.r g).V=a.aO:=by rw[d];rfl
     have n:b.ah.length<=60:=by rw[d];exact s
     have el:((x.aF.aR++[t]).length:Int)=(x.aF.aR.length:Int)+1:=by simp
     simp only;rw[el,bT (x:=x.aF.bI+((x.aF.aR.length:Int)+1)) O O,bT (x:=x.aF.bI+((x.aF.aR.length:Int)+1)-1) O O,show x.aF.bI+((x.aF.aR.length:Int)+1)-1=x.aF.bI+x.aF.aR.length by omega,H,Dz q n,ae];have F:(dO b 1 (i:Int) (sq a.aO) (x.aF.bI+x.aF.aR.length) t).ord=a.ord:=by rw[sv,d]
     have:=lw (g:=g) F;simp only;exact congrArg some (gu X (gu this X))
theorem KT{a α:Type}(F:a->α->a):∀(l:List α)(i j:Nat)(b:a),foldI (λb _ q=>F b q) i l b=foldI (λb _ q=>F b q) j l b
 |[],_,_,_=>rfl
 |x::l,i,j,b=>KT F l (i+1) (j+1) (F b x)
theorem Tp{B:Nat}{a:AW}{g:List (Int×Int)}{fu:Nat}(z:20<=fu)(h:GA B a)(K:Mb a)(W:gx g a)(p:Int):
 sf fu (a.r g) p=some ((jW a p).1.ah,(jW a p).1.r g,(jW a p).2):=by
 unfold sf jW;rw[OG K W,ae]
 cases hw:(gm a p !=0)with
 |true=>rfl
 |false=>
  obtain⟨i,x,rfl,o,ha⟩:=oW hw;have D:i<6:=by have:=h.n.2;have:=(dl o).1;omega
  have hp:=h.ps x (du o);have V:=hp.base;have H:=hp.late;rw[aS,aS,show(a.r g).aR=RV aJ.zero (·.aF) a.ps from X,RV.get D o,ae,cP,o];simp only
  have M:∀(k j:Nat)(b:AW),j+k=x.aF.aR.length->il a b->GA B b->∃c,bC (qN fu (a.r g) (i:Int) x.aF) k j (b.r g,b.ah)=some (c.r g,c.ah)/\il a c/\GA B c/\
   c=foldI (λb _(q:bc)=>dO b 1 (i:Int) (sq a.aO) q.aA q.aY) 0 (iN x.aF.bI j (x.aF.aR.drop j)) b:=by
   intro k
   induction k with
   |zero=>intro j b hk l e;refine⟨b,X,l,e,?_⟩;rw[ie O];rfl
   |succ k S=>
    intro j b hk l e;have Q:j<x.aF.aR.length:=by omega
    have A:x.aF.aR[j]?=some x.aF.aR[j]:=by simp[Q]
    rw[jg Q];have m:=du A;generalize x.aF.aR[j]=t at A m;have d:({b.r g with aI:=(a.r g).aI,bd:=(a.r g).bd,bf:=(a.r g).bf,bj:=b.ah}:bi)=b.r g:=lw (g:=g) l.ord;dsimp only at d;by_cases P:j<4
    .obtain⟨c,s,f,y,n⟩:=S (j+1) (dO b 1 (i:Int) (sq a.aO) (x.aF.bI+(j:Int)) t) O (l.send ..) (e.send (λ_=>H.2 t m) (λq=>absurd q ab));refine⟨c,?_,f,y,?_⟩
     .have F:qN fu (a.r g) (i:Int) x.aF j (b.r g,b.ah)=some ((dO b 1 (i:Int) (sq a.aO) (x.aF.bI+(j:Int)) t).r g,(dO b 1 (i:Int) (sq a.aO) (x.aF.bI+(j:Int)) t).ah):=by
       unfold qN;simp only
       rw[cK,A,ae,c0 (show(j:Int)<4 by omega),bG,d,CE (w:=b.r g) (by show 0<=b.aO.ce/\b.aO.ce<=16777215;rw[l.aO];exact h.num) (by show b.aO.bJ.toNat<64;rw[l.aO];exact K.lt h),ae,
        show(b.r g).aR=RV aJ.zero (·.aF) b.ps from X,RV.get D (show b.ps[i]?=some x by rw[l.ps];exact o),ae,bT O O,show(b.r g).V=a.aO from l.aO,Dz z e.ah.1,ae]
       simp only;have L:(dO b 1 (i:Int) (sq a.aO) (x.aF.bI+(j:Int)) t).ord=a.ord:=by rw[sv,l.ord]
       exact congrArg some (gu (lw (g:=g) L) X)
      unfold bC;rw[F,ae];exact s
     .rw[n]
      conv=>rhs;unfold iN
      rw[bE P];exact KT (λ(b:AW)(q:bc)=>dO b 1 (i:Int) (sq a.aO) q.aA q.aY) _ 0 1 _
    .obtain⟨c,s,f,y,n⟩:=S (j+1) b O l e;refine⟨c,?_,f,y,?_⟩
     .have F:qN fu (a.r g) (i:Int) x.aF j (b.r g,b.ah)=some (b.r g,b.ah):=by
       unfold qN;simp only;rw[cK,A,ae,cm (show ¬(j:Int)<4 by omega),aS,d]
      unfold bC;rw[F,ae];exact s
     .rw[n]
      conv=>rhs;unfold iN
      rw[ca P]
  obtain⟨c,s,f,y,n⟩:=M x.aF.aR.length 0 a O ⟨X,X,X⟩ h;have C:bC (qN fu (a.r g) (i:Int) x.aF) x.aF.aR.length 0 (a.r g,(a.r g).bj)=some (c.r g,c.ah):=s;rw[eX]at n;rw[C,ae,<-n];have d:({c.r g with aI:=(a.r g).aI,bd:=(a.r g).bd,bf:=(a.r g).bf,bj:=c.ah}:bi)=c.r g:=lw (g:=g) f.ord;dsimp only at d;simp only
  rw[d,CE (w:=c.r g) (by show 0<=c.aO.ce/\c.aO.ce<=16777215;rw[f.aO];exact h.num) (by show c.aO.bJ.toNat<64;rw[f.aO];exact K.lt h),ae,
   show(c.r g).dM=RV To.zero (·.to) c.ps from X,RV.get D (show c.ps[i]?=some x by rw[f.ps];exact o),ae,show(c.r g).V=a.aO from f.aO]
  have T:({aV.zero with aX:=(3:Int),aJ:=(i:Int),To:=sq a.aO,aA:=x.to.aN}:aV)=({aV.zero with aX:=(3:Int),aJ:=(i:Int),To:=sq a.aO,aA:=x.to.aN,aY:=([]:Y)}:aV):=X;rw[T,Dz z y.ah.1,ae];have L:(dO c 3 (i:Int) (sq a.aO) x.to.aN []).ord=a.ord:=by rw[sv,f.ord]
  exact congrArg some (gu X (gu (lw (g:=g) L) X))
theorem U7{B:Nat}{a:AW}{g:List (Int×Int)}(h:GA B a)(n:gx g a)(p:Int):
 ∃l,sh (a.r g) p=some (l,(gD a p).1.r l,(gD a p).2)/\gx l (gD a p).1:=by
 unfold sh gD;rw[or_some,ae,show(a.r g).n=(a.ps.length:Int)from X]
 cases m:dt a p with
 |false=>
  have:(decide (p<0)||decide (p>=(a.ps.length:Int)))=true:=by unfold dt at m;simp only[oD,lm]at m;simp only[mQ,eW];omega
  rw[this];exact⟨g,X,n⟩
 |true=>
  obtain⟨i,rfl,hi⟩:=fN.1 m;have k:a.ps[i]?=some a.ps[i]:=by simp[hi]
  generalize a.ps[i]=x at k;rw[cm O,cm O,cP,k];simp only[oE,aS,fX,eg];refine⟨eR g (i:Int) 1,?_,?_⟩
  .have:({a.r g with aI:=eR g (i:Int) 1}:bi)=({a with ps:=a.ps.set i {x with eE:=true}}:AW).r (eR g (i:Int) 1):=by
    unfold AW.r;simp only[qx];rw[RV.same (f:=(·.bq)) (y:=({x with eE:=true}:bw)) k X,RV.same (f:=(·.to)) (y:=({x with eE:=true}:bw)) k X,RV.same (f:=(·.aF)) (y:=({x with eE:=true}:bw)) k X,RV.same (f:=(·.bN)) (y:=({x with eE:=true}:bw)) k X]
   exact congrArg some (gu X (gu this X))
  .intro j y o;have d:(a.ps.set i {x with eE:=true})[j]?=some y:=o;rw[vO];by_cases c:j=i
   .subst c;rw[fY hi]at d;rw[bE X,<-dp d];rfl
   .rw[iu (λe=>c e.symm)]at d;rw[ca O];exact n j y d
theorem ME{r:To}{p:bc}{fu:Nat}(a:200<fu)(h:mC r)(hp:0<=p.aA/\p.aA<=16777214)(f:p.aY.length<=200):uh fu r p=some (jt fu r p):=by obtain⟨o,ts,d,e,_⟩:=YE a h hp f;rw[e];unfold jt;rw[d]
theorem gx.ps{g:List (Int×Int)}{a b:AW}(h:gx g a)(hp:b.ps=a.ps):gx g b:=λi x d=>h i x (by rw[<-hp];exact d)
theorem gx.set{g:List (Int×Int)}{a:AW}(h:gx g a){i:Nat}{x y:bw}(f:a.ps[i]?=some x)(k:y.eE=x.eE):gx g {a with ps:=a.ps.set i y}:=λj z l=>by
 have hi:=(dl f).1;have d:(a.ps.set i y)[j]?=some z:=l;by_cases c:j=i
 .subst c;rw[fY hi]at d;rw[<-dp d,k];exact h j x f
 .rw[iu (λe=>c e.symm)]at d;exact h j z d
theorem Mb.same{a b:AW}(h:Mb a)(e:b.aO=a.aO)(d:b.ps.length=a.ps.length):Mb b:=by unfold Mb;rw[e,d];exact h
theorem Oj{B:Nat}{a:AW}{g:List (Int×Int)}{fu:Nat}(d:20<=fu)(h:GA B a)(s:Mb a)(p:Int){k:Nat}{m:Int×Int×Y}(f:a.ord[k]?=some m)(e:G3 m):
 wu fu (a.r g) p (k:Int)=some ((dO a 2 (sq a.aO) p (k:Int) (dj m)).ah,(dO a 2 (sq a.aO) p (k:Int) (dj m)).r g):=by
 obtain⟨o,q,z⟩:=e;obtain⟨x,_,A,_⟩:=po o.1 (show m.1<1000000000 by omega);obtain⟨y,_,C,_⟩:=po q.1 (show m.2.1<1000000000 by omega);have i:(a.r g).bf[k]?=some ⟨m.1,m.2.1⟩:=by show(a.ord.map _)[k]?=_;rw[jh,f];rfl
 have j:(a.r g).bd[k]?=some m.2.2:=by show(a.ord.map _)[k]?=_;rw[jh,f];rfl
 unfold wu;rw[CE (w:=a.r g) h.num (s.lt h),ae,cK,i,ae];simp only
 rw[x,ae,dm (by simp;omega),ae,ae,y,ae,dm (by simp only[cH,eB,iX];omega),ae,
  dm (by simp only[cH,eB,iX];omega),ae,cK,j,ae,dm (by simp only[cH,eB,iX];omega),ae]
 have l:=Dz (g:=g) d h.ah.1 2 (sq a.aO) p (k:Int) (dj m);have t:(a.r g).V=a.aO:=X;have n:(((d9 m.1++([58]:Y))++d9 m.2.1)++([58]:Y))++m.2.2=dj m:=X;rw[t,n,l,ae];exact congrArg some (gu X (lw (g:=g) (sv ..)))
theorem Ys{B:Nat}{a b:AW}{g:List (Int×Int)}{fu:Nat}{n:aV}{x9:To}{l:List Y}{j:Nat}{t:Y}(S:20<=fu)(h:GA B b)(hB:B<=2^35)(hm:Mb b)(W:gx g b)(hl:l[j]?=some t)(M:G3 (n.aJ,x9.aN+(j:Int),t)):
 um fu (a.r g) n x9 l j (b.r g,b.ord.map (·.2.2),b.ord.map (λm=>(⟨m.1,m.2.1⟩:cN)),b.ah)=some ((fI b n.aJ (x9.aN+(j:Int)) t).r g,(fI b n.aJ (x9.aN+(j:Int)) t).ord.map (·.2.2),(fI b n.aJ (x9.aN+(j:Int)) t).ord.map (λm=>(⟨m.1,m.2.1⟩:cN)),(fI b n.aJ (x9.aN+(j:Int)) t).ah):=by
 have g2:=M.2.1;simp only at g2;have ho:=h.ord.1;have hn:=h.n;obtain⟨f,k⟩:∃f:AW,f={b with ord:=b.ord++[(n.aJ,x9.aN+(j:Int),t)]}:=⟨_,X⟩
 have p:f.ord=b.ord++[(n.aJ,x9.aN+(j:Int),t)]:=by rw[k]
 have hw:ap (x9.aN+(j:Int))=x9.aN+(j:Int):=bT O O;have T:GA (B+1) f:=by
  rw[k];refine⟨h.n,λx hx=>(h.ps x hx).mono O,⟨?_,λm hm=>?_⟩,h.ah,h.num⟩
  .simp only[cH,eB,iX];omega
  .rcases fx.1 hm with e|e
   .exact h.ord.2 m e
   .rw[ia.1 e];exact M
 have L:b.ord.map (·.2.2)++([t]:List Y)=f.ord.map (·.2.2):=by rw[p,kS];rfl
 have ek:b.ord.map (λm=>(⟨m.1,m.2.1⟩:cN))++([({cN.zero with aF:=n.aJ,seq:=x9.aN+(j:Int)}:cN)]:List cN)=f.ord.map (λm=>(⟨m.1,m.2.1⟩:cN)):=by rw[p,kS];rfl
 unfold um;simp only;rw[cK,hl,ae,dm (by simp;omega),ae,hw,dm (by simp;omega),ae,eg];simp only;have WF:iO (b.r g).n=some b.ps.length:=by rw[show(b.r g).n=(b.ps.length:Int)from X,D8 O,cP]
 rw[WF,ae,ek];have K:({b.r g with aI:=(a.r g).aI,bd:=b.ord.map (·.2.2)++([t]:List Y),bf:=f.ord.map (λm=>(⟨m.1,m.2.1⟩:cN)),bj:=b.ah}:bi)=f.r g:=by rw[L,k];rfl
 dsimp only at K;rw[K]
 obtain⟨P,z⟩:=nQ (body:=wq fu (a.r g) (b.ord.map (·.2.2)) t (f.ord.map (λm=>(⟨m.1,m.2.1⟩:cN)))) (λc:AW=>(c.r g,c.ah))
  (λ(c:AW)i(_:bw)=>bif act c (i:Int)then dO c 2 (sq b.aO) (i:Int) (b.ord.length:Int) (dj (n.aJ,x9.aN+(j:Int),t))else c) (λ_ c=>il f c/\GA (B+1) c) (l:=b.ps) (λi y c _ hc=>by
   obtain⟨o,q⟩:=hc;have C:c.aO=b.aO:=by rw[o.aO,k]
   have A:c.ps=b.ps:=by rw[o.ps,k]
   have D:({c.r g with aI:=(a.r g).aI,bd:=b.ord.map (·.2.2)++([t]:List Y),bf:=f.ord.map (λm=>(⟨m.1,m.2.1⟩:cN)),bj:=c.ah}:bi)=c.r g:=by rw[L];exact lw (g:=g) o.ord
   dsimp only at D;have H:Mb c:=hm.same C (by rw[A]);have V:gx g c:=W.ps A;unfold wq;simp only;rw[D,yJ H V,ae]
   cases hac:act c (i:Int)with
   |false=>exact⟨X,o,q⟩
   |true=>
    have WB:((b.ord.map (·.2.2)++([t]:List Y)).length:Int)=(b.ord.length:Int)+1:=by simp
    have WW:ap (((b.ord.map (·.2.2)++([t]:List Y)).length:Int)-1)=(b.ord.length:Int):=by rw[WB,bT O O];omega
    have Q:c.ord[b.ord.length]?=some (n.aJ,x9.aN+(j:Int),t):=by rw[o.ord,p];simp
    rw[bG,bG,WW,Oj S q H (i:Int) Q M,ae,C];have F:=o.send 2 (sq b.aO) (i:Int) (b.ord.length:Int) (dj (n.aJ,x9.aN+(j:Int),t));refine⟨?_,F,q.send (λe=>absurd e ab) (λ_=>⟨_,M,X⟩)⟩;have:=lw (g:=g) F.ord;rw[<-L]at this
    exact congrArg some (gu this X)) b.ps.length 0 f O ⟨⟨X,X,X⟩,T⟩
 rw[eX]at P z;have s:foldI (λ(c:AW)i(_:bw)=>bif act c (i:Int)then dO c 2 (sq b.aO) (i:Int) (b.ord.length:Int) (dj (n.aJ,x9.aN+(j:Int),t))else c) 0 b.ps f=fI b n.aJ (x9.aN+(j:Int)) t:=by rw[k];rfl
 rw[s]at P z;generalize fI b n.aJ (x9.aN+(j:Int)) t=d at P z;have zo:bC (wq fu (a.r g) (b.ord.map (·.2.2)) t (f.ord.map (λm=>(⟨m.1,m.2.1⟩:cN)))) b.ps.length 0 (f.r g,b.ah)=some (d.r g,d.ah):=by
  have:f.ah=b.ah:=by rw[k]
  rw[<-this];exact P
 rw[zo,ae];simp only;have hd:=lw (g:=g) z.1.ord;dsimp only at hd;rw[L,<-z.1.ord];rw[<-z.1.ord]at hd;exact congrArg some (gu hd X)
theorem Yu{B fu:Nat}{a:AW}{g:List (Int×Int)}{n:aV}(F:200<fu)(h:GA B a)(hB:B<=2^34)(hm:Mb a)(yK:gx g a)(hn:GN n)(hk:n.aX=1)(yO:dt a n.aJ=true)(S:n.aA<=16777214):
 oN fu (a.r g) n=some ((ka fu a n).ord.map (·.2.2),(ka fu a n).ord.map (λm=>(⟨m.1,m.2.1⟩:cN)),(ka fu a n).ah,(ka fu a n).r g):=by
 obtain⟨i,hi,H⟩:=fN.1 yO;have s:a.ps[i]?=some a.ps[i]:=by simp[H]
 generalize a.ps[i]=x at s;have h6:i<6:=by have:=h.n.2;omega
 have hp:=h.ps x (du s);have L:=hn.1.seq;have T:=hn.1.aF;have ht:=hn.2.1 hk;unfold oN ka;rw[hk,hi,cP,s];simp only[mP,bG];rw[show(a.r g).dR=RV To.zero (·.bN) a.ps from X,RV.get h6 s,ae,ae];have ep:({bc.zero with aA:=n.aA,aY:=n.aY}:bc)=⟨n.aA,n.aY⟩:=X;rw[ep,ME F hp.iJ.1 ⟨L.1,S⟩ (by simp only;omega),ae,eg];obtain⟨_,t2,_,t4⟩:=xd (r:=x.bN) (p:=⟨n.aA,n.aY⟩) F hp.iJ.1 ⟨L.1,S⟩ (by simp only;omega);have A:=D7 hp.iJ.1 (λy hy=>(hp.iJ.2 y hy).1) S t2;have lM:=hp.iJ.1.hi;have WE:=hp.iJ.1.lo;rw[cm (show ¬n.aA>16777214 by omega),aS];generalize jt fu x.bN ⟨n.aA,n.aY⟩=r at t2 t4 A;obtain⟨o,ts⟩:=r;simp only at t2 t4 A;simp only[ae,eg]
 have WL:GP B {x with bN:=o}:=⟨hp.bq,hp.jR,hp.base,hp.late,hp.to,A,λy hy=>by
  rcases(t2.iB y hy).2.2 with q|q
  .exact hp.iJ.2 y q
  .rw[q];exact⟨S,ht⟩⟩
 obtain⟨k,e⟩:∃k:AW,k={a with ps:=a.ps.set i {x with bN:=o}}:=⟨_,X⟩
 have W:GA B k:=by rw[e];exact h.set i WL
 have WD:Mb k:=hm.same (by rw[e]) (by rw[e];simp);have V:gx g k:=by rw[e];exact yK.set s X
 have K:(RV To.zero (·.bN) a.ps).setIfInBounds i (⟨o.aN,o.bu⟩:To)=RV To.zero (·.bN) (a.ps.set i {x with bN:=o}):=RV.set H X;have P:({a.r g with dR:=RV To.zero (·.bN) (a.ps.set i {x with bN:=o})}:bi)=k.r g:=by rw[e];unfold AW.r;simp only[qx];rw[RV.same (f:=(·.bq)) (y:=({x with bN:=o}:bw)) s X,RV.same (f:=(·.to)) (y:=({x with bN:=o}:bw)) s X,RV.same (f:=(·.aF)) (y:=({x with bN:=o}:bw)) s X]
 dsimp only at P;rw[K,P,<-e]
 obtain⟨l1,l2⟩:=nQ (body:=um fu (a.r g) n x.bN ts) (λb:AW=>(b.r g,b.ord.map (·.2.2),b.ord.map (λm=>(⟨m.1,m.2.1⟩:cN)),b.ah)) (λb j t=>fI b (i:Int) (x.bN.aN+(j:Int)) t)
  (λj b=>b.ps=k.ps/\b.aO=k.aO/\GA (B+j) b) (l:=ts) (λj t b hj hb=>by
   obtain⟨z,D,C⟩:=hb;have yN:=(dl hj).1;have hg:G3 (n.aJ,x.bN.aN+(j:Int),t):=by
    refine⟨T,⟨by simp only;omega,by simp only;omega⟩,?_⟩;rcases t2.aF j t hj with q|q
    .exact(hp.iJ.2 _ q).2
    .have:t=n.aY:=by injection q
     rw[this];exact ht
   have M:=Ys (a:=a) (g:=g) (l:=ts) (x9:=x.bN) (fu:=fu) O C O (WD.same D (by rw[z])) (V.ps z) hj hg;rw[hi]at M;refine⟨M,?_,?_,?_⟩
   .rw[(qK ..).ps];exact z
   .rw[(qK ..).aO];exact D
   .rw[<-hi];exact C.fI hg) ts.length 0 k O ⟨X,X,W⟩
 rw[eX]at l1 l2;have Q:bC (um fu (a.r g) n x.bN ts) ts.length 0 (k.r g,(a.r g).bd,(a.r g).bf,(a.r g).bj)=some ((foldI (λ(b:AW)j t=>fI b (i:Int) (x.bN.aN+(j:Int)) t) 0 ts k).r g,(foldI (λ(b:AW)j t=>fI b (i:Int) (x.bN.aN+(j:Int)) t) 0 ts k).ord.map (·.2.2),(foldI (λ(b:AW)j t=>fI b (i:Int) (x.bN.aN+(j:Int)) t) 0 ts k).ord.map (λm=>(⟨m.1,m.2.1⟩:cN)),(foldI (λ(b:AW)j t=>fI b (i:Int) (x.bN.aN+(j:Int)) t) 0 ts k).ah):=by
  have e1:(a.r g).bd=k.ord.map (·.2.2):=by rw[e];rfl
  have e2:(a.r g).bf=k.ord.map (λm=>(⟨m.1,m.2.1⟩:cN)):=by rw[e];rfl
  have e3:(a.r g).bj=k.ah:=by rw[e];rfl
  rw[e1,e2,e3];exact l1
 generalize foldI (λ(b:AW)j t=>fI b (i:Int) (x.bN.aN+(j:Int)) t) 0 ts k=d at Q l2;rw[Q,ae];rfl
def nR(l:List (Int×Int×Y)):List aG:=l.map λm=>⟨m.1,m.2.2⟩
def Told(base:List aG)(a:List (Int×Int×Y))(x:bw):Prop:=
 (0<=x.to.aN/\x.to.aN<=a.length)/\x.bq=base++nR (a.take x.to.aN.toNat)/\∀p∈x.to.bu,∃m,a[p.aA.toNat]?=some m/\p.aY=dj m
def NV(v:Int)(a:List (Int×Int×Y))(n:aV):Prop:=n.bB<=v/\(n.aX=2->n.bB=v->∃m,a[n.aA.toNat]?=some m/\n.aY=dj m)
structure PV(base:List aG)(a:AW):Prop where
 bq:∀(i:Nat)x,a.ps[i]?=some x->act a (i:Int)=true->Told base a.ord x
 ah:∀n∈a.ah,NV a.aO.ce a.ord n
theorem kK{a:AW}{i:Nat}{x:bw}(d:a.ps[i]?=some x):act a (i:Int)=(fg a.aO.bJ i&&!x.eE):=by have hi:=(dl d).1;have e:dt a (i:Int)=true:=fN.2 ⟨i,X,hi⟩;unfold act;rw[e,cP,d,kR]
theorem PV.send{base:List aG}{a:AW}(h:PV base a){k f t s:Int}{x:Y}(d:k=2->∃m,a.ord[s.toNat]?=some m/\x=dj m):PV base (dO a k f t s x):=by
 unfold dO
 cases i:(mu (jB a.aO k f t s x)&&decide (a.ah.length<60))with
 |false=>exact h
 |true=>
  refine⟨h.bq,λn g=>?_⟩;rcases fx.1 g with q|q
  .exact h.ah n q
  .rw[ia.1 q];exact⟨jz _,λe _=>d e⟩
theorem PV.set{base:List aG}{a:AW}(h:PV base a){i:Nat}{x y:bw}(g:a.ps[i]?=some x)(l:y.eE=x.eE)(m:Told base a.ord x->Told base a.ord y):PV base {a with ps:=a.ps.set i y}:=by
 have hi:=(dl g).1;refine⟨λj z k f=>?_,h.ah⟩;have d:(a.ps.set i y)[j]?=some z:=k;by_cases c:j=i
 .subst c;rw[fY hi]at d;obtain rfl:=dp d;have e:=kK (a:={a with ps:=a.ps.set j y}) k;rw[e,l]at f;exact m (h.bq j x g (by rw[kK g];exact f))
 .rw[iu (λe=>c e.symm)]at d;refine h.bq j z d ?_;have e:=kK (a:={a with ps:=a.ps.set i y}) k;rw[e]at f;rw[kK d];exact f
theorem PV.As{base:List aG}{a:AW}(h:PV base a)(p:Int)(t:Y):PV base (iM a p t).1:=by
 unfold iM
 cases f:(gm a p !=0)with
 |true=>exact h
 |false=>
  obtain⟨i,x,rfl,d,g⟩:=oW f;rw[aS]
  cases decide (t.length>150)with
  |true=>exact h
  |false=>
  cases decide (a.ah.length=60)with
  |true=>exact h
  |false=>
   rw[aS,aS,cP,d];simp only
   cases jZ x.aF with
   |true=>exact h
   |false=>rw[aS];exact PV.send (k:=1) (h.set (y:={x with aF:=⟨x.aF.bI,x.aF.aR++[t]⟩}) d X λq=>q) (λe=>absurd e ab)
theorem PV.again{base:List aG}{a:AW}(h:PV base a)(p:Int):PV base (jW a p).1:=by
 unfold jW
 cases f:(gm a p !=0)with
 |true=>exact h
 |false=>obtain⟨i,x,rfl,g,l⟩:=oW f;rw[aS,cP,g];exact PV.send (k:=3) (oo (PV base) _ 0 a (λb j q _ d=>d.send (λe=>absurd e ab)) h) (λe=>absurd e ab)
theorem PV.yl{base:List aG}{a:AW}(h:PV base a)(p:Int):PV base (gD a p).1:=by
 unfold gD
 cases l:dt a p with
 |false=>exact h
 |true=>
  obtain⟨i,rfl,hi⟩:=fN.1 l;have g:a.ps[i]?=some a.ps[i]:=by simp[hi]
  generalize a.ps[i]=x at g;rw[cP,g];simp only[fX,aS];refine⟨λj z k f=>?_,h.ah⟩;have d:(a.ps.set i {x with eE:=true})[j]?=some z:=k;have e:=kK (a:={a with ps:=a.ps.set i {x with eE:=true}}) k;rw[e]at f;by_cases c:j=i
  .subst c;rw[fY hi]at d;obtain rfl:=dp d;simp at f
  .rw[iu (λe=>c e.symm)]at d;exact h.bq j z d (by rw[kK d];exact f)
theorem Told.more{base:List aG}{a more:List (Int×Int×Y)}{x:bw}(h:Told base a x):Told base (a++more) x:=by obtain⟨e,f,g⟩:=h;refine⟨⟨e.1,by rw[cH];omega⟩,by rw[GM O];exact f,λp hp=>?_⟩;obtain⟨m,d,i⟩:=g p hp;exact⟨m,by rw[it (dl d).1];exact d,i⟩
theorem PV.fI{base:List aG}{b:AW}(h:PV base b)(p q:Int)(t:Y):PV base (fI b p q t):=by
 have l:PV base {b with ord:=b.ord++[(p,q,t)]}:=by refine⟨λi x z o=>(h.bq i x z o).more,λn s=>?_⟩;obtain⟨g,k⟩:=h.ah n s;refine⟨g,λe f=>?_⟩;obtain⟨m,d,y⟩:=k e f;exact⟨m,by show(b.ord++[(p,q,t)])[n.aA.toNat]?=_;rw[it (dl d).1];exact d,y⟩
 unfold Go.Proofs.YteagbdjohkfneaaGreatDoor.fI;refine(oo (λc:AW=>PV base c/\c.ord=b.ord++[(p,q,t)]) _ 0 _ (λc j x _ a=>?_) ⟨l,X⟩).1
 cases act c (j:Int)with
 |false=>exact a
 |true=>rw[bG];refine⟨a.1.send (λ_=>⟨(p,q,t),?_,X⟩),by rw[sv];exact a.2⟩;rw[a.2,cP];simp
theorem tp{d α:Type}{f:d->Nat->α->d}(a:Nat->d->Prop){l:List α}(h:∀(i:Nat)x b,l[i]?=some x->a i b->a (i+1) (f b i x)):∀(k i:Nat)(b:d),i+k=l.length->a i b->a l.length (foldI f i (l.drop i) b)
 |0,i,b,g,e=>by rw[ie O];rw[<-g];exact e
 |k+1,i,b,g,e=>by
  have hi:i<l.length:=by omega
  have j:l[i]?=some l[i]:=by simp[hi]
  rw[jg hi];exact tp a h k (i+1) _ O (h i _ b j e)
theorem PV.bd{base:List aG}{a:AW}(h:PV base a)(fu:Nat)(n:aV):PV base (ka fu a n):=by
 unfold ka
 cases e:a.ps[n.aJ.toNat]? with
 |none=>exact h
 |some x=>
  simp only
  cases decide (n.aA>16777214)with
  |true=>exact h
  |false=>exact oo (PV base) _ 0 _ (λb j t _ d=>d.fI ..) (h.set (y:={x with bN:=(jt fu x.bN ⟨n.aA,n.aY⟩).1}) e X λq=>q)
theorem PV.fv{base:List aG}(s f:Int):∀(k i:Nat){b:AW},PV base b->PV base (fv s f k i b)
 |0,_,_,h=>h
 |k+1,i,b,h=>by
  unfold Go.Proofs.YteagbdjohkfneaaGreatDoor.fv
  cases a:b.ord[i]? with
  |none=>exact h
  |some m=>exact PV.fv s f k (i+1) (h.send λ_=>⟨m,by rw[cP];exact a,X⟩)
theorem Wf{b:AW}{i:Nat}{x:bw}{m:Int×Int×Y}(d:b.ps[i]?=some x)(a:G3 m):∃f,hO b (i:Int) (dj m)={b with ps:=b.ps.set i {x with bq:=x.bq++[⟨m.1,m.2.2⟩],aF:=f}}:=by unfold hO;rw[cP,d,wz a];exact⟨_,X⟩
theorem PV.take{base:List aG}{B fu:Nat}{a:AW}{n:aV}(h:PV base a)(T:GA B a)(dL:200<fu)(hn:GN n)(F:n.aX=2)(hv:n.bB=a.aO.ce)(WG:NV a.aO.ce a.ord n)(V:act a n.To=true):PV base (kc fu a n):=by
 have yO:dt a n.To=true:=by unfold act at V;rw[eu,eu]at V;exact V.1.1
 obtain⟨i,hi,L⟩:=fN.1 yO;have W:a.ps[i]?=some a.ps[i]:=by simp[L]
 generalize a.ps[i]=x at W;have hp:=T.ps x (du W);obtain⟨⟨t1,t2⟩,t3,t4⟩:=h.bq i x W (by rw[<-hi];exact V);obtain⟨mn,g,C⟩:=WG.2 F hv;unfold kc;rw[hi,cP,W];simp only;by_cases hs:n.aA>16777214
 .rw[c0 hs];exact h
 .have Gy:=hn.1.seq;have LA:=BR (T.ord.2 mn (du g));obtain⟨_,P,_,_⟩:=xd (r:=x.to) (p:=⟨n.aA,n.aY⟩) dL hp.to.1 ⟨Gy.1,by simp only;omega⟩ (by simp only;rw[C];omega);rw[cm hs];generalize jt fu x.to ⟨n.aA,n.aY⟩=r at P;obtain⟨o,ts⟩:=r;simp only at P;rw[aS];simp only;obtain⟨N,hN⟩:=iq t1;have aP:∀(j:Nat)t,ts[j]?=some t->∃m,a.ord[N+j]?=some m/\t=dj m/\G3 m:=λj t hj=>by
   rcases P.aF j t hj with q|q
   .obtain⟨m,s,e2⟩:=t4 _ q;refine⟨m,?_,e2,T.ord.2 m (du s)⟩;have:((x.to.aN+(j:Int))).toNat=N+j:=by omega
    simp only at s;rw[this]at s;exact s
   .have q1:x.to.aN+(j:Int)=n.aA:=by injection q
    have q2:t=n.aY:=by injection q
    refine⟨mn,?_,q2.trans C,T.ord.2 mn (du g)⟩;have:n.aA.toNat=N+j:=by omega
    rw[this]at g;exact g
  have A:=tp (f:=λ(b:AW)(_:Nat)t=>hO b (i:Int) t) (λj b=>b.aO=a.aO/\b.ord=a.ord/\b.ah=a.ah/\(∀k:Nat,k≠i->b.ps[k]?=a.ps[k]?)/\∃y,b.ps[i]?=some y/\y.eE=x.eE/\y.to=o/\y.bq=x.bq++nR ((a.ord.drop N).take j)) (l:=ts) (λj t b hj hb=>by
   obtain⟨Q,b2,b3,b4,y,S,b6,H,b8⟩:=hb;obtain⟨m,s,rfl,e3⟩:=aP j t hj;obtain⟨f,hf⟩:=Wf S e3;rw[hf];have M:=(dl S).1;refine⟨Q,b2,b3,λk F=>?_,_,fY M,b6,H,?_⟩
   .show(b.ps.set i _)[k]?=_;rw[iu (λe=>F e.symm)];exact b4 k F
   .show y.bq++[_]=_;have hd:(a.ord.drop N)[j]?=some m:=by rw[tK];exact s
    rw[b8,mN,hd];unfold nR;rw[kS,fL]
    rfl) ts.length 0 {a with ps:=a.ps.set i {x with to:=o}} O ⟨X,X,X,λk F=>by
     show(a.ps.set i _)[k]?=_
     rw[iu (λe=>F e.symm)],_,fY L,X,X,by simp[nR]⟩
  rw[eX]at A;generalize foldI (λ(b:AW)(_:Nat)t=>hO b (i:Int) t) 0 ts {a with ps:=a.ps.set i {x with to:=o}}=d at A;obtain⟨Q,b2,b3,b4,y,S,b6,H,b8⟩:=A;have lM:=P.next;have hle:N+ts.length<=a.ord.length:=by
   rcases rM ts.length with e|e
   .omega
   .have hg:ts[ts.length-1]?=some (ts[ts.length-1]'O):=by simp
    obtain⟨m,s,_⟩:=aP _ _ hg;have:=(dl s).1;omega
  have WY:Told base a.ord y:=by
   refine⟨by rw[H];omega,?_,λp hp=>?_⟩
   .rw[H,b8,t3,show o.aN.toNat=N+ts.length by omega,show x.to.aN.toNat=N by omega,fL];unfold nR;rw[<-kS,<-List.take_add]
   .rw[H]at hp;rcases(P.iB p hp).2.2 with q|q
    .exact t4 p q
    .rw[q];exact⟨mn,g,C⟩
  refine⟨λj z hz K=>?_,λm hm=>?_⟩
  .rw[b2];by_cases c:j=i
   .subst c;rw[S]at hz;rw[<-dp hz];exact WY
   .have D:=hz;rw[b4 j c]at D;refine h.bq j z D ?_;rw[kK hz,Q]at K;rw[kK D];exact K
  .rw[Q,b2];rw[b3]at hm;exact h.ah m hm
theorem PV.Ea{base:List aG}{a:AW}(h:PV base a){l:List aV}(d:∀n∈l,n∈a.ah):PV base {a with ah:=l}:=⟨h.bq,λn e=>h.ah n (d n e)⟩
theorem PV.Fy{base:List aG}{B fu:Nat}{a:AW}{n:aV}(h:PV base a)(f:GA B a)(d:200<fu)(j:GN n)(k:n.bB=a.aO.ce)(e:NV a.aO.ce a.ord n)(g:act a n.To=true):PV base (ja fu a n):=by
 unfold ja
 cases !dt a n.aJ with
 |true=>exact h
 |false=>
 cases n.aX==1 with
 |true=>exact h.bd fu n
 |false=>
 cases n.aX==3 with
 |true=>exact PV.fv _ _ _ _ h
 |false=>
 cases i:n.aX==2 with
 |true=>exact h.take f d j (by simpa using i) k e g
 |false=>exact h
theorem PV.move{base:List aG}{B fu:Nat}{a:AW}(h:PV base a)(j:GA B a)(f:200<fu)(k d:Int):PV base (iw fu a k d).1:=by
 unfold iw
 cases !(decide (d>=1)&&decide (d<=3))with
 |true=>exact h
 |false=>
 cases !(decide (k>=0)&&decide (k<=(a.ah.length:Int)-1))with
 |true=>exact h
 |false=>
 cases (d==3)&&decide (a.ah.length=60)with
 |true=>exact h
 |false=>
 cases o:a.ah[k.toNat]? with
 |none=>exact h
 |some n=>
  have g:=du o;simp only[aS]
  cases d==3 with
  |true=>
   refine h.Ea λm e=>?_;rcases fx.1 e with q|q
   .exact q
   .rw[ia.1 q];exact g
  |false=>
   rw[aS];have l:PV base {a with ah:=a.ah.take k.toNat++a.ah.drop (k.toNat+1)}:=h.Ea λm e=>by
    rcases fx.1 e with q|q
    .exact pF q
    .exact pE q
   cases i:((d==1)&&(n.bB==a.aO.ce))&&act a n.To with
   |false=>exact l
   |true=>rw[eu,eu]at i;exact l.Fy (j.CH k.toNat) f (j.ah.2 n g) (by simpa using i.1.2) (h.ah n g) i.2
theorem LY{m g:BitVec 8}{i:Nat}(h:fg (m&&& ~~~g) i=true):fg m i=true:=by
 have e:∀x:BitVec 8,fg x i=x.getLsbD i:=λx=>by
  unfold fg;rw[ew,gO];have:((x>>>i)&&&(1:BitVec 8)).toNat=(x.getLsbD i).toNat:=by rw[rL,py,BitVec.getLsbD,show(1:BitVec 8).toNat=1 from X,Ci,Nat.testBit,pw,Nat.and_comm,Ci];rcases Nat.mod_two_eq_zero_or_one (x.toNat/2^i)with q|q<;>rw[q]<;>rfl
  rw[this];cases x.getLsbD i<;>simp
 rw[e,tM,eu]at h;rw[e];exact h.1
theorem PV.change{base:List aG}{B:Nat}{a:AW}(h:PV base a)(hG:GA B a):∃s,PV s (iC a).1:=by
 obtain⟨n1,V⟩:=zw a.aO (ge a).1 hG.num;unfold iC;generalize ge a=z at n1 V;obtain⟨g,L⟩:=z;simp only at n1 V ⊢
 cases hn:((gv a.aO g).2 !=0)with
 |true=>exact⟨base,h⟩
 |false=>
  have T:(gv a.aO g).2=0:=by simpa using hn
  obtain⟨m1,m2,m3⟩:=V T;refine⟨L,?_⟩;rw[aS]
  have t:=tp (f:=λ(b:AW)i(_:bw)=>fB L b i) (λj b=>b.aO=a.aO/\b.ah=a.ah/\b.ps.length=a.ps.length/\(∀k:Nat,j<=k->b.ps[k]?=a.ps[k]?)/\∀(k:Nat)x,k<j->a.ps[k]?=some x->b.ps[k]?=some (bif act a (k:Int)then lc L k x else{x with bN:=⟨0,[]⟩})) (l:=a.ps) (λi x b C hb=>by
   obtain⟨K,b2,b3,b4,M⟩:=hb;have H:b.ps[i]?=some x:=by rw[b4 i (dG _)];exact C
   have q:=(dl H).1;have D:act b (i:Int)=act a (i:Int):=BH K b3 (b4 i (dG _));have one:fB L b i={b with ps:=b.ps.set i (bif act a (i:Int)then lc L i x else{x with bN:=⟨0,[]⟩})}:=by unfold fB;rw[H,D]
   rw[one];refine⟨K,b2,by simp[b3],λk W=>?_,λk y W A=>?_⟩
   .show(b.ps.set i _)[k]?=_;rw[iu O];exact b4 k O
   .show(b.ps.set i _)[k]?=_;by_cases c:k=i
    .subst c;rw[C]at A;rw[<-dp A,fY q]
    .rw[iu (λe=>c e.symm)];exact M k y O A) a.ps.length 0 a O ⟨X,X,X,λk _=>rfl,λk x W=>by omega⟩
  rw[eX]at t;generalize foldI (λ(b:AW)i(_:bw)=>fB L b i) 0 a.ps a=d at t;obtain⟨K,b2,b3,b4,M⟩:=t;refine⟨λi y A P=>?_,λn S=>?_⟩
  .have q:i<a.ps.length:=by rw[<-b3];exact(dl A).1
   have C:a.ps[i]?=some a.ps[i]:=by simp[q]
   generalize a.ps[i]=x at C;have o:d.ps[i]?=some y:=A;rw[M i x q C]at o;rw[kK A,eu]at P;have Q:fg a.aO.bJ i=true:=by have:fg (gv a.aO g).1.bJ i=true:=P.1;rw[m3]at this;exact LY this
   cases m:act a (i:Int)with
   |false=>rw[m,aS]at o;rw[kK C,Q,kR]at m;have:=P.2;rw[<-dp o]at this;simp only at this;rw[this]at m;cases m
   |true=>rw[m,bG]at o;rw[<-dp o];exact⟨⟨jz _,jz _⟩,by show L=L++[];simp,λp hp=>by cases hp⟩
  .have F:n∈a.ah:=by rw[<-b2];exact S
   have hle:=(h.ah n F).1;refine⟨by show n.bB<=(gv a.aO g).1.ce;omega,λ_ e=>?_⟩;have e':n.bB=(gv a.aO g).1.ce:=e;omega
theorem PV.do{base:List aG}{B fu:Nat}{a:AW}(h:PV base a)(g:GA B a)(f:200<fu)(d:nU):∃e,PV e (eU fu a d).1:=by
 unfold eU
 cases d.aX==1 with
 |true=>exact⟨base,h.As ..⟩
 |false=>
 cases d.aX==2 with
 |true=>exact⟨base,h.again ..⟩
 |false=>
 cases d.aX==3 with
 |true=>exact⟨base,h.move g f ..⟩
 |false=>
 cases d.aX==4 with
 |true=>exact⟨base,h.yl ..⟩
 |false=>
 cases d.aX==5 with
 |true=>exact h.change g
 |false=>exact⟨base,h⟩
theorem PV.new{n:Nat}:PV [] (jN n):=by refine⟨λi x d _=>?_,λm a=>by cases a⟩;have:=(tD.1 (du d)).2;rw[this];exact⟨⟨jz _,jz _⟩,X,λp hp=>by cases hp⟩
theorem PV.same{base:List aG}{a:AW}(h:PV base a){i j:Nat}{x y:bw}(k:a.ps[i]?=some x)(l:a.ps[j]?=some y)(f:act a (i:Int)=true)(g:act a (j:Int)=true)(d:x.bq.length=y.bq.length):x.bq=y.bq:=by
 obtain⟨⟨m,n⟩,e,_⟩:=h.bq i x k f;obtain⟨⟨o,b2⟩,b3,_⟩:=h.bq j y l g;rw[e,b3]at d;unfold nR at d;simp only[cH,fk,fE]at d;have:x.to.aN.toNat=y.to.aN.toNat:=by omega
 rw[e,b3,this]
def fC(a:AW):List Bool:=a.ps.map (·.eE)
theorem ym{a:AW}{i:Nat}{x y:bw}(e:a.ps[i]?=some x)(d:y.eE=x.eE):fC {a with ps:=a.ps.set i y}=fC a:=by unfold fC;show List.map _ (a.ps.set i y)=_;rw[tN,d];exact NX (by rw[jh,e];rfl)
theorem FI{α:Type}{f:AW->Nat->α->AW}(h:∀b j x,fC (f b j x)=fC b)(l:List α)(i:Nat)(b:AW):fC (foldI f i l b)=fC b:=
 oo (λc=>fC c=fC b) l i b (λc j x _ a=>(h c j x).trans a) X
theorem KS(a:AW)(k f t s:Int)(x:Y):fC (dO a k f t s x)=fC a:=by unfold fC;rw[Au]
theorem KQ(s f:Int):∀(k i:Nat)(b:AW),fC (fv s f k i b)=fC b
 |0,_,_=>rfl
 |k+1,i,b=>by
  unfold fv
  cases b.ord[i]? with
  |none=>rfl
  |some m=>exact(KQ s f k (i+1) _).trans (KS ..)
theorem Vf(b:AW)(p:Int)(t:Y):fC (hO b p t)=fC b:=by
 unfold hO
 cases a:b.ps[p.toNat]? with
 |none=>rfl
 |some x=>exact ym a X
theorem Vd(L:List aG)(b:AW)(i:Nat):fC (fB L b i)=fC b:=by
 unfold fB
 cases a:b.ps[i]? with
 |none=>rfl
 |some x=>refine ym a ?_;cases act b (i:Int)<;>rfl
theorem Ve(fu:Nat)(a:AW)(n:aV):fC (ja fu a n)=fC a:=by
 unfold ja
 cases (!dt a n.aJ)with
 |true=>rfl
 |false=>
 cases n.aX==1 with
 |true=>
  simp only[bG,aS];unfold ka
  cases d:a.ps[n.aJ.toNat]? with
  |none=>rfl
  |some x=>
   simp only
   cases decide (n.aA>16777214)with
   |true=>rfl
   |false=>rw[aS,FI λb j t=>by unfold fC;rw[(qK ..).ps]];exact ym d X
 |false=>
 cases n.aX==3 with
 |true=>exact KQ ..
 |false=>
 cases n.aX==2 with
 |true=>
  simp only[bG,aS];unfold kc
  cases d:a.ps[n.To.toNat]? with
  |none=>rfl
  |some x=>
   simp only
   cases decide (n.aA>16777214)with
   |true=>rfl
   |false=>rw[aS,FI λb j t=>Vf b n.To t];exact ym d X
 |false=>rfl
theorem KR(fu:Nat)(a:AW)(d:nU):fC (eU fu a d).1=if(d.aX==4)=true then fC (gD a d.dn).1 else fC a:=by
 unfold eU
 cases f:d.aX==1 with
 |true=>
  have e:(d.aX==4)=false:=by have:=gO.1 f;rw[this];rfl
  rw[e,ca (by simp),bG];unfold iM
  cases (gm a d.dn !=0)with
  |true=>rfl
  |false=>
  cases decide (d.aY.length>150)with
  |true=>rfl
  |false=>
  cases decide (a.ah.length=60)with
  |true=>rfl
  |false=>
  cases i:a.ps[d.dn.toNat]? with
  |none=>rfl
  |some x=>
   simp only[aS]
   cases jZ x.aF with
   |true=>rfl
   |false=>rw[aS];simp only;rw[KS];exact ym i X
 |false=>
 cases g:d.aX==2 with
 |true=>
  have e:(d.aX==4)=false:=by have:=gO.1 g;rw[this];rfl
  rw[e,ca (by simp)];simp only[bG,aS];unfold fC;rw[(BI a d.dn).ps]
 |false=>
 cases h:d.aX==3 with
 |true=>
  have e:(d.aX==4)=false:=by have:=gO.1 h;rw[this];rfl
  rw[e,ca (by simp)];simp only[bG,aS];unfold iw
  cases !(decide (d.gZ>=1)&&decide (d.gZ<=3))with
  |true=>rfl
  |false=>
  cases !(decide (d.dn>=0)&&decide (d.dn<=(a.ah.length:Int)-1))with
  |true=>rfl
  |false=>
  cases (d.gZ==3)&&decide (a.ah.length=60)with
  |true=>rfl
  |false=>
  cases a.ah[d.dn.toNat]? with
  |none=>rfl
  |some n=>
   simp only[aS]
   cases d.gZ==3 with
   |true=>rfl
   |false=>
    rw[aS];simp only
    cases ((d.gZ==1)&&(n.bB==a.aO.ce))&&act a n.To with
    |true=>rw[bG,Ve];rfl
    |false=>rfl
 |false=>
 cases e:d.aX==4 with
 |true=>rfl
 |false=>
 rw[ca (by simp)]
 cases d.aX==5 with
 |true=>
  simp only[bG,aS];unfold iC
  cases (gv a.aO (ge a).1).2 !=0 with
  |true=>rfl
  |false=>rw[aS];show fC (foldI _ 0 a.ps a)=_;rw[FI λb j x=>Vd ..]
 |false=>rfl
def xE(a:AW)(d:List Int):Prop:=∀(i:Nat)b,(fC a)[i]?=some b->(b=true↔(i:Int)∈d)
theorem xE.new{n:Nat}:xE (jN n) []:=λi b a=>by
 have:(List.replicate n false)[i]?=some b:=by
  have e:fC (jN n)=List.replicate n false:=by unfold fC jN;show List.map _ (List.replicate n bw.zero)=_;rw[List.map_replicate];rfl
  rw[<-e];exact a
 have:=(tD.1 (du this)).2;rw[this];simp
theorem xE.do{fu:Nat}{a:AW}{m:List Int}(h:xE a m)(d:nU):xE (eU fu a d).1 (if((eU fu a d).2==0&&d.aX==4)=true then m++[d.dn]else m):=by
 intro i b f;rw[KR]at f;by_cases k:(d.aX==4)=true
 .rw[bE k]at f;have s:=gO.1 k;have t:eU fu a d=gD a d.dn:=by unfold eU;rw[s];rfl
  rw[t,k,Cs];unfold gD at f ⊢
  cases n:dt a d.dn with
  |false=>rw[n]at f;exact h i b f
  |true=>
   obtain⟨j,p,l⟩:=fN.1 n;have o:a.ps[j]?=some a.ps[j]:=by simp[l]
   generalize a.ps[j]=x at o;rw[n,p,cP,o]at f;rw[p,cP,o];simp only[fX,aS,mP,if_true]at f ⊢;have g:((fC a).set j true)[i]?=some b:=by unfold fC at f ⊢;rw[<-f];show _=(List.map _ (a.ps.set j _))[i]?;rw[tN]
   by_cases c:i=j
   .subst c;rw[fY (by unfold fC;rw[fk];exact l)]at g;rw[<-dp g];simp
   .rw[iu (λe=>c e.symm)]at g;rw[h i b g,fx,ia];exact⟨.inl,λq=>q.resolve_right O⟩
 .rw[ca k]at f;rw[show(d.aX==4)=false by simpa using k,zf];exact h i b f
abbrev oH:=@RV.get
abbrev qF:=@RV.same
def fw(f:aJ):Int:=f.bI+f.aR.length
def own(i:Nat)(l:List (Int×Int×Y)):List Int:=(l.filter λm=>m.1==(i:Int)).map (·.2.1)
def nw(n:Int):List Int:=(List.range n.toNat).map λ(k:Nat)=>(k:Int)
theorem qL(i:Nat)(l m:List (Int×Int×Y)):own i (l++m)=own i l++own i m:=by unfold own;rw[tJ,kS]
theorem CV(i:Nat)(m:Int×Int×Y):own i [m]=if m.1=(i:Int)then[m.2.1]else[]:=by
 unfold own;by_cases c:m.1=(i:Int)
 .rw[bE c,List.filter_cons_of_pos (by simpa using c)];rfl
 .rw[ca c,List.filter_cons_of_neg (by simpa using c)];rfl
theorem Xo{n:Int}(h:0<=n):nw (n+1)=nw n++[n]:=by obtain⟨k,rfl⟩:=iq h;unfold nw;rw[show((k:Int)+1).toNat=k+1 by omega,cP,tE,kS];rfl
structure OS(D:Nat)(a:AW):Prop where
 tq:∀n∈a.ah,dt a n.aJ=true
 cap:∀x∈a.ps,fw x.aF<=D
 lim:∀(i:Nat)x,a.ps[i]?=some x->x.bN.aN<=fw x.aF/\∀p∈x.bN.bu,p.aA<fw x.aF
 note:∀n∈a.ah,n.aX=1->n.bB=a.aO.ce->∀x,a.ps[n.aJ.toNat]?=some x->n.aA<fw x.aF
 oS:∀(i:Nat)x,a.ps[i]?=some x->own i a.ord=nw x.bN.aN
 v8:∀m∈a.ord,dt a m.1=true
 base:∀(i:Nat)x,a.ps[i]?=some x->act a (i:Int)=true->x.aF.bI<=(own i (a.ord.take x.to.aN.toNat)).length
theorem OS.mono{D E:Nat}{a:AW}(h:OS D a)(e:D<=E):OS E a:=⟨h.tq,λx d=>by have:=h.cap x d;omega,h.lim,h.note,h.oS,h.v8,h.base⟩
theorem vG{a b:AW}(h:b.ps.length=a.ps.length)(p:Int):dt b p=dt a p:=by unfold dt;rw[h]
theorem L2{B:Nat}{a:AW}(h:GA B a)(g:Mb a):dt a (sq a.aO)=true:=by
 rw[N7 h.num (g.lt h)];have e:=h.n.1;have d:∀k:Nat,fg a.aO.bJ k=true->k<a.ps.length:=λk f=>by
  rcases pr k a.ps.length with c|c
  .exact c
  .rw[LX g c]at f;cases f
 unfold xg
 cases i:fg a.aO.bJ 0 with
 |true=>exact fN.2 ⟨0,X,d 0 i⟩
 |false=>
 cases e:fg a.aO.bJ 1 with
 |true=>exact fN.2 ⟨1,X,d 1 e⟩
 |false=>
 cases j:fg a.aO.bJ 2 with
 |true=>exact fN.2 ⟨2,X,d 2 j⟩
 |false=>
 cases l:fg a.aO.bJ 3 with
 |true=>exact fN.2 ⟨3,X,d 3 l⟩
 |false=>
 cases m:fg a.aO.bJ 4 with
 |true=>exact fN.2 ⟨4,X,d 4 m⟩
 |false=>
 cases n:fg a.aO.bJ 5 with
 |true=>exact fN.2 ⟨5,X,d 5 n⟩
 |false=>exact fN.2 ⟨0,X,by omega⟩
theorem OS.seq{D:Nat}{a:AW}(h:OS D a){m:Int×Int×Y}(j:m∈a.ord){i:Nat}{x:bw}(hi:m.1=(i:Int))(f:a.ps[i]?=some x):m.2.1<fw x.aF:=by have d:m.2.1∈own i a.ord:=mS.2 ⟨m,zm.2 ⟨j,by simpa using hi⟩,X⟩;rw[h.oS i x f]at d;obtain⟨k,g,e⟩:=mS.1 d;have:=pp.1 g;have:=(h.lim i x f).1;omega
theorem MC:∀l:List (Int×Int×Y),(∀m∈l,0<=m.1/\m.1<=5)->l.length=(own 0 l).length+(own 1 l).length+(own 2 l).length+(own 3 l).length+(own 4 l).length+(own 5 l).length
 |[],_=>rfl
 |m::l,h=>by
  have d:=MC l λx a=>h x (j7 _ a);have f:=h m (by simp);have e:∀i,(own i (m::l)).length=(if m.1=(i:Int)then 1 else 0)+(own i l).length:=λi=>by
   rw[show m::l=[m]++l from X,qL,CV,cH];by_cases c:m.1=(i:Int)
   .rw[bE c,bE c];rfl
   .rw[ca c,ca c];rfl
  rw[eB,e,e,e,e,e,e,d];have:m.1=0\/m.1=1\/m.1=2\/m.1=3\/m.1=4\/m.1=5:=by omega
  rcases this with q|q|q|q|q|q<;>rw[q]<;>simp<;>omega
theorem OS.len{D B:Nat}{a:AW}(h:OS D a)(k:GA B a):a.ord.length<=6*D:=by
 have p:=MC a.ord λm f=>(k.ord.2 m f).1;have d:∀i,(own i a.ord).length<=D:=λi=>by
  by_cases hi:i<a.ps.length
  .have g:a.ps[i]?=some a.ps[i]:=by simp[hi]
   rw[h.oS i _ g];have l:=(h.lim i _ g).1;have n:=h.cap _ (du g);unfold nw;simp only[fk,List.length_range];omega
  .have:own i a.ord=[]:=by
    unfold own;rw[List.map_eq_nil_iff,List.filter_eq_nil_iff];intro m f q;obtain⟨j,e,o⟩:=fN.1 (h.v8 m f);have:m.1=(i:Int):=by simpa using q
    omega
   rw[this];exact kQ _
 have:=d 0;have:=d 1;have:=d 2;have:=d 3;have:=d 4;have:=d 5;omega
theorem OS.send{D:Nat}{a:AW}(h:OS D a){k f t s:Int}{x:Y}(i:dt a f=true)(g:k=1->∀y,a.ps[f.toNat]?=some y->s<fw y.aF):OS D (dO a k f t s x):=by
 unfold dO
 cases l:(mu (jB a.aO k f t s x)&&decide (a.ah.length<60))with
 |false=>exact h
 |true=>
  refine⟨λn e=>?_,h.cap,h.lim,λn e d j=>?_,h.oS,h.v8,h.base⟩
  .rcases fx.1 e with q|q
   .exact h.tq n q
   .rw[ia.1 q];exact i
  .rcases fx.1 e with q|q
   .exact h.note n q d j
   .rw[ia.1 q]at d ⊢;exact g d
theorem OS.sub{D:Nat}{a:AW}(h:OS D a){l:List aV}(e:∀n∈l,n∈a.ah):OS D {a with ah:=l}:=⟨λn d=>h.tq n (e n d),h.cap,h.lim,λn d=>h.note n (e n d),h.oS,h.v8,h.base⟩
theorem OS.set{D E:Nat}{a:AW}(h:OS D a){i:Nat}{x y:bw}(g:a.ps[i]?=some x)(P:D<=E)(K:fw y.aF<=E)(Q:fw x.aF<=fw y.aF)(B:y.bN=x.bN)(t:y.eE=false->x.eE=false)
 (H:(act a (i:Int)=true->x.aF.bI<=(own i (a.ord.take x.to.aN.toNat)).length)->act a (i:Int)=true->y.aF.bI<=(own i (a.ord.take y.to.aN.toNat)).length):OS E {a with ps:=a.ps.set i y}:=by
 have hi:=(dl g).1;have f:∀(j:Nat)z,(a.ps.set i y)[j]?=some z->(j=i/\z=y)\/(j≠i/\a.ps[j]?=some z):=λj z d=>by
  by_cases c:j=i
  .subst c;rw[fY hi]at d;exact .inl ⟨X,(dp d).symm⟩
  .rw[iu (λe=>c e.symm)]at d;exact .inr ⟨c,d⟩
 have l:∀p,dt ({a with ps:=a.ps.set i y}:AW) p=dt a p:=λp=>vG (by simp) p;refine⟨λn o=>by rw[l];exact h.tq n o,λz d=>?_,λj z d=>?_,λn o A C z d=>?_,λj z d=>?_,λm L=>by rw[l];exact h.v8 m L,λj z d k=>?_⟩
 .rcases qu d with q|q
  .have:=h.cap z q;omega
  .rw[q];exact K
 .rcases f j z d with⟨rfl,rfl⟩|⟨c,q⟩
  .obtain⟨S,M⟩:=h.lim j x g;rw[B];exact⟨by omega,λp hp=>by have:=M p hp;omega⟩
  .exact h.lim j z q
 .rcases f _ z d with⟨c,rfl⟩|⟨c,q⟩
  .have:=h.note n o A C x (by rw[c];exact g);omega
  .exact h.note n o A C z q
 .rcases f j z d with⟨rfl,rfl⟩|⟨c,q⟩
  .rw[B];exact h.oS j x g
  .exact h.oS j z q
 .have F:act ({a with ps:=a.ps.set i y}:AW) (j:Int)=(fg a.aO.bJ j&&!z.eE):=kK d;rw[F,eu]at k;rcases f j z d with⟨rfl,rfl⟩|⟨c,q⟩
  .have s:act a (j:Int)=true:=by
    rw[kK g,k.1,t (by simpa using k.2)];rfl
   exact H (λq=>h.base j x g q) s
  .exact h.base j z q (by rw[kK q,k.1,k.2];rfl)
theorem OS.As{D:Nat}{a:AW}(h:OS D a)(p:Int)(t:Y):OS (D+1) (iM a p t).1:=by
 unfold iM
 cases j:(gm a p !=0)with
 |true=>exact h.mono O
 |false=>
  obtain⟨i,x,rfl,f,m⟩:=oW j;rw[aS]
  cases decide (t.length>150)with
  |true=>exact h.mono O
  |false=>
  cases decide (a.ah.length=60)with
  |true=>exact h.mono O
  |false=>
   rw[aS,aS,cP,f];simp only
   cases jZ x.aF with
   |true=>exact h.mono O
   |false=>
    rw[aS];have n:=h.cap x (du f);have e:fw (⟨x.aF.bI,x.aF.aR++[t]⟩:aJ)=fw x.aF+1:=by unfold fw;simp;omega
    have hi:=(dl f).1;have g:=h.set (E:=D+1) (y:={x with aF:=⟨x.aF.bI,x.aF.aR++[t]⟩}) f O (by simp only;rw[e];omega) (by simp only;rw[e];omega) X (λq=>q) (λq=>q);refine g.send (k:=1) ?_ (λ_ y l=>?_)
    .exact fN.2 ⟨i,X,by simpa using hi⟩
    .have d:(a.ps.set i ({x with aF:=⟨x.aF.bI,x.aF.aR++[t]⟩}:bw))[i]?=some y:=l;rw[fY hi]at d;rw[<-dp d];simp only;rw[e];unfold fw;omega
theorem OS.again{D B:Nat}{a:AW}(h:OS D a)(A:GA B a)(p:Int):OS D (jW a p).1:=by
 unfold jW
 cases z:(gm a p !=0)with
 |true=>exact h
 |false=>
  obtain⟨i,x,rfl,m,C⟩:=oW z;have n:dt a (i:Int)=true:=fN.2 ⟨i,X,(dl m).1⟩;rw[aS,cP,m];simp only;have k:∀(b:Int)(j:Nat)(l:List Y)(q:bc),q∈iN b j l->q.aA<b+j+l.length:=by
   intro b j l
   induction l generalizing j with
   |nil=>intro q d;simp[iN]at d
   |cons t l s=>
    intro q d;unfold iN at d;simp only[eB];split at d
    .rcases fM.1 d with e|e
     .rw[e];simp only;omega
     .have:=s (j+1) q e;omega
    .have:=s (j+1) q d;omega
  have f:OS D (foldI (λb _(q:bc)=>dO b 1 (i:Int) (sq a.aO) q.aA q.aY) 0 (iN x.aF.bI 0 x.aF.aR) a)/\il a (foldI (λb _(q:bc)=>dO b 1 (i:Int) (sq a.aO) q.aA q.aY) 0 (iN x.aF.bI 0 x.aF.aR) a):=
   oo (λb=>OS D b/\il a b) _ 0 a (λb j q d g=>by
    refine⟨g.1.send ((vG (by rw[g.2.ps]) _).trans n) (λ_ y o=>?_),g.2.send ..⟩;rw[g.2.ps,cP,m]at o;rw[<-dp o];have:=k _ _ _ _ d
    unfold fw;omega) ⟨h,X,X,X⟩
  refine f.1.send ((vG (by rw[f.2.ps]) _).trans n) (λe=>absurd e ab)
theorem OS.yl{D:Nat}{a:AW}(h:OS D a)(p:Int):OS D (gD a p).1:=by
 unfold gD
 cases e:dt a p with
 |false=>exact h
 |true=>
  obtain⟨i,rfl,hi⟩:=fN.1 e;have d:a.ps[i]?=some a.ps[i]:=by simp[hi]
  generalize a.ps[i]=x at d;rw[cP,d];exact h.set (y:={x with eE:=true}) d (dG _) (h.cap x (du d)) (jz _) X (λq=>by cases q) (λq=>q)
theorem LU{n:Int}(h:0<=n):∀k:Nat,nw (n+k)=nw n++(List.range k).map λ(j:Nat)=>n+(j:Int)
 |0=>by simp
 |k+1=>by rw[show n+((k+1:Nat):Int)=(n+(k:Int))+1 by omega,Xo O,LU h k,tE,kS,fL];rfl
theorem abE{α:Type}{l:List α}{i:Nat}{y:α}(hi:i<l.length):∀(j:Nat)z,(l.set i y)[j]?=some z->(j=i/\z=y)\/(j≠i/\l[j]?=some z):=λj z a=>by
 by_cases c:j=i
 .subst c;rw[fY hi]at a;exact .inl ⟨X,(dp a).symm⟩
 .rw[iu (λe=>c e.symm)]at a;exact .inr ⟨c,a⟩
theorem Yr(b:AW)(p q:Int)(t:Y):∀n∈(fI b p q t).ah,n∈b.ah\/(n.aX=2/\n.aJ=sq b.aO):=by
 unfold fI;refine oo (λc:AW=>∀n∈c.ah,n∈b.ah\/(n.aX=2/\n.aJ=sq b.aO)) _ 0 _ (λc j x _ d=>?_) (λn a=>.inl a)
 cases act c (j:Int)with
 |false=>exact d
 |true=>
  rw[bG];intro n a;rcases abA _ _ _ _ _ _ n a with q|q
  .exact d n q
  .rw[q];exact .inr ⟨X,X⟩
theorem OS.bd{D B fu:Nat}{base:List aG}{a:AW}{n:aV}(h:OS D a)(hP:PV base a)(hG:GA B a)(T:Mb a)(dL:200<fu)(s:GN n)(hk:n.aX=1)(yO:dt a n.aJ=true)(aH:∀x,a.ps[n.aJ.toNat]?=some x->n.aA<fw x.aF):OS D (ka fu a n):=by
 obtain⟨i,hi,M⟩:=fN.1 yO;have F:a.ps[i]?=some a.ps[i]:=by simp[M]
 generalize a.ps[i]=x at F;have hp:=hG.ps x (du F);have Gy:=s.1.seq;have ht:=s.2.1 hk;have hs:=aH x (by rw[hi];exact F);have hpb:=hp.base;have WR:n.aA<=16777214:=by unfold fw at hs;omega
 obtain⟨ae9,K⟩:=h.lim i x F;unfold ka;rw[hi,cP,F];simp only;obtain⟨_,t2,_,t4⟩:=xd (r:=x.bN) (p:=⟨n.aA,n.aY⟩) dL hp.iJ.1 ⟨Gy.1,WR⟩ (by simp only;omega);rw[cm (show ¬n.aA>16777214 by omega),aS];generalize jt fu x.bN ⟨n.aA,n.aY⟩=r at t2 t4;obtain⟨o,ts⟩:=r;simp only at t2 t4 ⊢;have lM:=t2.next;have Gq:=hp.iJ.1.lo;have aP:∀(j:Nat)t,ts[j]?=some t->x.bN.aN+(j:Int)<fw x.aF:=λj t hj=>by
  rcases t2.aF j t hj with q|q
  .exact K _ q
  .have:x.bN.aN+(j:Int)=n.aA:=by injection q
   omega
 have WK:o.aN<=fw x.aF:=by
  rcases rM ts.length with e|e
  .omega
  .have hg:ts[ts.length-1]?=some (ts[ts.length-1]'O):=by simp
   have:=aP _ _ hg;omega
 have L:=tp (f:=λ(b:AW)j t=>fI b (i:Int) (x.bN.aN+(j:Int)) t) (λj b=>b.ps=a.ps.set i {x with bN:=o}/\b.aO=a.aO/\(∃more:List (Int×Int×Y),b.ord=a.ord++more/\own i more=((List.range j).map λ(k:Nat)=>x.bN.aN+(k:Int))/\∀m∈more,m.1=(i:Int))/\∀n∈b.ah,n∈a.ah\/(n.aX=2/\n.aJ=sq a.aO)) (l:=ts) (λj t b hj hb=>by
  obtain⟨P,b2,⟨more,b3,b4,W⟩,b6⟩:=hb;refine⟨by rw[(qK ..).ps];exact P,by rw[(qK ..).aO];exact b2,⟨more++[((i:Int),x.bN.aN+(j:Int),t)],?_,?_,λm T=>?_⟩,λn s=>?_⟩
  .rw[(qK ..).ord];show b.ord++_=_;rw[b3,fL]
  .rw[qL,b4,CV,bE X,tE,kS];rfl
  .rcases fx.1 T with q|q
   .exact W m q
   .rw[ia.1 q]
  .rcases Yr _ _ _ _ n s with q|q
   .exact b6 n q
   .rw[b2]at q;exact .inr q) ts.length 0 {a with ps:=a.ps.set i {x with bN:=o}} O ⟨X,X,⟨[],by simp,by simp[own],λm T=>by cases T⟩,λn s=>.inl s⟩
 rw[eX]at L;generalize foldI (λ(b:AW)j t=>fI b (i:Int) (x.bN.aN+(j:Int)) t) 0 ts {a with ps:=a.ps.set i {x with bN:=o}}=d at L;obtain⟨P,b2,⟨more,b3,b4,W⟩,b6⟩:=L;have S:∀p,dt d p=dt a p:=λp=>vG (by rw[P];simp) p;have H:∀(j:Nat)z,d.ps[j]?=some z->(j=i/\z={x with bN:=o})\/(j≠i/\a.ps[j]?=some z):=λj z g=>by rw[P]at g;exact abE M j z g
 refine⟨λn s=>?_,λz g=>?_,λj z g=>?_,λn s A hv z g=>?_,λj z g=>?_,λm C=>?_,λj z g ha=>?_⟩
 .rw[S];rcases b6 n s with q|q
  .exact h.tq n q
  .rw[q.2];exact L2 hG T
 .rw[P]at g;rcases qu g with q|q
  .exact h.cap z q
  .rw[q];exact h.cap x (du F)
 .rcases H j z g with⟨rfl,rfl⟩|⟨c,q⟩
  .refine⟨WK,λp WN=>?_⟩;rcases(t2.iB p WN).2.2 with q|q
   .exact K p q
   .rw[q];exact hs
  .exact h.lim j z q
 .rcases b6 n s with q|q
  .rw[b2]at hv;rcases H _ z g with⟨c,rfl⟩|⟨c,q2⟩
   .exact h.note n q A hv x (by rw[c];exact F)
   .exact h.note n q A hv z q2
  .rw[q.1]at A;exact absurd A ab
 .rw[b3,qL];rcases H j z g with⟨rfl,rfl⟩|⟨c,q⟩
  .rw[h.oS j x F,b4];simp only;rw[lM,LU Gq]
  .have e:own j more=[]:=by
    unfold own;rw[List.map_eq_nil_iff,List.filter_eq_nil_iff];intro m C q';have h1:=W m C;have h2:m.1=(j:Int):=by simpa using q'
    omega
   rw[h.oS j z q,e,is]
 .rw[S];rw[b3]at C;rcases fx.1 C with q|q
  .exact h.v8 m q
  .rw[W m q];exact fN.2 ⟨i,X,M⟩
 .rw[b3];rw[kK g,b2]at ha;have V:∀y,a.ps[j]?=some y->y.eE=z.eE->y.aF=z.aF->y.to=z.to->z.aF.bI<=(own j ((a.ord++more).take z.to.aN.toNat)).length:=λy hy e1 e2 e3=>by
   have Q:act a (j:Int)=true:=by rw[kK hy,e1];exact ha
   obtain⟨tt,_,_⟩:=hP.bq j y hy Q;rw[GM (by rw[<-e3];omega),<-e2,<-e3];exact h.base j y hy Q
  rcases H j z g with⟨rfl,rfl⟩|⟨c,q⟩
  .exact V x F X X X
  .exact V z q X X X
theorem OS.fv{D B:Nat}{a:AW}(d:GA B a)(j:Mb a)(f:Int):∀(k i:Nat)(b:AW),OS D b->il a b->OS D (fv (sq a.aO) f k i b)
 |0,_,_,h,_=>h
 |k+1,i,b,h,g=>by
  unfold Go.Proofs.YteagbdjohkfneaaGreatDoor.fv
  cases l:b.ord[i]? with
  |none=>exact h
  |some m=>exact OS.fv d j f k (i+1) _ (h.send ((vG (by rw[g.ps]) _).trans (L2 d j)) (λe=>absurd e ab)) (g.send ..)
theorem FM(f:aJ)(k:Int):fw (lL f k)=fw f/\(lL f k).bI<=max f.bI k:=by
 unfold lL fw;by_cases c:k>f.bI+f.aR.length
 .rw[c0 c,bG];omega
 .rw[cm c,aS];simp only[ig];omega
theorem Yx{i:Nat}{l:List (Int×Int×Y)}{n:Int}{k:Nat}{m:Int×Int×Y}(h:own i l=nw n)(p:l[k]?=some m)(hi:m.1=(i:Int)):m.2.1=((own i (l.take k)).length:Int)/\own i (l.take (k+1))=own i (l.take k)++[m.2.1]:=by
 have f:own i (l.take (k+1))=own i (l.take k)++[m.2.1]:=by rw[mN,p,Co,qL,CV,bE hi]
 have j:l=l.take (k+1)++l.drop (k+1):=(eQ _ _).symm;have g:own i l=own i (l.take k)++[m.2.1]++own i (l.drop (k+1)):=by rw[<-f,<-qL,<-j]
 refine⟨?_,f⟩;have a:(nw n)[(own i (l.take k)).length]?=some m.2.1:=by rw[<-h,g,fL,lR (dG _),Nat.sub_self];rfl
 unfold nw at a;rw[jh]at a;obtain⟨q,s,e⟩:=Option.map_eq_some_iff.1 a;obtain⟨o,d⟩:=dl s;rw[List.getElem_range]at d;omega
theorem Yw(i:Nat)(l:List (Int×Int×Y))(k:Nat):(own i (l.take k)).length<=(own i (l.take (k+1))).length:=by rw[mN,qL,cH];omega
theorem Oi{B fu:Nat}{base:List aG}{a:AW}{n:aV}{x:bw}{i:Nat}(M:PV base a)(k:GA B a)(l:200<fu)(V:GN n)(S:n.aX=2)(hv:n.bB=a.aO.ce)(s:NV a.aO.ce a.ord n)(H:a.ps[i]?=some x)(P:act a (i:Int)=true)(F:n.aA<=16777214):
 ∃(N:Nat)(o:To)(ts:List Y),x.to.aN=(N:Int)/\jt fu x.to ⟨n.aA,n.aY⟩=(o,ts)/\o.aN=((N+ts.length:Nat):Int)/\mC o/\(∀y∈o.bu,y∈x.to.bu\/y=⟨n.aA,n.aY⟩)/\ts.length<=17/\∀(j:Nat)t,ts[j]?=some t->∃m,a.ord[N+j]?=some m/\t=dj m/\G3 m:=by
 have hp:=k.ps x (du H);obtain⟨⟨t1,t2⟩,t3,t4⟩:=M.bq i x H P;obtain⟨D,d,g⟩:=s.2 S hv;have z:=V.1.seq;have T:=BR (k.ord.2 D (du d));obtain⟨_,f,_,C⟩:=xd (r:=x.to) (p:=⟨n.aA,n.aY⟩) l hp.to.1 ⟨z.1,F⟩ (by simp only;rw[g];omega);have e:=D7 hp.to.1 (λy A=>(hp.to.2 y A).1) F f;generalize jt fu x.to ⟨n.aA,n.aY⟩=r at f C e;obtain⟨o,ts⟩:=r;simp only at f C e;obtain⟨N,L⟩:=iq t1;have W:=f.next;refine⟨N,o,ts,L,X,by omega,e,λy A=>(f.iB y A).2.2,C,λj t Q=>?_⟩;rcases f.aF j t Q with q|q
 .obtain⟨m,h,K⟩:=t4 _ q;refine⟨m,?_,K,k.ord.2 m (du h)⟩;have:((x.to.aN+(j:Int))).toNat=N+j:=by omega
  simp only at h;rw[this]at h;exact h
 .have q1:x.to.aN+(j:Int)=n.aA:=by injection q
  have q2:t=n.aY:=by injection q
  refine⟨D,?_,q2.trans g,k.ord.2 D (du d)⟩;have:n.aA.toNat=N+j:=by omega
  rw[this]at d;exact d
theorem OS.take{D B fu:Nat}{base:List aG}{a:AW}{n:aV}(h:OS D a)(W:PV base a)(V:GA B a)(H:200<fu)(hn:GN n)(hk:n.aX=2)(hv:n.bB=a.aO.ce)(L:NV a.aO.ce a.ord n)(g:act a n.To=true):OS D (kc fu a n):=by
 have K:dt a n.To=true:=by unfold act at g;rw[eu,eu]at g;exact g.1.1
 obtain⟨i,hi,z⟩:=fN.1 K;have d:a.ps[i]?=some a.ps[i]:=by simp[z]
 generalize a.ps[i]=x at d;rw[hi]at g;unfold kc;rw[hi,cP,d];simp only;by_cases P:n.aA>16777214
 .rw[c0 P];exact h
 .obtain⟨N,o,ts,hN,T,ho,_,_,_,aP⟩:=Oi W V H hn hk hv L d g O;have s:=h.base i x d g;rw[cm P,aS,T];simp only
  have p:=tp (f:=λ(b:AW)(_:Nat)t=>hO b (i:Int) t) (λj b=>∃y:bw,b={a with ps:=a.ps.set i y}/\y.eE=x.eE/\y.to=o/\y.bN=x.bN/\fw y.aF=fw x.aF/\y.aF.bI<=(own i (a.ord.take (N+j))).length) (l:=ts) (λj t b hj hb=>by
   obtain⟨y,rfl,A,C,F,k,M⟩:=hb;obtain⟨m,Q,rfl,S⟩:=aP j t hj;refine⟨{y with bq:=y.bq++[⟨m.1,m.2.2⟩],aF:=bif m.1==(i:Int)then lL y.aF (m.2.1+1)else y.aF},?_,A,C,F,?_,?_⟩
   .unfold hO;simp only;rw[cP,fY z,wz S];simp only[li]
   .simp only
    cases (m.1==(i:Int))with
    |true=>rw[bG,(FM ..).1];exact k
    |false=>exact k
   .have hmo:=Yw i a.ord (N+j);simp only;rw[show N+(j+1)=N+j+1 by omega]
    cases hc:(m.1==(i:Int))with
    |true=>obtain⟨q1,q2⟩:=Yx (h.oS i x d) Q (by simpa using hc);have:=(FM y.aF (m.2.1+1)).2;rw[bG,q2,cH];simp only[eB,iX];omega
    |false=>rw[aS];omega) ts.length 0 {a with ps:=a.ps.set i {x with to:=o}} O ⟨{x with to:=o},X,X,X,X,X,by
     rw[lj];have:x.to.aN.toNat=N:=by omega
     rw[this]at s;exact s⟩
  rw[eX]at p;obtain⟨y,e,A,C,F,k,M⟩:=p;rw[e];refine h.set d (dG _) (by rw[k];exact h.cap x (du d)) (by rw[k];exact jz _) F (by rw[A];exact λq=>q) (λ_ _=>?_);rw[C,ho,cP];exact M
theorem OS.Fy{D B fu:Nat}{base:List aG}{a:AW}{n:aV}(h:OS D a)(k:PV base a)(f:GA B a)(l:Mb a)(e:200<fu)(m:GN n)(s:n.bB=a.aO.ce)(j:NV a.aO.ce a.ord n)(p:act a n.To=true)(i:n.aX=1->∀x,a.ps[n.aJ.toNat]?=some x->n.aA<fw x.aF):OS D (ja fu a n):=by
 unfold ja
 cases g:dt a n.aJ with
 |false=>exact h
 |true=>
 simp only[fX,aS]
 cases o:n.aX==1 with
 |true=>
  have d:n.aX=1:=by simpa using o
  exact h.bd k f l e m d g (i d)
 |false=>
 cases n.aX==3 with
 |true=>exact OS.fv f l _ _ _ _ h ⟨X,X,X⟩
 |false=>
 cases q:n.aX==2 with
 |true=>exact h.take k f e m (by simpa using q) s j p
 |false=>exact h
theorem OS.move{D B fu:Nat}{base:List aG}{a:AW}(h:OS D a)(o:PV base a)(l:GA B a)(x:Mb a)(i:200<fu)(k d:Int):OS D (iw fu a k d).1:=by
 unfold iw
 cases !(decide (d>=1)&&decide (d<=3))with
 |true=>exact h
 |false=>
 cases !(decide (k>=0)&&decide (k<=(a.ah.length:Int)-1))with
 |true=>exact h
 |false=>
 cases (d==3)&&decide (a.ah.length=60)with
 |true=>exact h
 |false=>
 cases y:a.ah[k.toNat]? with
 |none=>exact h
 |some n=>
  have e:=du y;simp only[aS]
  cases d==3 with
  |true=>
   refine h.sub λm g=>?_;rcases fx.1 g with q|q
   .exact q
   .rw[ia.1 q];exact e
  |false=>
   rw[aS];have f:∀m∈a.ah.take k.toNat++a.ah.drop (k.toNat+1),m∈a.ah:=λm g=>by
    rcases fx.1 g with q|q
    .exact pF q
    .exact pE q
   have p:OS D {a with ah:=a.ah.take k.toNat++a.ah.drop (k.toNat+1)}:=h.sub f
   cases j:((d==1)&&(n.bB==a.aO.ce))&&act a n.To with
   |false=>exact p
   |true=>
    rw[eu,eu]at j;have s:n.bB=a.aO.ce:=by simpa using j.1.2
    exact p.Fy (o.Ea f) (l.CH k.toNat) x i (l.ah.2 n e) s (o.ah n e) j.2 (λt=>h.note n e t s)
theorem TE{B fu:Nat}{a:AW}{g:List (Int×Int)}{n:aV}(D:20<=fu)(V:Mb a)(hs:0<=n.aA/\n.aA<=16777215)(ha:GA B a)(hB:B<=2^40):∀(k i:Nat)(b:AW)(d:Nat),k<d->(i:Int)+k=n.aA+4->il a b->GA B b->
 ∃j,cw (qP fu (a.r g) n) d ((i:Int),b.r g,b.ah)=some (.inl (j,(fv (sq a.aO) n.aJ k i b).r g,(fv (sq a.aO) n.aJ k i b).ah))/\il a (fv (sq a.aO) n.aJ k i b)/\GA B (fv (sq a.aO) n.aJ k i b):=by
 have z:((a.r g).bd.length:Int)=a.ord.length:=by show((a.ord.map _).length:Int)=_;rw[fk]
 have P:ap (n.aA+4)=n.aA+4:=bT O O;have l:∀b:AW,il a b->({b.r g with aI:=(a.r g).aI,bd:=(a.r g).bd,bf:=(a.r g).bf,bj:=b.ah}:bi)=b.r g:=λb f=>lw (g:=g) f.ord;have stop:∀(i:Nat)(b:AW)(d:Nat),0<d->il a b->¬((i:Int)<a.ord.length/\(i:Int)<n.aA+4)->∃j,cw (qP fu (a.r g) n) d ((i:Int),b.r g,b.ah)=some (.inl (j,b.r g,b.ah)):=λi b d C f hc=>by
  obtain⟨d,rfl⟩:∃q,d=q+1:=⟨d-1,by omega⟩
  refine⟨i,?_⟩;have p:=l b f;dsimp only at p;unfold cw qP;simp only;rw[z,P,cm (show ¬(i:Int)<min (a.ord.length:Int) (n.aA+4) by omega),p];rfl
 intro k
 induction k with
 |zero=>intro i b d C hi f o;obtain⟨j,K⟩:=stop i b d C f O;exact⟨j,K,f,o⟩
 |succ k W=>
  intro i b d C hi f o
  cases h:b.ord[i]? with
  |none=>have y:b.ord.length<=i:=GX.1 h;obtain⟨j,K⟩:=stop i b d O f (by rw[f.ord]at y;omega);unfold fv;rw[h];exact⟨j,K,f,o⟩
  |some m=>
   have H:i<b.ord.length:=(dl h).1;have L:i<a.ord.length:=by rw[<-f.ord];exact H
   have t:=o.ord.2 m (du h);have M:=o.ord.1;obtain⟨d,rfl⟩:∃q,d=q+1:=⟨d-1,by omega⟩
   have x:=f.send 2 (sq a.aO) n.aJ (i:Int) (dj m);have F:GA B (dO b 2 (sq a.aO) n.aJ (i:Int) (dj m)):=o.send (λe=>absurd e ab) (λ_=>⟨m,t,X⟩);obtain⟨j,Q,S,T⟩:=W (i+1) _ d O (by push_cast;omega) x F;unfold fv;rw[h];refine⟨j,?_,S,T⟩;have p:=l b f;have s:=l _ x;dsimp only at p s;have A:qP fu (a.r g) n ((i:Int),b.r g,b.ah)=some (.go (((i+1:Nat):Int),(dO b 2 (sq a.aO) n.aJ (i:Int) (dj m)).r g,(dO b 2 (sq a.aO) n.aJ (i:Int) (dj m)).ah)):=by unfold qP;simp only;rw[z,P,c0 (show(i:Int)<min (a.ord.length:Int) (n.aA+4) by omega),bG,p,Oj D o (V.same f.aO (by rw[f.ps])) n.aJ h t,ae,f.aO];simp only;rw[s,bT O O];rfl
   unfold cw;rw[A,ae];exact Q
theorem TF{B fu:Nat}{a:AW}{g:List (Int×Int)}{n:aV}(i:20<=fu)(h:GA B a)(x:B<=2^40)(z:Mb a)(A:GN n)(y:n.aX=3):
 oN fu (a.r g) n=some ((p9 a n).ord.map (·.2.2),(p9 a n).ord.map (λm=>(⟨m.1,m.2.1⟩:cN)),(p9 a n).ah,(p9 a n).r g):=by
 have l:=A.1.seq;obtain⟨s,e⟩:=iq l.1;obtain⟨j,C,f,D⟩:=TE (g:=g) (n:=n) i z l h x 4 s a fu O O ⟨X,X,X⟩ h;have t:p9 a n=fv (sq a.aO) n.aJ 4 s a:=by unfold p9;rw[e];rfl
 unfold oN;rw[y,t];have o:((3:Int)==1)=false:=X;simp only[o,mP,bG,aS];have k:cw (qP fu (a.r g) n) fu (n.aA,a.r g,(a.r g).bj)=some (.inl (j,(fv (sq a.aO) n.aJ 4 s a).r g,(fv (sq a.aO) n.aJ 4 s a).ah)):=by rw[e];exact C
 rw[k,jK];generalize fv (sq a.aO) n.aJ 4 s a=d at f;have:=lw (g:=g) f.ord;have p:(a.r g).bd=d.ord.map (·.2.2):=by rw[f.ord];rfl
 have q:(a.r g).bf=d.ord.map (λm=>(⟨m.1,m.2.1⟩:cN)):=by rw[f.ord];rfl
 dsimp only at this ⊢;rw[p,q];rfl
theorem Wg{a:AW}{g:List (Int×Int)}{n:aV}{i N j:Nat}{o x9:To}{y:bw}{m:Int×Int×Y}(hi:n.To=(i:Int))(k:i<a.ps.length)(C:i<6)(hN:x9.aN=(N:Int))(hNl:N+j<=2^40)(T:a.ord[N+j]?=some m)(A:G3 m)(S:y.bq.length<=2^39)(Q:GF y.aF)
 (F:m.1=(i:Int)->m.2.1<fw y.aF):
 wt (a.r g) n x9 j (({a with ps:=a.ps.set i y}:AW).r g)=some ((hO {a with ps:=a.ps.set i y} (i:Int) (dj m)).r g):=by
 have hb:=Q.base;have hl:=Q.late;have g2:=A.2.1;have hw:ap (x9.aN+(j:Int))=((N+j:Nat):Int):=by rw[hN,bT O O];omega
 have q:i<(a.ps.set i y).length:=by simpa using k
 have t:(a.ps.set i y)[i]?=some y:=fY k;have V:(a.r g).bf[N+j]?=some ⟨m.1,m.2.1⟩:=by show(a.ord.map _)[N+j]?=_;rw[jh,T];rfl
 have W:(a.r g).bd[N+j]?=some m.2.2:=by show(a.ord.map _)[N+j]?=_;rw[jh,T];rfl
 have l:∀f:aJ,({({a with ps:=a.ps.set i y}:AW).r g with dr:=RV [] (·.bq) (a.ps.set i ({y with bq:=y.bq++[⟨m.1,m.2.2⟩],aF:=f}:bw)),aR:=RV aJ.zero (·.aF) (a.ps.set i ({y with bq:=y.bq++[⟨m.1,m.2.2⟩],aF:=f}:bw))}:bi)=({a with ps:=a.ps.set i ({y with bq:=y.bq++[⟨m.1,m.2.2⟩],aF:=f}:bw)}:AW).r g:=λf=>by unfold AW.r;simp only[qx];have e:=qF (f:=(·.to)) (d:=To.zero) (y:=({y with bq:=y.bq++[⟨m.1,m.2.2⟩],aF:=f}:bw)) t X;have e':=qF (f:=(·.bN)) (d:=To.zero) (y:=({y with bq:=y.bq++[⟨m.1,m.2.2⟩],aF:=f}:bw)) t X;rw[li]at e e';rw[e,e']
 have hM:hO {a with ps:=a.ps.set i y} (i:Int) (dj m)={a with ps:=a.ps.set i ({y with bq:=y.bq++[⟨m.1,m.2.2⟩],aF:=bif m.1==(i:Int)then lL y.aF (m.2.1+1)else y.aF}:bw)}:=by unfold hO;simp only;rw[cP,t,wz A];simp only[li]
 have h:∀f:aJ,(RV [] (·.bq) (a.ps.set i y)).setIfInBounds i (y.bq++([(⟨m.1,m.2.2⟩:aG)]:List aG))=RV [] (·.bq) (a.ps.set i ({y with bq:=y.bq++[⟨m.1,m.2.2⟩],aF:=f}:bw)):=λf=>by rw[RV.set (y:=({y with bq:=y.bq++[⟨m.1,m.2.2⟩],aF:=f}:bw)) q X,li]
 rw[hM];unfold wt
 rw[hw,cK,V,ae,hi,show(({a with ps:=a.ps.set i y}:AW).r g).dr=RV [] (·.bq) (a.ps.set i y)from X,oH C t,ae,Fk O,ae,cK,W,ae,dm (by simp;omega),ae,eg,ae,eg,
  show(({a with ps:=a.ps.set i y}:AW).r g).aR=RV aJ.zero (·.aF) (a.ps.set i y)from X,oH C t,ae,cP]
 simp only;have P:({aG.zero with aJ:=m.1,aY:=m.2.2}:aG)=⟨m.1,m.2.2⟩:=X;dsimp only at P;rw[P,iR,ae]
 cases B:((m.1==(i:Int))&&decide (m.2.1>=y.aF.bI))with
 |false=>
  have M:(bif m.1==(i:Int)then lL y.aF (m.2.1+1)else y.aF)=y.aF:=by
   cases hq:(m.1==(i:Int))with
   |false=>rfl
   |true=>rw[hq,kR,lm]at B;rw[bG];unfold lL;rw[cm O,aS,show max (m.2.1+1-y.aF.bI) 0=0 by omega];simp
  rw[M,aS,h y.aF];have p:=l y.aF;have s:RV aJ.zero (·.aF) (a.ps.set i ({y with bq:=y.bq++[⟨m.1,m.2.2⟩],aF:=y.aF}:bw))=RV aJ.zero (·.aF) (a.ps.set i y):=by have e:=qF (f:=(·.aF)) (d:=aJ.zero) (y:=({y with bq:=y.bq++[⟨m.1,m.2.2⟩],aF:=y.aF}:bw)) t X;rw[li]at e;exact e
  rw[s]at p;exact congrArg some p
 |true=>
  rw[eu,eW]at B;have H:m.1=(i:Int):=by simpa using B.1
  have D:=F H;unfold fw at D;obtain⟨d,hd⟩:∃d:Nat,m.2.1+1-y.aF.bI=(d:Int):=iq O;have M:(bif m.1==(i:Int)then lL y.aF (m.2.1+1)else y.aF)=⟨m.2.1+1,y.aF.aR.drop d⟩:=by rw[B.1,bG];unfold lL;rw[cm O,aS,show max (m.2.1+1-y.aF.bI) 0=(d:Int) by omega,cP,show y.aF.bI+(d:Int)=m.2.1+1 by omega]
  have z:bY y.aF.aR (ap (ap (m.2.1+1)-y.aF.bI)) (y.aF.aR.length:Int)=some (y.aF.aR.drop d):=by rw[bT (x:=m.2.1+1) O O,hd,bT O O];unfold bY;rw[bE O];simp only[cP];rw[gN (by simp)]
  rw[M,bG,z,ae,eg];have K:(RV aJ.zero (·.aF) (a.ps.set i y)).setIfInBounds i (⟨y.aF.bI,y.aF.aR.drop d⟩:aJ)=RV aJ.zero (·.aF) (a.ps.set i ({y with aF:=⟨y.aF.bI,y.aF.aR.drop d⟩}:bw)):=by rw[RV.set (y:=({y with aF:=⟨y.aF.bI,y.aF.aR.drop d⟩}:bw)) q X,li]
  have L:(RV aJ.zero (·.aF) (a.ps.set i ({y with aF:=⟨y.aF.bI,y.aF.aR.drop d⟩}:bw))).setIfInBounds i (⟨m.2.1+1,y.aF.aR.drop d⟩:aJ)=RV aJ.zero (·.aF) (a.ps.set i ({y with bq:=y.bq++[⟨m.1,m.2.2⟩],aF:=⟨m.2.1+1,y.aF.aR.drop d⟩}:bw)):=by rw[RV.set (y:=({y with bq:=y.bq++[⟨m.1,m.2.2⟩],aF:=⟨m.2.1+1,y.aF.aR.drop d⟩}:bw)) (by simpa using k) X,li]
  rw[K,oH C (fY k),ae,eg,bT (x:=m.2.1+1) O O];simp only;rw[L,h ⟨m.2.1+1,y.aF.aR.drop d⟩];exact congrArg some (l ⟨m.2.1+1,y.aF.aR.drop d⟩)
theorem acu{D B fu:Nat}{base:List aG}{a:AW}{g:List (Int×Int)}{n:aV}(z:200<fu)(h:OS D a)(hP:PV base a)(p:GA B a)(hB:B<=2^34)(hn:GN n)(L:n.aX=2)(hv:n.bB=a.aO.ce)(A:NV a.aO.ce a.ord n)(s:act a n.To=true)(hs:n.aA<=16777214):
 oN fu (a.r g) n=some ((kc fu a n).ord.map (·.2.2),(kc fu a n).ord.map (λm=>(⟨m.1,m.2.1⟩:cN)),(kc fu a n).ah,(kc fu a n).r g):=by
 have M:dt a n.To=true:=by unfold act at s;rw[eu,eu]at s;exact s.1.1
 obtain⟨i,hi,e⟩:=fN.1 M;have k:a.ps[i]?=some a.ps[i]:=by simp[e]
 generalize a.ps[i]=x at k;have h6:i<6:=by have:=p.n.2;omega
 have hp:=p.ps x (du k);rw[hi]at s;have Q:=hn.1.seq;obtain⟨N,o,ts,hN,et,ho,_,_,LF,aP⟩:=Oi hP p z hn L hv A k s hs;obtain⟨mn,P,S⟩:=A.2 L hv;have LA:=BR (p.ord.2 mn (du P));have hol:=p.ord.1;unfold oN kc;have e1:((2:Int)==1)=false:=X;have e2:((2:Int)==3)=false:=X;rw[L,hi,cP,k];simp only[e1,e2,mP,bG,aS];rw[show(a.r g).dM=RV To.zero (·.to) a.ps from X,oH h6 k,ae,ae];have ep:({bc.zero with aA:=n.aA,aY:=n.aY}:bc)=⟨n.aA,n.aY⟩:=X;dsimp only at ep;rw[ep,ME z hp.to.1 ⟨Q.1,hs⟩ (by simp only;rw[S];omega),et,ae,eg,cm (show ¬n.aA>16777214 by omega),aS];simp only[ae,eg];have C:(RV To.zero (·.to) a.ps).setIfInBounds i (⟨o.aN,o.bu⟩:To)=RV To.zero (·.to) (a.ps.set i {x with to:=o}):=RV.set e X;have F:({a.r g with dM:=RV To.zero (·.to) (a.ps.set i {x with to:=o})}:bi)=({a with ps:=a.ps.set i {x with to:=o}}:AW).r g:=by unfold AW.r;simp only[qx];rw[qF (f:=(·.bq)) (y:=({x with to:=o}:bw)) k X,qF (f:=(·.bN)) (y:=({x with to:=o}:bw)) k X,qF (f:=(·.aF)) (y:=({x with to:=o}:bw)) k X]
 dsimp only at F;rw[C,F]
 obtain⟨T,y,V,_⟩:=nQ (body:=wt (a.r g) n x.to) (λb:AW=>b.r g) (λb _ t=>hO b (i:Int) t)
  (λj b=>∃y:bw,b={a with ps:=a.ps.set i y}/\fw y.aF=fw x.aF/\GF y.aF/\y.bq.length<=B+j) (l:=ts) (λj t b hj hb=>by
   obtain⟨y,rfl,H,K,bl⟩:=hb;obtain⟨m,W,rfl,m3⟩:=aP j t hj;have yN:=(dl hj).1;have hNj:=(dl W).1;refine⟨Wg (o:=o) hi e h6 hN O W m3 O K (λq=>by rw[H];exact h.seq (du W) q k),{y with bq:=y.bq++[⟨m.1,m.2.2⟩],aF:=bif m.1==(i:Int)then lL y.aF (m.2.1+1)else y.aF},?_,?_,?_,?_⟩
   .unfold hO;simp only;rw[cP,fY e,wz m3];simp only[li]
   .simp only
    cases (m.1==(i:Int))with
    |true=>rw[bG,(FM ..).1];exact H
    |false=>exact H
   .simp only
    cases (m.1==(i:Int))with
    |true=>exact Gh K
    |false=>exact K
   .simp only[cH,eB,iX];omega) ts.length 0 {a with ps:=a.ps.set i {x with to:=o}} O ⟨{x with to:=o},X,X,hp.gf,by have:=hp.bq;simp only;omega⟩
 rw[eX]at T V;generalize foldI (λ(b:AW)(_:Nat)t=>hO b (i:Int) t) 0 ts {a with ps:=a.ps.set i {x with to:=o}}=d at T V;rw[T,ae,V];rfl
theorem Un{D B fu:Nat}{base:List aG}{a:AW}{g:List (Int×Int)}{n:aV}(j:200<fu)(h:OS D a)(L:PV base a)(f:GA B a)(A:B<=2^34)(T:D<=2000000)(F:Mb a)(o:gx g a)(t:GN n)(H:n.bB=a.aO.ce)(l:NV a.aO.ce a.ord n)(M:act a n.To=true)(d:dt a n.aJ=true)(q:n.aX=1->∀x,a.ps[n.aJ.toNat]?=some x->n.aA<fw x.aF):
 oN fu (a.r g) n=some ((ja fu a n).ord.map (·.2.2),(ja fu a n).ord.map (λm=>(⟨m.1,m.2.1⟩:cN)),(ja fu a n).ah,(ja fu a n).r g):=by
 unfold ja;rw[d];simp only[fX,aS]
 cases y:n.aX==1 with
 |true=>
  have e:n.aX=1:=by simpa using y
  rw[bG];obtain⟨i,hi,p⟩:=fN.1 d;have K:a.ps[i]?=some a.ps[i]:=by simp[p]
  have P:=q e a.ps[i] (by rw[hi];exact K);have V:=(f.ps _ (du K)).base;exact Yu j f A F o t e d (by unfold fw at P;omega)
 |false=>
 cases z:n.aX==3 with
 |true=>exact TF O f O F t (by simpa using z)
 |false=>
 cases C:n.aX==2 with
 |true=>
  have k:n.aX=2:=by simpa using C
  obtain⟨W,s,_⟩:=l.2 k H;have Q:=(dl s).1;have S:=h.len f;exact acu j h L f A t k H l M O
 |false=>unfold oN;rw[y,z,C];rfl
theorem X5{D B fu:Nat}{base:List aG}{a:AW}{g:List (Int×Int)}(W:200<fu)(h:OS D a)(hP:PV base a)(K:GA B a)(hB:B<=2^34)(hD:D<=2000000)(hm:Mb a)(yK:gx g a)(k d:Int):
 mZ fu (a.r g) k d=some ((iw fu a k d).1.ord.map (·.2.2),(iw fu a k d).1.ord.map (λm=>(⟨m.1,m.2.1⟩:cN)),(iw fu a k d).1.r g,(iw fu a k d).2):=by
 unfold mZ iw;have ae6:=K.ah.1;rw[or_some,ae,show(a.r g).bj=a.ah from X];have hh:(decide (d<1)||decide (d>3))=!(decide (d>=1)&&decide (d<=3)):=by rw[ew];simp only[mQ,eW,rS,oD,lm];omega
 rw[hh]
 cases hhw:(decide (d>=1)&&decide (d<=3))with
 |false=>rfl
 |true=>
 have Wy:(decide (k<0)||decide (k>=(a.ah.length:Int)))=!(decide (k>=0)&&decide (k<=(a.ah.length:Int)-1)):=by rw[ew];simp only[mQ,eW,rS,oD,lm];omega
 rw[fX,aS,aS,or_some,ae,Wy]
 cases A:(decide (k>=0)&&decide (k<=(a.ah.length:Int)-1))with
 |false=>rfl
 |true=>
 rw[eu,eW,eW]at A;obtain⟨i,rfl⟩:=iq A.1;have Gk:i<a.ah.length:=by omega
 have e6:((a.ah.length:Int)==60)=decide (a.ah.length=60):=by rw[ew];simp;omega
 rw[fX,aS,aS,e6,iR,ae]
 cases h6:((d==3)&&decide (a.ah.length=60))with
 |true=>rfl
 |false=>
 have L:a.ah[i]?=some a.ah[i]:=by simp[Gk]
 generalize a.ah[i]=n at L;have l:=du L;rw[aS,aS,cK,L,ae,cP,L];simp only
 cases h3:(d==3)with
 |true=>rw[bG,bG,dm (by simp;omega),ae,eg];rfl
 |false=>
  have c1:bY a.ah 0 (i:Int)=some (a.ah.take i):=by unfold bY;rw[bE O];simp
  have c2:bY a.ah ((i+1:Nat):Int) (a.ah.length:Int)=some (a.ah.drop (i+1)):=by unfold bY;rw[bE O];simp only[cP];rw[gN (by simp)]
  have o:∀m∈a.ah.take i++a.ah.drop (i+1),m∈a.ah:=λm WC=>by
   rcases fx.1 WC with q|q
   .exact pF q
   .exact pE q
  rw[aS,aS,c1,ae,bT (show-9223372036854775808<=(i:Int)+1 by omega) O,show(i:Int)+1=((i+1:Nat):Int) by rfl,c2,ae,UO (by simp;omega),ae,eg,iR,ae];obtain⟨b,f⟩:∃b:AW,b={a with ah:=a.ah.take i++a.ah.drop (i+1)}:=⟨_,X⟩
  have t:({a.r g with bj:=a.ah.take i++a.ah.drop (i+1)}:bi)=b.r g:=by rw[f];rfl
  dsimp only at t;have y:b.ah=a.ah.take i++a.ah.drop (i+1):=by rw[f]
  have e:b.ord=a.ord:=by rw[f]
  have s:b.aO=a.aO:=by rw[f]
  have M:GA B b:=by rw[f];exact K.CH i
  have F:Mb b:=by rw[f];exact hm
  have z:gx g b:=by rw[f];exact yK
  have Q:PV base b:=by rw[f];exact hP.Ea o
  have P:OS D b:=by rw[f];exact h.sub o
  have j:act b n.To=act a n.To:=by rw[f];rfl
  have C:∀p,dt b p=dt a p:=λp=>by rw[f];rfl
  have H:b.ps=a.ps:=by rw[f]
  rw[t,<-f,show(a.r g).V=a.aO from X];have LG:∃q:Nat,n.To=(q:Int):=iq (K.ah.2 n l).1.to.1;obtain⟨q,hq⟩:=LG;rw[hq]at j
  cases hc:((d==1)&&(n.bB==a.aO.ce))with
  |false=>rw[Bool.false_and];simp only[aS,ae];rw[<-y];exact congrArg some (gu (by rw[e];rfl) (gu (by rw[e];rfl) (gu (lw (g:=g) e) X)))
  |true=>
   rw[eu]at hc;have hv:n.bB=b.aO.ce:=by rw[s];simpa using hc.2
   simp only[bG,kR];rw[hq,yJ F z,ae,ae,j]
   cases S:act a (q:Int)with
   |false=>simp only[aS,ae];rw[<-y];exact congrArg some (gu (by rw[e];rfl) (gu (by rw[e];rfl) (gu (lw (g:=g) e) X)))
   |true=>have V:=h.tq n l;have T:=Un (g:=g) (n:=n) W P Q M hB hD F z (K.ah.2 n l) hv (by have:=hP.ah n l;rw[s,e];exact this) (by rw[hq,j];exact S) (by rw[C];exact V) (λh1 x W4=>h.note n l h1 (by rw[<-s];exact hv) x (by rw[<-H];exact W4));simp only[bG];rw[T,ae];rfl
theorem BL(L:List aG)(a:AW):(foldI (λb i(_:bw)=>fB L b i) 0 a.ps a).aO=a.aO/\(foldI (λb i(_:bw)=>fB L b i) 0 a.ps a).ah=a.ah/\(foldI (λb i(_:bw)=>fB L b i) 0 a.ps a).ps.length=a.ps.length/\
 ∀(k:Nat)x,a.ps[k]?=some x->(foldI (λb i(_:bw)=>fB L b i) 0 a.ps a).ps[k]?=some (bif act a (k:Int)then lc L k x else{x with bN:=⟨0,[]⟩}):=by
 have d:=tp (f:=λ(b:AW)i(_:bw)=>fB L b i) (λj b=>b.aO=a.aO/\b.ah=a.ah/\b.ps.length=a.ps.length/\(∀k:Nat,j<=k->b.ps[k]?=a.ps[k]?)/\∀(k:Nat)x,k<j->a.ps[k]?=some x->b.ps[k]?=some (bif act a (k:Int)then lc L k x else{x with bN:=⟨0,[]⟩})) (l:=a.ps) (λi x b h t=>by
  obtain⟨p,b2,b3,b4,s⟩:=t;have m:b.ps[i]?=some x:=by rw[b4 i (dG _)];exact h
  have n:=(dl m).1;have g:act b (i:Int)=act a (i:Int):=BH p b3 (b4 i (dG _));have one:fB L b i={b with ps:=b.ps.set i (bif act a (i:Int)then lc L i x else{x with bN:=⟨0,[]⟩})}:=by unfold fB;rw[m,g]
  rw[one];refine⟨p,b2,by simp[b3],λk q=>?_,λk y q o=>?_⟩
  .show(b.ps.set i _)[k]?=_;rw[iu O];exact b4 k O
  .show(b.ps.set i _)[k]?=_;by_cases c:k=i
   .subst c;rw[h]at o;rw[<-dp o,fY n]
   .rw[iu (λe=>c e.symm)];exact s k y O o) a.ps.length 0 a O ⟨X,X,X,λk _=>rfl,λk x q=>by omega⟩
 rw[eX]at d;exact⟨d.1,d.2.1,d.2.2.1,λk x h=>d.2.2.2.2 k x (dl h).1 h⟩
theorem OS.change{D B:Nat}{base:List aG}{a:AW}(h:OS D a)(S:PV base a)(M:GA B a):OS D (iC a).1:=by
 obtain⟨P,F⟩:=zw a.aO (ge a).1 M.num;unfold iC;generalize ge a=z at P F;obtain⟨g,L⟩:=z;simp only at P F ⊢
 cases hn:((gv a.aO g).2 !=0)with
 |true=>exact h
 |false=>
  have C:(gv a.aO g).2=0:=by simpa using hn
  obtain⟨m1,m2,m3⟩:=F C;rw[aS];obtain⟨Q,b2,b3,K⟩:=BL L a;generalize foldI (λ(b:AW)i(_:bw)=>fB L b i) 0 a.ps a=d at Q b2 b3 K;have A:∀p,dt ({d with aO:=(gv a.aO g).1,ord:=[]}:AW) p=dt a p:=λp=>vG b3 p;have get:∀(i:Nat)y,d.ps[i]?=some y->∃x,a.ps[i]?=some x/\y=(bif act a (i:Int)then lc L i x else{x with bN:=⟨0,[]⟩}):=λi y f=>by
   have s:i<a.ps.length:=by rw[<-b3];exact(dl f).1
   have o:a.ps[i]?=some a.ps[i]:=by simp[s]
   have:=K i _ o;rw[f]at this;exact⟨_,o,dp this⟩
  have k:∀(i:Nat)y,d.ps[i]?=some y->0<=fw y.aF/\fw y.aF<=D/\y.bN=⟨0,[]⟩:=λi y f=>by
   obtain⟨x,o,e⟩:=get i y f;have hp:=(M.ps x (du o)).base;have T:=h.cap x (du o);rw[e]
   cases act a (i:Int)with
   |true=>
    rw[bG];refine⟨?_,?_,X⟩
    .unfold lc fw at*
     simp only[ig];omega
    .unfold lc fw at*
     simp only[ig];omega
   |false=>
    rw[aS];unfold fw at*
    exact⟨by simp only;omega,T,X⟩
  refine⟨λn l=>?_,λy f=>?_,λi y f=>?_,λn l _ hv=>?_,λi y f=>?_,λm W=>?_,λi y f q=>?_⟩
  .rw[A];exact h.tq n (by rw[<-b2];exact l)
  .obtain⟨i,hi⟩:=ji f;exact(k i y hi).2.1
  .obtain⟨q1,_,H⟩:=k i y f;rw[H];exact⟨q1,λp hp=>by cases hp⟩
  .have V:=(S.ah n (by rw[<-b2];exact l)).1;have LH:n.bB=(gv a.aO g).1.ce:=hv;omega
  .obtain⟨_,_,H⟩:=k i y f;rw[H];rfl
  .cases W
  .obtain⟨x,o,e⟩:=get i y f;rw[kK f,eu]at q;have t:fg a.aO.bJ i=true:=by
    have:fg (gv a.aO g).1.bJ i=true:=q.1;rw[m3]at this;exact LY this
   cases j:act a (i:Int)with
   |false=>rw[j,aS]at e;rw[kK o,t,kR]at j;have:=q.2;rw[e]at this;simp only at this;rw[this]at j;cases j
   |true=>rw[j,bG]at e;rw[e];exact Int.natCast_nonneg _
theorem Mb.change{B:Nat}{a:AW}(h:Mb a)(i:GA B a):Mb (iC a).1:=by
 obtain⟨f,e⟩:=zw a.aO (ge a).1 i.num;unfold iC;generalize ge a=z at f e;obtain⟨g,L⟩:=z;simp only at f e ⊢
 cases j:((gv a.aO g).2 !=0)with
 |true=>exact h
 |false=>
  have d:(gv a.aO g).2=0:=by simpa using j
  obtain⟨p,q,k⟩:=e d;rw[aS];obtain⟨l,b2,b3,o⟩:=BL L a;unfold Mb at*
  simp only;rw[k,b3,rL];have:=Nat.and_le_left (n:=a.aO.bJ.toNat) (m:=(~~~g).toNat);omega
theorem gx.change{g:List (Int×Int)}{a:AW}(h:gx g a):gx g (iC a).1:=by
 unfold iC
 cases n:((gv a.aO (ge a).1).2 !=0)with
 |true=>exact h
 |false=>
  rw[aS];obtain⟨m,b2,b3,l⟩:=BL (ge a).2 a;intro i y k;have d:i<a.ps.length:=by rw[<-b3];exact(dl k).1
  have j:a.ps[i]?=some a.ps[i]:=by simp[d]
  have:=l i _ j;have e:(foldI (λb i(_:bw)=>fB (ge a).2 b i) 0 a.ps a).ps[i]?=some y:=k;rw[e]at this;rw[dp this];have f:=h i _ j;cases act a (i:Int)
  .exact f
  .exact f
theorem Kn(i:Nat)(s:aG)(l:List aG):iS i (s::l)=(bif s.aJ==(i:Int)then 1 else 0)+iS i l:=X
theorem Kr(i:Nat):∀l:List (Int×Int×Y),iS i (nR l)=(own i l).length
 |[]=>rfl
 |m::l=>by
  have a:=Kr i l;rw[show m::l=[m]++l from X,qL,CV,cH,<-a];show iS i ((⟨m.1,m.2.2⟩:aG)::nR l)=_;rw[Kn];by_cases c:m.1=(i:Int)
  .rw[bE c,show((⟨m.1,m.2.2⟩:aG).aJ==(i:Int))=true by simpa using c];rfl
  .rw[ca c,show((⟨m.1,m.2.2⟩:aG).aJ==(i:Int))=false by simpa using c];rfl
theorem Xy{D B:Nat}{base:List aG}{a:AW}(h:OS D a)(g:PV base a)(f:GA B a){i j:Nat}{x y:bw}(d:a.ps[i]?=some x)(k:act a (i:Int)=true)(C:a.ps[j]?=some y)(p:act a (j:Int)=true)(z:x.bq.length<=y.bq.length):
 iS i (y.bq.drop x.bq.length)<=x.aF.aR.length:=by
 obtain⟨Q,L,_⟩:=g.bq i x d k;obtain⟨S,m,_⟩:=g.bq j y C p;have q:=h.base i x d k;have t:=(h.lim i x d).1;have e:=h.oS i x d;have A:=(f.ps x (du d)).iJ.1.lo;have s:=(f.ps x (du d)).base;have rl:∀l,(nR l).length=l.length:=λl=>by unfold nR;simp
 have K:x.bq.length=base.length+x.to.aN.toNat:=by rw[L,cH,rl,fE];omega
 have P:y.bq.length=base.length+y.to.aN.toNat:=by rw[m,cH,rl,fE];omega
 have hd:y.bq.drop x.bq.length=nR ((a.ord.take y.to.aN.toNat).drop x.to.aN.toNat):=by rw[K,m,Cv,ie O];unfold nR;rw[pq,List.map_drop,show base.length+x.to.aN.toNat-base.length=x.to.aN.toNat by omega]
 rw[hd,Kr,List.drop_take];have n:own i a.ord=own i (a.ord.take x.to.aN.toNat)++own i (a.ord.drop x.to.aN.toNat):=by rw[<-qL,eQ]
 have o:own i (a.ord.drop x.to.aN.toNat)=own i ((a.ord.drop x.to.aN.toNat).take (y.to.aN.toNat-x.to.aN.toNat))++own i ((a.ord.drop x.to.aN.toNat).drop (y.to.aN.toNat-x.to.aN.toNat)):=by rw[<-qL,eQ]
 have F:=congrArg List.length n;have H:=congrArg List.length o;rw[e,cH]at F;rw[cH]at H;have M:(nw x.bN.aN).length=x.bN.aN.toNat:=by unfold nw;simp
 unfold fw at t;omega
theorem X0(m x:BitVec 8):m-(m&&&x)=m&&& ~~~(m&&&x):=by
 have d:(m&&& ~~~(m&&&x))&&&(m&&&x)=0:=by apply vD;intro i hi;simp only[tM,zl,hi,decide_true,kR];cases m.getLsbD i<;>cases x.getLsbD i<;>simp
 have e:(m&&& ~~~(m&&&x))|||(m&&&x)=m:=by apply vD;intro i hi;simp only[Ch,tM,zl,hi,decide_true,kR];cases m.getLsbD i<;>cases x.getLsbD i<;>simp
 have a:(m&&& ~~~(m&&&x))+(m&&&x)=m:=by rw[BitVec.add_eq_or_of_and_eq_zero _ _ d,e]
 generalize m&&& ~~~(m&&&x)=p at a;generalize m&&&x=q at a;rw[<-a];exact BitVec.add_sub_cancel p q
theorem Tr(m y:BitVec 8):(m&&& ~~~y)&&&m=m&&& ~~~y:=by apply vD;intro i hi;simp only[tM,zl,hi,decide_true,kR];cases m.getLsbD i<;>cases y.getLsbD i<;>simp
theorem Yd{v:bB}{x:BitVec 8}{fu:Nat}(a:2^16<fu)(j:0<=v.ce/\v.ce<=16777215)(i:v.bJ.toNat<64)(p:x.toNat<64):zP fu v x 0=some (gv v (v.bJ&&&x)):=by
 rw[<-(zw v (v.bJ&&&x) j).1];have e:∀y:BitVec 8,y.toNat<64->(((y>>>6).toNat:Int)!=((0:BitVec 8).toNat:Int))=false:=λy f=>by
  have:(y>>>6).toNat=0:=by rw[py,pw];omega
  rw[this];rfl
 have f:(v.bJ&&&x).toNat<64:=by rw[rL];have:=Nat.and_le_left (n:=v.bJ.toNat) (m:=x.toNat);omega
 have z0:((0:BitVec 8).toNat:Int)=0:=X;have o:((1:BitVec 8).toNat:Int)=1:=X;have d:((63:BitVec 8).toNat:Int)=63:=X;have l:∀y:BitVec 8,y|||0=y:=λy=>by simp
 have g:∀y:BitVec 8,y&&&0=0:=λy=>by simp
 unfold zP oV C5 q5 sE AV;simp only[l,g,e _ i,e _ f];rw[N1 a,N1 a,Kv,Kv,Tr,X0];simp only[or_some,ae,z0,o,d];rw[cm (show ¬v.ce<0 by omega),cm (show ¬v.ce>16777215 by omega),cm (show ¬(v.bJ.toNat:Int)>63 by omega),cm (show ¬(x.toNat:Int)>63 by omega)];have k:decide ((v.bJ.toNat:Int)<1)=((v.bJ.toNat:Int)==0):=by rw[ew,eW,gO];omega
 rw[k];simp only[zj,Ct]
 cases ((v.bJ.toNat:Int)==0)with
 |true=>rfl
 |false=>
  simp only[iW,aS];have e0:¬((0:Int)>63):=by omega
  have h:¬((0:Int)>0):=by omega
  simp only[e0,h,ze,oE,aS]
  cases v.ce==16777215 with
  |true=>rfl
  |false=>rw[aS,aS];cases decide (ap (2*(zC (v.bJ&&& ~~~(v.bJ&&&x)):Int))>(zC v.bJ:Int))<;>rfl
def yo(a:AW):BitVec 8×List aG:=
 foldI (λ(z:BitVec 8×List aG)i(x:bw)=>bif act a (i:Int)then(bif decide (x.bq.length>z.2.length)then(z.1,x.bq)else z)else(z.1|||((1:BitVec 8)<<<i),z.2)) 0 a.ps ((0:BitVec 8),([]:List aG))
theorem Tq(m z y:BitVec 8):m&&&(z|||y)=(m&&&z)|||(m&&&y):=by apply vD;intro i hi;simp only[tM,Ch];cases m.getLsbD i<;>cases z.getLsbD i<;>cases y.getLsbD i<;>simp
theorem KX(a:AW):∀(l:List bw)(i:Nat)(z w:BitVec 8×List aG),w.1=a.aO.bJ&&&z.1->w.2=z.2->
 (foldI (λ(z:BitVec 8×List aG)i(x:bw)=>bif act a (i:Int)then(bif decide (x.bq.length>z.2.length)then(z.1,x.bq)else z)else(z.1|||(a.aO.bJ&&&((1:BitVec 8)<<<i)),z.2)) i l w).1=a.aO.bJ&&&(foldI (λ(z:BitVec 8×List aG)i(x:bw)=>bif act a (i:Int)then(bif decide (x.bq.length>z.2.length)then(z.1,x.bq)else z)else(z.1|||((1:BitVec 8)<<<i),z.2)) i l z).1/\
 (foldI (λ(z:BitVec 8×List aG)i(x:bw)=>bif act a (i:Int)then(bif decide (x.bq.length>z.2.length)then(z.1,x.bq)else z)else(z.1|||(a.aO.bJ&&&((1:BitVec 8)<<<i)),z.2)) i l w).2=(foldI (λ(z:BitVec 8×List aG)i(x:bw)=>bif act a (i:Int)then(bif decide (x.bq.length>z.2.length)then(z.1,x.bq)else z)else(z.1|||((1:BitVec 8)<<<i),z.2)) i l z).2
 |[],_,_,_,e,d=>⟨e,d⟩
 |x::l,i,z,w,e,d=>by
  refine KX a l (i+1) _ _ ?_ ?_
  .dsimp only
   cases act a (i:Int)with
   |true=>rw[bG,bG,d];cases decide (x.bq.length>z.2.length)<;>exact e
   |false=>
    show w.1|||_=a.aO.bJ&&&(z.1|||_)
    rw[Tq,e]
  .dsimp only
   cases act a (i:Int)with
   |true=>rw[bG,bG,d];cases decide (x.bq.length>z.2.length)<;>simp[d]
   |false=>exact d
theorem Vj(a:AW)(h:a.ps.length<=6):(yo a).1.toNat<64:=by
 unfold yo
 have:=tp (f:=λ(z:BitVec 8×List aG)i(x:bw)=>bif act a (i:Int)then(bif decide (x.bq.length>z.2.length)then(z.1,x.bq)else z)else(z.1|||((1:BitVec 8)<<<i),z.2)) (λ_ z=>z.1.toNat<64) (l:=a.ps) (λi x z g d=>by
  have hi:i<6:=by have:=(dl g).1;omega
  cases act a (i:Int)with
  |true=>rw[bG];cases decide (x.bq.length>z.2.length)<;>exact d
  |false=>
   show(z.1|||((1:BitVec 8)<<<i)).toNat<64;have e:((1:BitVec 8)<<<i).toNat<2^6:=by
    have:∀i:Fin 6,((1:BitVec 8)<<<i.val).toNat<2^6:=by decide
    exact this ⟨i,hi⟩
   rw[BitVec.toNat_or]
   exact Nat.or_lt_two_pow d e) a.ps.length 0 ((0:BitVec 8),([]:List aG)) O ab
 rwa[eX]at this
theorem G0(i:Nat):∀(l:List aG)(k j:Nat)(z:List Y),j+k=l.length->iS i (l.drop j)<=z.length->bC (uj i l) k j z=some (z.drop (iS i (l.drop j)))
 |l,0,j,z,m,_=>by have e:l.drop j=[]:=ie O;rw[e];rfl
 |l,k+1,j,z,m,a=>by
  have d:j<l.length:=by omega
  have g:l[j]?=some l[j]:=by simp[d]
  rw[jg d]at a ⊢;generalize l[j]=s at g a;unfold bC uj;rw[cK,g,ae];rw[Kn]at a ⊢
  cases f:(s.aJ==(i:Int))with
  |true=>
   rw[f,bG]at a;have h:bY z 1 (z.length:Int)=some (z.drop 1):=by unfold bY;rw[bE O];rw[gN (by simp)];rfl
   rw[bG,bG,h,ae,ae];have:=G0 i l k (j+1) (z.drop 1) O (by rw[ig];omega);unfold uj at this;rw[this,nC]
  |false=>rw[f,aS]at a;rw[aS,aS,ae,gF];have:=G0 i l k (j+1) z O O;unfold uj at this;exact this
theorem TW{D B fu:Nat}{base:List aG}{a:AW}{g:List (Int×Int)}(dL:2^16<fu)(h:OS D a)(hP:PV base a)(p:GA B a)(hB:B<=2^34)(hm:Mb a)(P:gx g a):
 sg fu (a.r g)=some ((iC a).1.r g,(iC a).2):=by
 have hn:=p.n;have W0:iO (a.r g).n=some a.ps.length:=by rw[show(a.r g).n=(a.ps.length:Int)from X,D8 O,cP]
 obtain⟨l1,_⟩:=nQ (body:=wl (a.r g)) (λz:BitVec 8×List aG=>z) (λ(z:BitVec 8×List aG)i(x:bw)=>bif act a (i:Int)then(bif decide (x.bq.length>z.2.length)then(z.1,x.bq)else z)else(z.1|||((1:BitVec 8)<<<i),z.2)) (λ_ _=>True) (l:=a.ps) (λi x z k _=>by
  have F:i<6:=by have:=(dl k).1;omega
  refine⟨?_,cy⟩;unfold wl;rw[yJ hm P,ae]
  cases act a (i:Int)with
  |false=>rw[lO,bG,og,ae];rfl
  |true=>
   rw[fX,aS,bG,show(a.r g).dr=RV [] (·.bq) a.ps from X,oH F k,ae,ae];by_cases c:x.bq.length>z.2.length
   .rw[c0 c,c0 (show(x.bq.length:Int)>(z.2.length:Int) by omega)];rfl
   .rw[cm c,cm (show ¬(x.bq.length:Int)>(z.2.length:Int) by omega)];rfl) a.ps.length 0 ((0:BitVec 8),([]:List aG)) O cy
 rw[eX]at l1;have zo:bC (wl (a.r g)) a.ps.length 0 ((0:BitVec 8),([]:List aG))=some (yo a):=l1;obtain⟨r1,r2⟩:=KX a a.ps 0 ((0:BitVec 8),([]:List aG)) ((0:BitVec 8),([]:List aG)) (by simp) X;have Zm:(ge a).1=a.aO.bJ&&&(yo a).1:=r1;have ZU:(ge a).2=(yo a).2:=r2;obtain⟨_,g2,g3⟩:=KY p;have aH:=Vj a hn.2;unfold sg iC;rw[W0,ae,zo,ae];simp only;rw[show(a.r g).V=a.aO from X,Yd dL p.num (hm.lt p) aH,ae,<-Zm,<-ZU]
 cases hq:((gv a.aO (ge a).1).2 !=0)with
 |true=>rfl
 |false=>
  rw[aS,aS,ae];have o:∀(i:Nat)x,a.ps[i]?=some x->act a (i:Int)=true->iS i ((ge a).2.drop x.bq.length)<=x.aF.aR.length:=λi x k n=>by
   have S:=g2 i x k n;rcases g3 with q|⟨j,y,hy,V0,q⟩
   .rw[q];simp[iS]
   .rw[q]at S ⊢;exact Xy h hP p k n hy V0 S
  have M:=g2;have VF:(ge a).2.length<=B:=by
   rcases g3 with q|⟨j,x,k,_,q⟩
   .rw[q];exact kQ _
   .rw[q];exact(p.ps x (du k)).bq
  generalize(ge a).2=L at o M VF
  obtain⟨l2,l3,l4,l5⟩:=nQ (body:=wm (a.r g) L) (λb:AW=>(⟨a.ps.length,a.aO,g,RV [] (·.bq) b.ps,RV To.zero (·.to) b.ps,RV aJ.zero (·.aF) b.ps,RV To.zero (·.bN) a.ps,a.ord.map (·.2.2),a.ord.map (λm=>(⟨m.1,m.2.1⟩:cN)),a.ah⟩:bi)) (λb i(_:bw)=>fB L b i) (λi b=>b.aO=a.aO/\b.ps.length=a.ps.length/\∀j:Nat,i<=j->b.ps[j]?=a.ps[j]?) (l:=a.ps) (λi x b k hb=>by
   obtain⟨b1,b2,b3⟩:=hb;have F:i<6:=by have:=(dl k).1;omega
   have e:b.ps[i]?=some x:=by rw[b3 i (dG _)];exact k
   have t:=(dl e).1;have K:act b (i:Int)=act a (i:Int):=BH b1 b2 (b3 i (dG _));have one:fB L b i={b with ps:=b.ps.set i (bif act a (i:Int)then lc L i x else{x with bN:=⟨0,[]⟩})}:=by unfold fB;rw[e,K]
   have A:(fB L b i).aO=a.aO/\(fB L b i).ps.length=a.ps.length/\∀j:Nat,i+1<=j->(fB L b i).ps[j]?=a.ps[j]?:=by rw[one];exact⟨b1,by simp only[qx];exact b2,λj hj=>by show(b.ps.set i _)[j]?=_;rw[iu O];exact b3 j O⟩
   refine⟨?_,A⟩;rw[one];have s:oM (⟨a.ps.length,a.aO,g,RV [] (·.bq) b.ps,RV To.zero (·.to) b.ps,RV aJ.zero (·.aF) b.ps,RV To.zero (·.bN) a.ps,a.ord.map (·.2.2),a.ord.map (λm=>(⟨m.1,m.2.1⟩:cN)),a.ah⟩:bi) (i:Int)=some (act a (i:Int)):=by have:=yJ (a:=a) hm P i;unfold oM at this ⊢;exact this
   have H:=M i x k;have hll:=(p.ps x (du k)).bq;have ae1:=(p.ps x (du k)).late;unfold wm;simp only;rw[show(a.r g).aI=g from X,show(a.r g).bd=a.ord.map (·.2.2)from X,show(a.r g).bf=a.ord.map (λm=>(⟨m.1,m.2.1⟩:cN))from X,show(a.r g).bj=a.ah from X,s,ae]
   cases n:act a (i:Int)with
   |false=>rw[lO,bG,aS];have q1:=qF (f:=(·.bq)) (d:=[]) (y:=({x with bN:=⟨0,[]⟩}:bw)) e X;have q2:=qF (f:=(·.to)) (d:=To.zero) (y:=({x with bN:=⟨0,[]⟩}:bw)) e X;have q3:=qF (f:=(·.aF)) (d:=aJ.zero) (y:=({x with bN:=⟨0,[]⟩}:bw)) e X;rw[q1,q2,q3]
   |true=>
    have H:=H n;have Q:=o i x k n;have ec:bY L (x.bq.length:Int) (L.length:Int)=some (L.drop x.bq.length):=by unfold bY;rw[bE O];simp only[cP];rw[gN (by simp)]
    have T:=G0 i (L.drop x.bq.length) (L.drop x.bq.length).length 0 x.aF.aR O (by rw[eX];exact Q);rw[eX]at T;rw[fX,aS,bG,oH F e,ae,oH F e,ae,ec,ae,T,ae,ae,eg,ae,eg,eg,oH F e,ae,eg,cP];have C:min (iS i (L.drop x.bq.length)) x.aF.aR.length=iS i (L.drop x.bq.length):=ir Q;have s1:(RV [] (·.bq) b.ps).setIfInBounds i L=RV [] (·.bq) (b.ps.set i (lc L i x)):=RV.set t X;have s2:(RV aJ.zero (·.aF) b.ps).setIfInBounds i (⟨0,x.aF.aR.drop (iS i (L.drop x.bq.length))⟩:aJ)=RV aJ.zero (·.aF) (b.ps.set i (lc L i x)):=RV.set t (by unfold lc;rw[C]);have s3:(RV To.zero (·.to) b.ps).setIfInBounds i To.zero=RV To.zero (·.to) (b.ps.set i (lc L i x)):=RV.set t X;have ez:({aJ.zero with aR:=x.aF.aR.drop (iS i (L.drop x.bq.length))}:aJ)=⟨0,x.aF.aR.drop (iS i (L.drop x.bq.length))⟩:=X;dsimp only at ez
    rw[s1,ez,s2,s3]) a.ps.length 0 a O ⟨X,X,λj _=>rfl⟩
  rw[eX]at l2 l3 l4 l5;obtain⟨c1,c2,W,c5⟩:=BL L a;generalize foldI (λ(b:AW)i(_:bw)=>fB L b i) 0 a.ps a=d at l2 l3 l4 l5 c1 c2 W c5;have Xp:bC (wm (a.r g) L) a.ps.length 0 (a.r g)=some (⟨a.ps.length,a.aO,g,RV [] (·.bq) d.ps,RV To.zero (·.to) d.ps,RV aJ.zero (·.aF) d.ps,RV To.zero (·.bN) a.ps,a.ord.map (·.2.2),a.ord.map (λm=>(⟨m.1,m.2.1⟩:cN)),a.ah⟩:bi):=l2;rw[Xp,ae];refine congrArg some (gu ?_ X);have V:(Vector.replicate 6 To.zero:Vector To 6)=RV To.zero (·.bN) d.ps:=by
   apply rP;intro j hj;simp only[RV,qw,Cp]
   cases hd:d.ps[j]? with
   |none=>rfl
   |some y=>
    have yN:j<a.ps.length:=by rw[<-W];exact(dl hd).1
    have k:a.ps[j]?=some a.ps[j]:=by simp[yN]
    have:=c5 j _ k;rw[hd]at this;rw[dp this];cases act a (j:Int)<;>rfl
  unfold AW.r;simp only;rw[V,c2,W];rfl
theorem FK{α:Type}{f:AW->Nat->α->AW}(h:∀b j x,(f b j x).aO=b.aO):∀(l:List α)(i:Nat)(b:AW),(foldI f i l b).aO=b.aO
 |[],_,_=>rfl
 |x::l,i,b=>(FK h l (i+1) _).trans (h b i x)
theorem JZ(s f:Int):∀(k i:Nat)(b:AW),(fv s f k i b).aO=b.aO
 |0,_,_=>rfl
 |k+1,i,b=>by
  unfold fv
  cases b.ord[i]? with
  |none=>rfl
  |some m=>exact(JZ s f k (i+1) _).trans (HU ..)
theorem Uy(fu:Nat)(a:AW)(n:aV):(ja fu a n).aO=a.aO:=by
 unfold ja
 cases (!dt a n.aJ)with
 |true=>rfl
 |false=>
 cases n.aX==1 with
 |true=>
  simp only[bG,aS];unfold ka
  cases a.ps[n.aJ.toNat]? with
  |none=>rfl
  |some x=>
   simp only
   cases decide (n.aA>16777214)with
   |true=>rfl
   |false=>rw[aS,FK λb j t=>by rw[(qK ..).aO]]
 |false=>
 cases n.aX==3 with
 |true=>exact JZ ..
 |false=>
 cases n.aX==2 with
 |true=>
  simp only[bG,aS];unfold kc
  cases a.ps[n.To.toNat]? with
  |none=>rfl
  |some x=>
   simp only
   cases decide (n.aA>16777214)with
   |true=>rfl
   |false=>rw[aS,FK λb j t=>by unfold hO;cases b.ps[n.To.toNat]?<;>rfl]
 |false=>rfl
theorem UG{D B fu:Nat}{base:List aG}{a:AW}{g:List (Int×Int)}(S:2^16<fu)(h:OS D a)(H:PV base a)(p:GA B a)(Q:B<=2^34)(hD:D<=2000000)(o:Mb a)(f:gx g a)(d:nU):
 ∃q,Hi fu (a.r g) d=some (q,(eU fu a d).1.r q,(eU fu a d).2)/\gx q (eU fu a d).1/\Mb (eU fu a d).1/\OS (D+1) (eU fu a d).1:=by
 have t:200<fu:=by omega
 have z:20<=fu:=by omega
 have s:=CF fu a d;unfold Hi;unfold eU at s ⊢
 cases M:d.aX==1 with
 |true=>
  rw[M]at s;simp only[bG]at s ⊢;rw[abz z p o f,ae];have ho:=NS a d.dn d.aY;have T:=h.As d.dn d.aY;refine⟨g,congrArg some (gu X (gu (lw (g:=g) ho) X)),?_,?_,T⟩
  .intro i y F;unfold iM at F
   revert F
   cases hw:(gm a d.dn !=0)with
   |true=>exact f i y
   |false=>
    obtain⟨j,x,hj,C,ha⟩:=oW hw;rw[aS]
    cases decide (d.aY.length>150)with
    |true=>exact f i y
    |false=>
    cases decide (a.ah.length=60)with
    |true=>exact f i y
    |false=>
     rw[aS,aS,hj,cP,C];simp only
     cases jZ x.aF with
     |true=>exact f i y
     |false=>rw[aS];simp only;rw[Au];exact f.set (y:={x with aF:=⟨x.aF.bI,x.aF.aR++[d.aY]⟩}) C X i y
  .refine o.same ?_ s;unfold iM
   cases (gm a d.dn !=0)with
   |true=>rfl
   |false=>
   cases decide (d.aY.length>150)with
   |true=>rfl
   |false=>
   cases decide (a.ah.length=60)with
   |true=>rfl
   |false=>
   cases a.ps[d.dn.toNat]? with
   |none=>rfl
   |some x=>
    simp only[aS]
    cases jZ x.aF with
    |true=>rfl
    |false=>rw[aS];simp only;rw[HU]
 |false=>
 cases k2:d.aX==2 with
 |true=>simp only[bG,aS];rw[Tp z p o f,ae];have L:=BI a d.dn;exact⟨g,congrArg some (gu X (gu (lw (g:=g) L.ord) X)),f.ps L.ps,o.same L.aO (by rw[L.ps]),(h.again p d.dn).mono O⟩
 |false=>
 cases P:d.aX==3 with
 |true=>
  simp only[bG,aS];rw[X5 t h H p Q hD o f,ae];have K:=KR fu a d;have W:(iw fu a d.dn d.gZ).1.aO=a.aO:=by
   unfold iw
   cases !(decide (d.gZ>=1)&&decide (d.gZ<=3))with
   |true=>rfl
   |false=>
   cases !(decide (d.dn>=0)&&decide (d.dn<=(a.ah.length:Int)-1))with
   |true=>rfl
   |false=>
   cases (d.gZ==3)&&decide (a.ah.length=60)with
   |true=>rfl
   |false=>
   cases a.ah[d.dn.toNat]? with
   |none=>rfl
   |some n=>
    simp only[aS]
    cases d.gZ==3 with
    |true=>rfl
    |false=>
     rw[aS];simp only
     cases ((d.gZ==1)&&(n.bB==a.aO.ce))&&act a n.To with
     |true=>rw[bG,Uy]
     |false=>rfl
  have k:(iw fu a d.dn d.gZ).1.ps.length=a.ps.length:=by have:=CF fu a d;unfold eU at this;rw[M,k2,P]at this;exact this
  have A:fC (iw fu a d.dn d.gZ).1=fC a:=by
   unfold eU at K;rw[M,k2,P]at K;have k4:(d.aX==4)=false:=by
    have:d.aX=3:=by simpa using P
    rw[this];rfl
   rw[k4]at K;exact K
  refine⟨g,X,λi y F=>?_,o.same W k,(h.move H p o t d.dn d.gZ).mono O⟩;have LK:i<a.ps.length:=by rw[<-k];exact(dl F).1
  have C:a.ps[i]?=some a.ps[i]:=by simp[LK]
  have e:=congrArg (λl:List Bool=>l[i]?) A;simp only[fC,jh]at e;rw[F,C]at e;have e':y.eE=a.ps[i].eE:=by simpa using e
  rw[e'];exact f i _ C
 |false=>
 cases k4:d.aX==4 with
 |true=>
  simp only[bG,aS];obtain⟨q,e1,e2⟩:=U7 p f d.dn;obtain⟨q1,q2⟩:=KO a d.dn;rw[e1,ae];have W:(gD a d.dn).1.aO=a.aO:=by
   unfold gD
   cases !dt a d.dn with
   |true=>rfl
   |false=>cases a.ps[d.dn.toNat]?<;>rfl
  have k:(gD a d.dn).1.ps.length=a.ps.length:=by have:=CF fu a d;unfold eU at this;rw[M,k2,P,k4]at this;exact this
  have V:({(gD a d.dn).1.r q with aI:=q,bd:=a.ord.map (·.2.2),bf:=a.ord.map (λm=>(⟨m.1,m.2.1⟩:cN)),bj:=a.ah}:bi)=(gD a d.dn).1.r q:=by rw[<-q2];exact lw (g:=q) q1
  exact⟨q,congrArg some (gu X (gu V X)),e2,o.same W k,(h.yl d.dn).mono O⟩
 |false=>
 cases k5:d.aX==5 with
 |true=>
  simp only[bG,aS];rw[TW S h H p Q o f,ae];obtain⟨_,_,c3⟩:=Kd p Q;refine⟨g,?_,f.change,o.change p,(h.change H p).mono O⟩;have:({(iC a).1.r g with aI:=g,bj:=a.ah}:bi)=(iC a).1.r g:=by rw[<-c3];rfl
  exact congrArg some (gu X (gu this X))
 |false=>exact⟨g,X,f,o,h.mono O⟩
