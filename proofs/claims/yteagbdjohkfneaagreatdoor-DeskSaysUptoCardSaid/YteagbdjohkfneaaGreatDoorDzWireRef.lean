/-
  What the functions of the slices library compute.
-/
import Derived.Test.YteagbdjohkfneaaGreatDoorDzSp
import Derived.Test.YteagbdjohkfneaaGreatDoorGoHd
namespace Go.Proofs.YteagbdjohkfneaaGreatDoor
open an
theorem US(a:List Y)(p:Y->Bool)(hp:∀x∈a,tj x=some (p x)):AJ a=some (gE p a):=by unfold AJ;refine tC p λj x d=>?_;unfold DI;rw[cK,d,ae,hp x (du d),ae];cases p x<;>rfl
theorem UQ{fu:Nat}(a:List Y)(p:Y->Bool)(hp:∀x∈a,tj x=some (p x))(M:a.length<=2^40)(L:a.length+1<fu):AD fu a=some (a.filter λx=>!p x):=by
 unfold AD;rw[US a p hp,ae];rcases yR p a with⟨e,t⟩|⟨i,y,e,o,z,A⟩
 .rw[e,show((-1:Int)==-1)=true from X,bG];congr 1;exact(List.filter_eq_self.2 λx n=>by rw[t x n];rfl).symm
 .have C:=(dl o).1;have m:(a.take i).filter (λx=>!p x)=a.take i:=List.filter_eq_self.2 λx n=>by
   obtain⟨j,h⟩:=ji n;have f:j<i:=by have:=(dl h).1;simp at this;omega
   rw[tL,bE f]at h;rw[A j x f h];rfl
  have d:(a.take (i+1)).filter (λx=>!p x)=a.take i:=by rw[mN,o,tJ,m];simp[z]
  rw[e,show((i:Int)==-1)=false from by simp<;>omega,aS,bT O O,show((i:Int)+1)=((i+1:Nat):Int)from X]
  obtain⟨k,ys,s,H,K,B⟩:=Fw (l:=a) (p:=p) (F:=λx=>tj x) (body:=DD) O hp (λi j xs=>rfl)
   fu i (i+1) a O O O X d.symm (by rw[d];simp<;>omega) X
  rw[s,jK];simp only;have g:∃q,bY ys (k:Int) (ys.length:Int)=some q:=⟨_,by unfold bY;rw[bE O]⟩
  obtain⟨q,D⟩:=g;rw[D,ae,Uc O,ae,B]
theorem FE(l:List Int)(a:Int):wY l a=some (gE (a==·) l):=by
 unfold wY;refine tC _ λj x d=>?_;unfold DO;rw[cK,d,ae]
 try rw[xh]
 first|(cases (a==x)<;>rfl)|(by_cases e:a=x<;>simp[e];done)|(rw[show(a==x)=decide (a=x)from by(rw[ew];simp)];cases decide (a=x)<;>rfl)
theorem UP(l:List Int)(a:Int):AC l a=some (l.contains a):=by unfold AC;rw[FE,ae,Xa]
theorem mul_one(y:BitVec 64):zv (BitVec.ofInt 64 1) y=some (0,y):=by
 unfold zv CI;rw[ae];have d:(BitVec.ofInt 64 1:BitVec 64)>>>32=0:=by decide
 have e:(BitVec.ofInt 64 1:BitVec 64)&&&(4294967295:BitVec 64)=1:=by decide
 have f:(BitVec.ofInt 64 1:BitVec 64)=1:=by decide
 simp only[d,e];rw[f];have:=X8 y;congr 1;simp only[vv,BitVec.zero_mul,BitVec.one_mul,BitVec.zero_add]at this ⊢;have a:=XR y;simp only[vv]at a;rw[a]at this ⊢;rw[this];simp
theorem UU{x:Bool}{n fu:Nat}(f:1<=n)(k:n<=2^30)(m:n<fu):AM fu [x] (n:Int)=some (List.replicate n x):=by
 unfold AM;have g:decide ((n:Int)<0)=false:=cm O;have h:(BitVec.ofInt 64 (n:Int)).toNat=n:=by rw[rN];omega
 rw[g,aS,show(([x].length:Nat):Int)=1 from X,mul_one,ae];simp only[zg,oi,ae,h];rw[show(decide (((0:BitVec 64).toNat:Int)>((0:BitVec 64).toNat:Int))||decide ((n:Int)>((9223372036854775807:BitVec 64).toNat:Int)))=false from by simp;omega,aS,bT O O];have d:gP (n:Int)=some n:=by unfold gP;rw[bE O];rfl
 rw[d,ae];have e:=NI (z:=false) (x:=x) (body:=DS) (λn l=>rfl) fu 1 n (dG _) f O O;have i:gA (List.replicate n false) 0 (List.replicate n false).length [x]=List.replicate 1 x++List.replicate (n-1) false:=by
  have a:min n 1=1:=by omega
  simp[gA,gN (show[x].length<=n by simpa using f),a]
 have j:oj 0 (List.replicate n false).length [x]=((1:Nat):Int):=by
  have a:min n 1=1:=by omega
  simp[oj,a]
 rw[eg,i,j,e];rfl
theorem UT(l:List Bool)(a:Bool):wX l a=some (gE (a==·) l):=by
 unfold wX;refine tC _ λj x d=>?_;unfold DN;rw[cK,d,ae]
 try rw[xh]
 first|(cases (a==x)<;>rfl)|(by_cases e:a=x<;>simp[e];done)|(rw[show(a==x)=decide (a=x)from by(rw[ew];simp)];cases decide (a=x)<;>rfl)
theorem KN(l:List Y)(a:Y):wZ l a=some (gE (a==·) l):=by
 unfold wZ;refine tC _ λj x d=>?_;unfold DP;rw[cK,d,ae]
 try rw[xh]
 first|(cases (a==x)<;>rfl)|(by_cases e:a=x<;>simp[e];done)|(rw[show(a==x)=decide (a=x)from by(rw[ew];simp)];cases decide (a=x)<;>rfl)
theorem UO{l m:List aV}(h:l.length+m.length<=2^30):Ay [l,m]=some (l++m):=by
 have a:gP ((l.length+m.length:Nat):Int)=some (l.length+m.length):=by unfold gP;rw[bE O];rfl
 have e0:ap ((0:Int)-0)=0:=by rw[bT O O];rfl
 have f:AG ((l.length+m.length:Nat):Int)=some []:=by
  unfold AG;rw[show decide (((l.length+m.length:Nat):Int)<0)=false from cm O,aS,e0,Int.sub_zero,bT O O,a]
  cases decide (((l.length+m.length:Nat):Int)>0)with
  |false=>rfl
  |true=>
   rw[bG,ae];have:∀q:List aV,bY q 0 0=some []:=λq=>by unfold bY;rw[bE O];rfl
   rw[this];rfl
 have d:ap ((0:Int)+(l.length:Int))=(l.length:Int):=by rw[bT O O];omega
 have e:ap ((l.length:Int)+(m.length:Int))=((l.length+m.length:Nat):Int):=by rw[bT O O];omega
 have g:bC (wU [l,m]) [l,m].length 0 (0:Int)=some ((l.length+m.length:Nat):Int):=by show bC (wU [l,m]) 2 0 0=_;simp only[bC];unfold wU;simp only[cK,List.getElem?_cons_zero,List.getElem?_cons_succ,ae,d,e,show decide ((l.length:Int)<0)=false from cm O,show decide (((l.length+m.length:Nat):Int)<0)=false from cm O,aS,gF]
 have i:bC (wV [l,m]) [l,m].length 0 []=some (l++m):=by show bC (wV [l,m]) 2 0 []=_;simp only[bC];unfold wV;simp only[cK,List.getElem?_cons_zero,List.getElem?_cons_succ,ae,gF,pq];rw[dm (by simp;omega),ae,ae,dm O];rfl
 unfold Ay;rw[g,ae,f,ae,i];rfl
theorem UR(l m:List Y):AF l m=some (decide (l=m)):=by
 unfold AF;exact UV (λx y=>!(decide (x=y))) (λx y=>by first|rfl|(rw[ew];simp;done)|(rw[acA,ew];simp)) (λj=>rfl)
structure nU where
 aX:Int
 dn:Int
 gZ:Int
 aY:Y
def Hh(fu:Nat)(a:aZ)(d:nU):Option ((List bw)×aZ×Int):=
 bif d.aX==(1:Int)then((q8 a d.dn d.aY).bind λi=>some (i.1,({i.2.2.1 with all:=i.1,aK:=a.aK,ah:=i.2.1}:aZ),i.2.2.2))else
 bif d.aX==(2:Int)then((sI a d.dn).bind λh=>some (a.all,({h.2.1 with all:=a.all,aK:=a.aK,ah:=h.1}:aZ),h.2.2))else
 bif d.aX==(3:Int)then((nd fu a d.dn d.gZ).bind λe=>some (e.1,({e.2.2.1 with all:=e.1,aK:=e.2.1}:aZ),e.2.2.2))else
 bif d.aX==(4:Int)then((sL a d.dn).bind λf=>some (f.1,({f.2.1 with all:=f.1,aK:=a.aK,ah:=a.ah}:aZ),f.2.2))else
 bif d.aX==(5:Int)then((sJ a).bind λg=>some (g.1,({g.2.1 with all:=g.1,ah:=a.ah}:aZ),g.2.2))else
 some (a.all,a,(1:Int))
def Hi(fu:Nat)(a:bi)(d:nU):Option ((List (Int×Int))×bi×Int):=
 bif d.aX==(1:Int)then((qO fu a d.dn d.aY).bind λi=>some (a.aI,({i.2.1 with aI:=a.aI,bd:=a.bd,bf:=a.bf,bj:=i.1}:bi),i.2.2))else
 bif d.aX==(2:Int)then((sf fu a d.dn).bind λg=>some (a.aI,({g.2.1 with aI:=a.aI,bd:=a.bd,bf:=a.bf,bj:=g.1}:bi),g.2.2))else
 bif d.aX==(3:Int)then((mZ fu a d.dn d.gZ).bind λe=>some (a.aI,({e.2.2.1 with aI:=a.aI,bd:=e.1,bf:=e.2.1}:bi),e.2.2.2))else
 bif d.aX==(4:Int)then((sh a d.dn).bind λf=>some (f.1,({f.2.1 with aI:=f.1,bd:=a.bd,bf:=a.bf,bj:=a.bj}:bi),f.2.2))else
 bif d.aX==(5:Int)then((sg fu a).bind λh=>some (a.aI,({h.1 with aI:=a.aI,bj:=a.bj}:bi),h.2))else
 some (a.aI,a,(1:Int))
theorem OH(a b c:Int):sH a b c=some (decide (a>=b)&&decide (a<=c)):=by unfold sH;simp only[oi,ae,GQ]
def jy(x:Int):Bool:=decide (x>=0)&&decide (x<=16777215)
theorem any_eq(l:List Int):Az l=some (l.any λx=>!jy x):=by
 unfold Az;have:AH l=some (gE (λx=>!jy x) l):=by unfold AH;refine tC _ λj x d=>?_;unfold DE Eb uG;rw[cK,d,ae,OH];simp only[ae];unfold jy;cases (!(decide (x>=0)&&decide (x<=16777215)))<;>rfl
 rw[this,ae];congr 1;rw[ew,zk,eW];rcases yR (λx:Int=>!jy x) l with⟨h,a⟩|⟨i,y,h,a,e,_⟩
 .rw[h];exact⟨λk=>by omega,λ⟨x,d,k⟩=>by have:=a x d;rw[this]at k;cases k⟩
 .rw[h];exact⟨λ_=>⟨y,du a,e⟩,λ_=>by omega⟩
structure p6(t:aV):Prop where
 kind:0<=t.aX/\t.aX<=255
 aF:0<=t.aJ/\t.aJ<=5
 to:0<=t.To/\t.To<=5
 aO:0<=t.bB/\t.bB<=16777215
 seq:0<=t.aA/\t.aA<=16777215
 fe:∀x∈t.At.toList,0<=x/\x<=16777215
 text:t.aY.length<=200
theorem Kf(t:aV):nT t=some (bif (!(decide (t.aX>=0)&&decide (t.aX<=255))||!(decide (t.aJ>=0)&&decide (t.aJ<=5))||!(decide (t.To>=0)&&decide (t.To<=5))||!jy t.bB||!jy t.aA)then 1 else bif t.At.toList.any (λx=>!jy x)then 1 else bif decide ((t.aY.length:Int)>200)then 2 else 0):=by unfold nT uG;simp only[OH,any_eq,oi,ae,zg];rfl
theorem oe(t:aV):∃c,nT t=some c/\(c=0↔p6 t):=by
 rw[Kf];refine⟨_,X,?_⟩
 cases a:(!(decide (t.aX>=0)&&decide (t.aX<=255))||!(decide (t.aJ>=0)&&decide (t.aJ<=5))||!(decide (t.To>=0)&&decide (t.To<=5))||!jy t.bB||!jy t.aA)with
 |true=>refine⟨λh=>(by cases h),λh=>?_⟩;obtain⟨i,j,l,m,n,_,_⟩:=h;unfold jy at a;simp[i,j,l,m,n]at a
 |false=>
  cases e:t.At.toList.any (λx=>!jy x)with
  |true=>refine⟨λh=>(by cases h),λh=>?_⟩;obtain⟨x,d,k⟩:=zk.1 e;have:=h.fe x d;unfold jy at k;simp[this]at k
  |false=>
   cases f:decide ((t.aY.length:Int)>200)with
   |true=>refine⟨λh=>(by cases h),λh=>?_⟩;have:=j5 f;have:=h.text;omega
   |false=>refine⟨λ_=>?_,λ_=>rfl⟩;have g:=ln f;unfold jy at a;simp only[zi,Bool.not_eq_false',eu,eW]at a;refine⟨by omega,by omega,by omega,by omega,by omega,λx d=>?_,by omega⟩;have:=List.any_eq_false.1 e x d;unfold jy at this;simp at this;exact this
theorem Ke{t:aV}(h:p6 t):nT t=some 0:=by obtain⟨c,e,a⟩:=oe t;rw[e,a.2 h]
theorem TX{t:aV}(h:¬p6 t):∃c,nT t=some c/\(c !=0)=true:=by obtain⟨c,e,a⟩:=oe t;exact⟨c,e,vB.2 λk=>h (a.1 k)⟩
theorem HL{σ:Type}{f:Nat->σ->Option σ}:∀(k i:Nat)(z:σ),(∀j z,i<=j->j<i+k->∃d,f j z=some d)->∃d,bC f k i z=some d
 |0,i,z,_=>⟨z,X⟩
 |k+1,i,z,h=>by obtain⟨l,e⟩:=h i z (dG _) O;obtain⟨m,g⟩:=HL k (i+1) l λj z a b=>h j z O O;exact⟨m,by unfold bC;rw[e,ae,g]⟩
theorem acn(s:Y)(h:s.length<=2^63-1):∃r,sG s=some r:=by
 unfold sG;rw[D8 O,ae,cP];obtain⟨z,e⟩:=HL (f:=A1 s) s.length 0 (4294967295:BitVec 32) λj z _ i=>by
  have d:bh s (j:Int)=some (s[j]'O):=by rw[cK];simp[show j<s.length by omega]
  unfold A1;rw[d,ae];obtain⟨g,a⟩:=HL (f:=A2) 8 0 (z^^^(BitVec.ofInt 32 ((s[j]'O).toBitVec.toNat:Int))) λj z _ _=>by unfold A2;cases ((z&&&(1:BitVec 32)).toNat:Int)==((1:BitVec 32).toNat:Int)<;>exact⟨_,X⟩
  exact⟨g,by rw[a,ae]⟩
 rw[e];exact⟨_,X⟩
def xc(s:Y):BitVec 32:=(sG s).getD 0
theorem Of(s:Y)(h:s.length<=2^63-1):sG s=some (xc s):=by obtain⟨r,e⟩:=acn s h;unfold xc;rw[e];rfl
def b3(n:Nat):List (BitVec 8):=[BitVec.ofNat 8 n,BitVec.ofNat 8 (n/256),BitVec.ofNat 8 (n/65536)]
def b4(r:BitVec 32):List (BitVec 8):=b3 r.toNat++[BitVec.ofNat 8 (r.toNat/16777216)]
theorem zA(n:Nat):BitVec.ofInt 8 (n:Int)=BitVec.ofNat 8 n:=BitVec.ofInt_natCast 8 n
theorem Ol(n:Nat):xn (n:Int)=some (b3 n):=by
 unfold xn b3;have a:((n:Int)).fdiv (2^(min 8 64))=((n/256:Nat):Int):=by rw[Int.fdiv_eq_ediv_of_nonneg _ ab];rfl
 have d:((n:Int)).fdiv (2^(min 16 64))=((n/65536:Nat):Int):=by rw[Int.fdiv_eq_ediv_of_nonneg _ ab];rfl
 rw[a,d,zA,zA,zA]
theorem KU(r:BitVec 32):xm r=some (b4 r):=by unfold xm;rw[Ol,ae,dm (by simp[b3]),ae,zA,py,pw];rfl
theorem MD{l:List Int}(e:∀x∈l,0<=x)(f:l.length<=100):∀(k i:Nat)(z:List (BitVec 8)),i+k=l.length->z.length<=10+3*i->bC (uI l) k i z=some (z++(l.drop i).flatMap λx=>b3 x.toNat)
 |0,i,z,h,_=>by rw[ie O];simp[bC]
 |k+1,i,z,h,m=>by
  have hi:i<l.length:=by omega
  obtain⟨n,a⟩:=iq (e _ (j6 hi));have j:bh l (i:Int)=some (n:Int):=by rw[cK,gG hi,a]
  have d:(b3 n).length=3:=X;have g:uI l i z=some (z++b3 n):=by unfold uI;rw[j,ae,Ol,ae,dm (by rw[d];omega),ae]
  unfold bC;rw[g,ae,MD e f k (i+1) (z++b3 n) O (by rw[cH,d];omega),jg hi,Cy,a,cP,fL]
theorem Hc(l m:List (BitVec 8)):gJ (l++m)=gJ l++gJ m:=by simp[gJ]
theorem Mu(s:Y):gJ (Y.bytes s)=s:=by unfold gJ Y.bytes;rw[List.map_map,show(UInt8.ofBitVec ∘ UInt8.toBitVec)=id from X,List.map_id]
theorem J8(s:Y):(Y.bytes s).length=s.length:=by simp[Y.bytes]
theorem zB(l:List (BitVec 8)):(gJ l).length=l.length:=by simp[gJ]
def vq(t:aV):List (BitVec 8):=[BitVec.ofInt 8 t.aX,BitVec.ofInt 8 t.aJ,BitVec.ofInt 8 t.To]++([t.bB,t.aA]++t.At.toList).flatMap λx=>b3 x.toNat
theorem yI(t:aV):(vq t).length=27:=by
 have d:∀l:List Int,(l.flatMap λx=>b3 x.toNat).length=3*l.length:=λl=>by
  induction l with
  |nil=>rfl
  |cons a l e=>rw[Cy,cH,e,eB];have:(b3 a.toNat).length=3:=X;omega
 unfold vq;rw[cH,d];simp
def pd(t:aV):Y:=gJ (vq t)++t.aY
def gl(t:aV):Y:=pd t++gJ (b4 (xc (pd t)))
theorem E9(t:aV):(pd t).length=27+t.aY.length:=by unfold pd;rw[cH,zB,yI]
theorem YB(t:aV):(gl t).length=31+t.aY.length:=by unfold gl;rw[cH,E9,zB];have:(b4 (xc (pd t))).length=4:=X;omega
theorem YD{t:aV}(h:p6 t):uH t=some (gl t,0):=by
 have e:t.At.toList.length=6:=by simp
 have d:([t.bB,t.aA]++t.At.toList).length=8:=by simp
 have l:∀x∈([t.bB,t.aA]++t.At.toList),0<=x:=by
  intro x a;rcases fx.1 a with a|a
  .rcases fM.1 a with rfl|a
   .exact h.aO.1
   .rw[ia]at a;subst a;exact h.seq.1
  .exact(h.fe x a).1
 have g:=MD l O 8 0 [BitVec.ofInt 8 t.aX,BitVec.ofInt 8 t.aJ,BitVec.ofInt 8 t.To] O (by simp);rw[eX]at g;have i:bC (uI ([t.bB,t.aA]++t.At.toList)) 8 0 [BitVec.ofInt 8 t.aX,BitVec.ofInt 8 t.aJ,BitVec.ofInt 8 t.To]=some (vq t):=g;have n:=h.text;have j:=J8 t.aY;have k:=yI t;have f:∀r,(b4 r).length=4:=λ_=>rfl;have m:=E9 t;unfold uH
 rw[Ke h,ae,show((0:Int)!=0)=false from X,aS,dm (by rw[e];simp),ae,eg,D8 O,ae,cP,d,i,ae,dm O,ae,
  Hc,Mu,show gJ (vq t)++t.aY=pd t from X,Of _ O,ae,KU,ae,dm (by rw[cH,f];omega),ae,Hc,Hc,Mu]
 rfl
theorem YC{t:aV}(h:¬p6 t):∃c,uH t=some (([]:Y),c)/\(c==0)=false:=by
 obtain⟨c,e,a⟩:=TX h;refine⟨c,?_,?_⟩
 .unfold uH;rw[e,ae,a,bG]
 .simpa using a
def qa(s:Y)(i:Nat):Nat:=(s[i]?.getD 0).toBitVec.toNat
theorem Fa(s:Y)(i:Nat):qa s i<256:=(s[i]?.getD 0).toBitVec.isLt
theorem vK{s:Y}{i:Nat}(h:i<s.length):∃c:UInt8,bh s (i:Int)=some c/\c.toBitVec.toNat=qa s i:=⟨s[i],by rw[cK,gG h],by simp[qa,h]⟩
def v3(s:Y)(b:Nat):Nat:=qa s b+256*qa s (b+1)+65536*qa s (b+2)
theorem MB{p q k:Nat}(hp:p<2^k):p|||(q*2^k)=p+q*2^k:=by have h:=Nat.shiftLeft_add_eq_or_of_lt hp q;rw[Nat.shiftLeft_eq]at h;rw[Nat.or_comm,<-h,yZ]
theorem CT(n:Nat)(h:n<2^63):(BitVec.ofInt 64 (n:Int)).toNat=n:=by rw[BitVec.ofInt_natCast,kP,kO O]
theorem rd3{p q r:Nat}(hp:p<256)(a:q<256)(d:r<256):ap ((BitVec.ofInt 64 (ap ((BitVec.ofInt 64 (p:Int)|||BitVec.ofInt 64 (ap ((q:Int)*2^(min 8 64)))).toNat:Int))|||BitVec.ofInt 64 (ap ((r:Int)*2^(min 16 64)))).toNat:Int)=((p+256*q+65536*r:Nat):Int):=by
 have c1:((q:Int)*2^(min 8 64))=((q*2^8:Nat):Int):=by rw[Int.natCast_mul];rfl
 have c2:((r:Int)*2^(min 16 64))=((r*2^16:Nat):Int):=by rw[Int.natCast_mul];rfl
 rw[c1,c2,bT (x:=((q*2^8:Nat):Int)) O O,bT (x:=((r*2^16:Nat):Int)) O O];rw[BitVec.toNat_or,BitVec.toNat_or,CT p O,CT (q*2^8) O,MB (k:=8) O,bT (x:=((p+q*2^8:Nat):Int)) O O,CT _ O,CT (r*2^16) O,MB (k:=16) O,bT O O];omega
theorem acW{s:Y}{k:Nat}(q:s.length<=1000)(h:3*k+5<s.length):pV (k:Int) s=some ((v3 s (3+3*k):Nat):Int):=by
 have a:ap ((3:Int)*(k:Int))=((3*k:Nat):Int):=by rw[bT O O];omega
 have d:ap ((3:Int)+((3*k:Nat):Int))=((3+3*k:Nat):Int):=by rw[bT O O];omega
 have e:ap (((3+3*k:Nat):Int)+1)=((3+3*k+1:Nat):Int):=by rw[bT O O];omega
 have f:ap (((3+3*k:Nat):Int)+2)=((3+3*k+2:Nat):Int):=by rw[bT O O];omega
 obtain⟨c1,m,g⟩:=vK (s:=s) (i:=3+3*k) O;obtain⟨c2,n,j⟩:=vK (s:=s) (i:=3+3*k+1) O;obtain⟨p,o,l⟩:=vK (s:=s) (i:=3+3*k+2) O;unfold pV;rw[a,d,e,f,m,n,o];simp only[ae];rw[g,j,l,rd3 (Fa _ _) (Fa _ _) (Fa _ _)];rfl
theorem TN(l:List (BitVec 8))(u:Y)(i:Nat)(h:i<l.length):qa (gJ l++u) i=(l[i]).toNat:=by unfold qa;rw[it (by rw[zB];exact h)];unfold gJ;rw[jh,gG h];rfl
theorem sc(n:Nat)(h:n<16777216):(BitVec.ofNat 8 n).toNat+256*(BitVec.ofNat 8 (n/256)).toNat+65536*(BitVec.ofNat 8 (n/65536)).toNat=n:=by simp only[kP];omega
theorem He{x:Int}(a:0<=x)(d:x<=255):((BitVec.ofInt 8 x).toNat:Int)=x:=by obtain⟨n,rfl⟩:=iq a;rw[zA,kP];omega
theorem aa7{t:aV}(h:p6 t):A0 (gl t)=some (t,0):=by
 have hL:=YB t;have hB:=E9 t;have ht:=h.text;have hb4:(b4 (xc (pd t))).length=4:=X;obtain⟨m,A⟩:∃m,m=pd t:=⟨_,X⟩
 obtain⟨L,q⟩:∃L,(gl t).length=L:=⟨_,X⟩
 rw[q]at hL;have e0:ap ((L:Int)-4)=((L-4:Nat):Int):=by rw[bT O O];omega
 have c1:bY (gl t) 0 ((L-4:Nat):Int)=some m:=by unfold bY;rw[bE O];simp only[cP,Int.toNat_zero,eX,px];rw[A];unfold gl;rw[vw O]
 have c2:bY (gl t) ((L-4:Nat):Int) (L:Int)=some (gJ (b4 (xc (pd t)))):=by unfold bY;rw[bE O];simp only[cP];unfold gl;rw[Cw O,gN (by rw[zB];omega)]
 have W:m.length=27+t.aY.length:=by rw[A,hB]
 have hA:decide ((L:Int)>231)=false:=cm O;have T:decide ((L:Int)<31)=false:=cm O;obtain⟨kd,B,to,o,sq,At,F⟩:=t;obtain⟨e,f,g,j,l,n,V⟩:∃e f g j l n,At=(#v[e,f,g,j,l,n]:Vector Int 6):=by
  refine⟨At[0],At[1],At[2],At[3],At[4],At[5],?_⟩;apply rP;intro i hi
  match i,hi with
  |0,_=>rfl
  |1,_=>rfl
  |2,_=>rfl
  |3,_=>rfl
  |4,_=>rfl
  |5,_=>rfl
 subst V;have p:=h.fe;have g0:=p e (by simp);have g1:=p f (by simp);have g2:=p g (by simp);have g3:=p j (by simp);have g4:=p l (by simp);have g5:=p n (by simp);have P:=h.kind;have gf:=h.aF;have gt:=h.to;have S:=h.aO;have Q:=h.seq;simp only at P gf gt S Q ht W;have a:∀(i:Nat)(hi:i<27),qa m i=((vq ⟨kd,B,to,o,sq,#v[e,f,g,j,l,n],F⟩)[i]'(by rw[yI];exact hi)).toNat:=λi hi=>by rw[A];exact TN _ _ i (by rw[yI];exact hi)
 have hv:∀(k:Nat)(x:Int)(z:k<8),0<=x->x<=16777215->([o,sq,e,f,g,j,l,n]:List Int)[k]?=some x->v3 m (3+3*k)=x.toNat:=λk x z C D d=>by
  unfold v3;rw[a _ O,a _ O,a _ O]
  match k,z with
  |0,_=>cases d;exact sc o.toNat O
  |1,_=>cases d;exact sc sq.toNat O
  |2,_=>cases d;exact sc e.toNat O
  |3,_=>cases d;exact sc f.toNat O
  |4,_=>cases d;exact sc g.toNat O
  |5,_=>cases d;exact sc j.toNat O
  |6,_=>cases d;exact sc l.toNat O
  |7,_=>cases d;exact sc n.toNat O
 have rd:∀(k:Nat)(x:Int)(z:k<8),0<=x->x<=16777215->([o,sq,e,f,g,j,l,n]:List Int)[k]?=some x->pV (k:Int) m=some x:=λk x z C D d=>by rw[acW O O,hv k x z C D d];congr 1;omega
 obtain⟨y0,f0,q0⟩:=vK (s:=m) (i:=0) O;obtain⟨y1,f1,q1⟩:=vK (s:=m) (i:=1) O;obtain⟨y2,f2,q2⟩:=vK (s:=m) (i:=2) O;rw[a 0 O]at q0;rw[a 1 O]at q1;rw[a 2 O]at q2;have z0:((y0.toBitVec.toNat:Nat):Int)=kd:=by rw[q0];exact He P.1 P.2
 have z1:((y1.toBitVec.toNat:Nat):Int)=B:=by rw[q1];exact He (x:=B) gf.1 O
 have z2:((y2.toBitVec.toNat:Nat):Int)=to:=by rw[q2];exact He (x:=to) gt.1 O
 have c4:bY m (27:Int) (m.length:Int)=some F:=by
  unfold bY;rw[bE O];have:m.drop 27=F:=by rw[A];unfold pd;exact Cw (by rw[zB,yI])
  show some ((m.drop 27).take _)=_;rw[this,gN (by simp only[cP];omega)]
 have step:∀(i:Nat)(x:Int)(hi:i<6)(y:aV),0<=x->x<=16777215->([o,sq,e,f,g,j,l,n]:List Int)[i+2]?=some x->xl m i y=some {y with At:=y.At.setIfInBounds i x}:=λi x hi y C D d=>by
  have e1:ap ((2:Int)+(i:Int))=((i+2:Nat):Int):=by rw[bT O O];omega
  unfold xl;rw[e1,rd (i+2) x O C D d,ae,uF _ hi,ae,eg,cP]
 have loop:∀y:aV,y.At=Vector.replicate 6 0->bC (xl m) 6 0 y=some {y with At:=#v[e,f,g,j,l,n]}:=λy hy=>by unfold bC;rw[step 0 e O _ g0.1 g0.2 X,ae];unfold bC;rw[step 1 f O _ g1.1 g1.2 X,ae];unfold bC;rw[step 2 g O _ g2.1 g2.2 X,ae];unfold bC;rw[step 3 j O _ g3.1 g3.2 X,ae];unfold bC;rw[step 4 l O _ g4.1 g4.2 X,ae];unfold bC;rw[step 5 n O _ g5.1 g5.2 X,ae];unfold bC;rw[hy];rfl
 have r0:pV (0:Int) m=some o:=rd 0 o O S.1 S.2 X;have r1:pV (1:Int) m=some sq:=rd 1 sq O Q.1 Q.2 X;have H:bh m (0:Int)=some y0:=f0;have K:bh m (1:Int)=some y1:=f1;have M:bh m (2:Int)=some y2:=f2;unfold A0;rw[q,hA,T,aS,aS,e0,c1,c2,ae,ae,Of _ O,ae,KU,ae,<-A,c0 X];simp only[fX,aS];rw[H,K,M,ae,ae,ae,r0,r1,ae,ae,c4,ae,z0,z1,z2,loop _ X,ae];have WH:nT ({aV.zero with aX:=kd,aJ:=B,To:=to,bB:=o,aA:=sq,aY:=F,At:=#v[e,f,g,j,l,n]}:aV)=some 0:=Ke h;rw[WH];rfl
theorem XO{i j:Nat}(h:i+j<=2^40):ap (((BitVec.ofInt 64 (ap ((i:Int)+(j:Int))))>>>1).toNat:Int)=(((i+j)/2:Nat):Int):=by
 rw[bT (x:=(i:Int)+(j:Int)) O O,py,rN,pw];have:(((i:Int)+(j:Int))%((2^64:Nat):Int)).toNat=i+j:=by omega
 rw[this];exact bT O O
theorem zu(a b c:Int):tP a b c=some (decide (a>=b)&&decide (a<=c)):=by unfold tP;rw[iR,ae]
def iP(x y:bc):Prop:=x.aA<y.aA
structure mC(r:To):Prop where
 lo:0<=r.aN
 hi:r.aN<=16777215
 len:r.bu.length<=16
 inc:r.bu.Pairwise iP
 iB:∀x∈r.bu,r.aN<x.aA/\x.aA<=r.aN+15
 jR:∀x∈r.bu,x.aY.length<=200
theorem rJ{l:List bc}(h:l.Pairwise iP){i j:Nat}{x y:bc}(a:i<j)(f:l[i]?=some x)(g:l[j]?=some y):x.aA<y.aA:=by obtain⟨d,rfl⟩:=dl f;obtain⟨e,rfl⟩:=dl g;exact List.pairwise_iff_getElem.1 h i j d e a
theorem acv{α:Type}{l:List α}{i:Nat}{x:α}(a:l[i]?=some x):l.take (i+1)=l.take i++[x]:=by rw[mN,a];rfl
theorem Mc(t:Y):pG t=some (decide ((t.length:Int)>200)):=X
theorem Oq{r:To}(h:mC r):∀(k i:Nat)(z:Int),i+k=r.bu.length->r.aN<=z->(∀x,r.bu[i]?=some x->z<x.aA)->∃y,cM (vH r) k i z=some (.inl y)
 |0,i,z,_,_,_=>⟨z,X⟩
 |k+1,i,z,n,q,l=>by
  have hi:i<r.bu.length:=by omega
  have a:r.bu[i]?=some r.bu[i]:=by simp[hi]
  generalize r.bu[i]=x at a;have j:=l x a;have o:=h.iB x (du a);have p:=h.jR x (du a);have g:=h.lo;have f:=h.hi;obtain⟨y,m⟩:=Oq h k (i+1) x.aA O O λs d=>rJ h.inc (zc i) a d;refine⟨y,?_⟩;have e:vH r i z=some (.go x.aA):=by unfold vH;rw[cK,a,ae,bT (show-9223372036854775808<=r.aN+16 by omega) O,Mc,cm (show ¬x.aA<=z by omega),cm (show ¬x.aA>=r.aN+16 by omega),cm (show ¬(x.aY.length:Int)>200 by omega)];rfl
  unfold cM;rw[e,ae];exact m
theorem Ic{r:To}(h:mC r):zp r=some 0:=by have e:=h.lo;have f:=h.hi;have g:=h.len;obtain⟨y,d⟩:=Oq h r.bu.length 0 r.aN O (jz _) λx a=>(h.iB x (du a)).1;unfold zp;rw[zu,ae,c0 (show r.aN>=0 by omega),c0 (show r.aN<=16777215 by omega),cm (show ¬(r.bu.length:Int)>16 by omega)];simp only[je,fX,aS];rw[d];rfl
def o2(f:Int->Option Y)(a:Int)(l:List bc):Prop:=∀s t,(⟨s,t⟩:bc)∈l↔a<=s/\f s=some t
theorem Cc:∀{l m:List bc},l.Pairwise iP->m.Pairwise iP->(∀s t,(⟨s,t⟩:bc)∈l↔(⟨s,t⟩:bc)∈m)->l=m
 |[],[],_,_,_=>rfl
 |[],y::m,_,_,h=>by have:=(h y.aA y.aY).2 (by simp);cases this
 |x::l,[],_,_,h=>by have:=(h x.aA x.aY).1 (by simp);cases this
 |x::l,y::m,j,k,h=>by
  have a:=yW.1 j;have d:=yW.1 k;have i:x=y:=by
   rcases fM.1 ((h x.aA x.aY).1 (by simp))with e|e
   .exact e
   .rcases fM.1 ((h y.aA y.aY).2 (by simp))with e'|e'
    .exact e'.symm
    .have f:y.aA<x.aA:=d.1 _ e;have n:x.aA<y.aA:=a.1 _ e';omega
  subst i;congr 1;refine Cc a.2 d.2 λs t=>?_;constructor
  .intro g;rcases fM.1 ((h s t).1 (j7 _ g))with e|e
   .have f:x.aA<s:=a.1 _ g;rw[<-e]at f;simp at f
   .exact e
  .intro g;rcases fM.1 ((h s t).2 (j7 _ g))with e|e
   .have f:x.aA<s:=d.1 _ g;rw[<-e]at f;simp at f
   .exact e
theorem L6{l:List bc}{t:Int}(d:l.Pairwise iP)(H:l.length<=100)(K:∀x∈l,-1000000000<=x.aA/\x.aA<=1000000000)(P:-1000000000<=t/\t<=1000000000){fu:Nat}(M:110<fu):
 ∃(k:Nat)(b:Bool),Aw fu l t=some ((k:Int),b)/\k<=l.length/\(∀(j:Nat)x,j<k->l[j]?=some x->x.aA<t)/\(∀(j:Nat)x,k<=j->l[j]?=some x->t<=x.aA)/\(b=true↔∃x∈l,x.aA=t):=by
 have C:cc (cw (Ax l t) fu ((0:Int),(l.length:Int))) λo=>∃(k:Nat)(j:Int),o=.inl ((k:Int),j)/\k<=l.length/\(∀(j:Nat)x,j<k->l[j]?=some x->x.aA<t)/\(∀(j:Nat)x,k<=j->l[j]?=some x->t<=x.aA):=by
  refine lW (λz=>∃i j:Nat,z=((i:Int),(j:Int))/\i<=j/\j<=l.length/\(∀(k:Nat)x,k<i->l[k]?=some x->x.aA<t)/\∀(k:Nat)x,j<=k->l[k]?=some x->t<=x.aA) (λz=>(z.2-z.1).toNat)
   ⟨0,l.length,X,by omega,dG _,λk x h=>by omega,λk x h a=>by have:=(dl a).1;omega⟩ (by simp only;omega) ?_
  rintro _ ⟨i,j,rfl,s,g,p,F⟩;unfold Ax;simp only;rw[fc];refine⟨λq=>?_,λq=>?_⟩
  .have q:i<j:=by simpa using q
   have L:(i+j)/2<l.length:=by omega
   have a:l[(i+j)/2]?=some l[(i+j)/2]:=by simp[L]
   generalize l[(i+j)/2]=x at a;have B:=K x (du a);rw[XO O,cK,a,ae];unfold vI;rw[ae,bT (show-9223372036854775808<=x.aA-t by omega) O,fc];refine⟨λc=>?_,λc=>?_⟩
   .have c:x.aA-t<0:=by simpa using c
    rw[co];have D:ap ((((i+j)/2:Nat):Int)+1)=(((i+j)/2+1:Nat):Int):=by rw[bT O O];rfl
    refine kT.2 ⟨⟨(i+j)/2+1,j,by rw[D],by omega,g,λk y A f=>?_,F⟩,by rw[D];simp only;omega⟩;by_cases e:k=(i+j)/2
    .subst e;rw[a]at f;rw[<-dp f];omega
    .have:=rJ d (show k<(i+j)/2 by omega) f a;omega
   .have c:¬x.aA-t<0:=by simpa using c
    rw[co];refine kT.2 ⟨⟨i,(i+j)/2,X,by omega,by omega,p,λk y A f=>?_⟩,by simp only;omega⟩;by_cases e:k=(i+j)/2
    .subst e;rw[a]at f;rw[<-dp f];omega
    .have:=rJ d (show(i+j)/2<k by omega) a f;omega
  .have q:¬i<j:=by simpa using q
   have:i=j:=by omega
   subst this;rw[co];exact mW.2 ⟨i,_,X,g,p,F⟩
 obtain⟨o,e,k,j,rfl,s,g,p⟩:=C;unfold Aw;rw[e,jK];simp only;by_cases A:k<l.length
 .have a:l[k]?=some l[k]:=by simp[A]
  generalize l[k]=x at a;have B:=K x (du a);rw[c0 (show(k:Int)<l.length by omega),bG,cK,a,ae];unfold vI;rw[ae,ae,bT (show-9223372036854775808<=x.aA-t by omega) O];refine⟨k,x.aA-t==0,X,s,g,p,?_⟩;rw[gO];constructor
  .intro q;exact⟨x,du a,by omega⟩
  .rintro⟨y,f,q⟩;obtain⟨m,n⟩:=ji f;rcases qv m k with c|c|c
   .have:=g m y c n;omega
   .subst c;rw[a]at n;rw[dp n];omega
   .have:=rJ d c a n;have:=p k x (dG _) a;omega
 .rw[cm (show ¬(k:Int)<l.length by omega),aS];refine⟨k,false,X,s,g,p,?_⟩;constructor
  .intro q;cases q
  .rintro⟨y,f,q⟩;obtain⟨m,n⟩:=ji f;have:=(dl n).1;have:=g m y O n;omega
def tl(f:Int->Option Y)(a:Int)(k:Nat):List Y:=(List.range k).map λj:Nat=>(f (a+j)).getD []
theorem On{f:Int->Option Y}{a:Int}{k:Nat}:tl f a (k+1)=tl f a k++[(f (a+k)).getD []]:=by unfold tl;rw[tE,kS];rfl
theorem sy{f:Int->Option Y}{a:Int}{k:Nat}:(tl f a k).length=k:=by simp[tl]
theorem Ks{f:Int->Option Y}{N:Int}{E:List bc}{fu:Nat}(W:0<=N/\N<=1000000000)(Q:E.Pairwise iP)(S:o2 f (N+1) E)(H:E.length<=16)(P:(f N).isSome=true)(hf:40<fu):
 ∃(k:Nat)(d:List bc),cw rW fu ((⟨N+1,E⟩:To),tl f N 1,E)=some (.inl ((⟨N+k,d⟩:To),tl f N k,d))/\(∀j:Nat,j<k->(f (N+j)).isSome=true)/\f (N+k)=none/\d.Pairwise iP/\o2 f (N+k) d/\d.length<=16/\k<=17/\∀x∈d,x∈E:=by
 have C:cc (cw rW fu ((⟨N+1,E⟩:To),tl f N 1,E)) λo=>∃(k:Nat)(d:List bc),o=.inl ((⟨N+k,d⟩:To),tl f N k,d)/\(∀j:Nat,j<k->(f (N+j)).isSome=true)/\f (N+k)=none/\d.Pairwise iP/\o2 f (N+k) d/\d.length<=16/\k<=17/\∀x∈d,x∈E:=by
  refine lW (λz=>∃(k:Nat)(d:List bc)(y:List bc),z=((⟨N+k,y⟩:To),tl f N k,d)/\(∀j:Nat,j<k->(f (N+j)).isSome=true)/\d.Pairwise iP/\o2 f (N+k) d/\(d.length+k<=E.length+1/\1<=k)/\∀x∈d,x∈E) (λz=>z.2.2.length)
   ⟨1,E,E,X,λj T=>?_,Q,S,⟨dG _,dG _⟩,λx h=>h⟩ (by simp only;omega) ?_
  .have:j=0:=by omega
   subst this;simpa using P
  .rintro _ ⟨k,d,y,rfl,q,D,l,A,F⟩;unfold rW;simp only
   have stop:f (N+k)=none->cc (some (di.brk (({(⟨N+k,y⟩:To)with bu:=d}:To),tl f N k,d)):Option (di (To×List Y×List bc) (To×List Y×Int))) (cc.sQ (λK=>(∃(k:Nat)(d:List bc)(y:List bc),K=((⟨N+k,y⟩:To),tl f N k,d)/\(∀j:Nat,j<k->(f (N+j)).isSome=true)/\d.Pairwise iP/\o2 f (N+k) d/\(d.length+k<=E.length+1/\1<=k)/\∀x∈d,x∈E)/\K.2.2.length<d.length)
    (λs=>∃(k:Nat)(d:List bc),(Sum.inl s:(To×List Y×List bc) ⊕ (To×List Y×Int))=.inl ((⟨N+k,d⟩:To),tl f N k,d)/\(∀j:Nat,j<k->(f (N+j)).isSome=true)/\f (N+k)=none/\d.Pairwise iP/\o2 f (N+k) d/\d.length<=16/\k<=17/\∀x∈d,x∈E)
    (λt=>∃(k:Nat)(d:List bc),(Sum.inr t:(To×List Y×List bc) ⊕ (To×List Y×Int))=.inl ((⟨N+k,d⟩:To),tl f N k,d)/\(∀j:Nat,j<k->(f (N+j)).isSome=true)/\f (N+k)=none/\d.Pairwise iP/\o2 f (N+k) d/\d.length<=16/\k<=17/\∀x∈d,x∈E)):=λB=>co.2 (mW.2 ⟨k,d,X,q,B,D,l,by omega,by omega,F⟩)
   cases d with
   |nil=>
    rw[show decide ((([]:List bc).length:Int)>0)=false from X,aS,ae,aS];refine stop ?_
    cases m:f (N+k)with
    |none=>rfl
    |some t=>have:=(l _ _).2 ⟨jz _,m⟩;cases this
   |cons x g=>
    have i:=yW.1 D;have hx:(x::g)[0]?=some x:=X;have el:bh (x::g) (0:Int)=some x:=cK (x::g) 0;rw[c0 (show((x::g).length:Int)>0 by simp only[eB];omega),bG,el,ae,ae,fc];have p:=(l x.aA x.aY).1 (by simp);refine⟨λc=>?_,λc=>?_⟩
    .have c:x.aA=N+k:=by simpa using c
     have m:f (N+k)=some x.aY:=by rw[<-c];exact p.2
     have M:bY (x::g) 1 ((x::g).length:Int)=some g:=by unfold bY;rw[bE (by simp;omega)];simp
     rw[ae,dm (by have:=A.1;rw[sy];simp at this ⊢;omega),ae,M,ae,lU,co,bT (show-9223372036854775808<=N+(k:Int)+1 by omega) (by have:=A.1;simp at this;omega)];refine kT.2 ⟨⟨k+1,g,g,?_,λj T=>?_,i.2,λs t=>?_,⟨by have:=A.1;simp at this;omega,by omega⟩,λz V=>F z (j7 _ V)⟩,by simp⟩
     .rw[On,m];simp;omega
     .by_cases e:j=k
      .subst e;rw[m];rfl
      .exact q j O
     .constructor
      .intro n;have L:x.aA<s:=i.1 _ n;exact⟨by push_cast;omega,((l s t).1 (j7 _ n)).2⟩
      .rintro⟨a,b⟩;have n:=(l s t).2 ⟨by push_cast at a;omega,b⟩;rcases fM.1 n with e|e
       .rw[<-e]at c;simp only at c;push_cast at a;omega
       .exact e
    .have c:¬x.aA=N+k:=by simpa using c
     refine stop ?_
     cases m:f (N+k)with
     |none=>rfl
     |some t=>
      have n:=(l _ _).2 ⟨jz _,m⟩;rcases fM.1 n with e|e
      .rw[<-e]at c;exact absurd X c
      .have L:x.aA<N+k:=i.1 _ e;have:=p.1;omega
 obtain⟨o,e,k,d,rfl,q⟩:=C;exact⟨k,d,e,q⟩
theorem LP{l:List bc}{p:bc}{k:Nat}(h:l.Pairwise iP)(n:k<=l.length)(i:∀(j:Nat)x,j<k->l[j]?=some x->x.aA<p.aA)(m:∀(j:Nat)x,k<=j->l[j]?=some x->p.aA<x.aA):
 (l.take k++[p]++l.drop k).Pairwise iP/\∀x,x∈l.take k++[p]++l.drop k↔x∈l\/x=p:=by
 have hd:(l.take k++l.drop k).Pairwise iP:=by rw[eQ];exact h
 have hd:=GK.1 hd;refine⟨?_,λx=>?_⟩
 .rw[fL,GK];refine⟨hd.1,?_,λa g b d=>?_⟩
  .rw[List.singleton_append,yW];refine⟨λb d=>?_,hd.2.1⟩;obtain⟨j,e⟩:=ji d;rw[tK]at e;exact m _ b O e
  .rcases fx.1 d with d|d
   .rw[ia.1 d];obtain⟨j,e⟩:=ji g;have f:j<k:=by have:=(dl e).1;simp at this;omega
    rw[tL,bE f]at e;exact i j a f e
   .exact hd.2.2 a g b d
 .have:x∈l↔x∈l.take k\/x∈l.drop k:=by
   conv=>lhs;rw[<-eQ k l]
   exact fx
  rw[this,fx,fx,ia];constructor
  .rintro((a|a)|a)
   .exact .inl (.inl a)
   .exact .inr a
   .exact .inl (.inr a)
  .rintro((a|a)|a)
   .exact .inl (.inl a)
   .exact .inr a
   .exact .inl (.inr a)
theorem FH{f:Int->Option Y}{N:Int}{k k':Nat}(e:∀j:Nat,j<k->(f (N+j)).isSome=true)(g:f (N+k)=none)(a:∀j:Nat,j<k'->(f (N+j)).isSome=true)(d:f (N+k')=none):k=k':=by
 rcases qv k k' with c|c|c
 .have:=a k c;rw[g]at this;cases this
 .exact c
 .have:=e k' c;rw[d]at this;cases this
structure jH(r:To)(p:bc)(o:To)(ts:List Y):Prop where
 next:o.aN=r.aN+ts.length
 inc:o.bu.Pairwise iP
 iB:∀x∈o.bu,o.aN<x.aA/\x.aA<=r.aN+15/\(x∈r.bu\/x=p)
 jR:∀x∈o.bu,x.aY.length<=200
 len:o.bu.length<=16
 aF:∀(i:Nat)t,ts[i]?=some t->(⟨r.aN+i,t⟩:bc)∈r.bu\/(⟨r.aN+i,t⟩:bc)=p
theorem Om{f:Int->Option Y}{a:Int}{k i:Nat}{t:Y}(h:(tl f a k)[i]?=some t)(d:∀j:Nat,j<k->(f (a+j)).isSome=true):f (a+i)=some t:=by
 have hi:i<k:=by have:=(dl h).1;rwa[sy]at this
 unfold tl at h;rw[jh,List.getElem?_range hi]at h;simp only[tI,mi]at h;have:=d i hi
 cases e:f (a+i)with
 |none=>rw[e]at this;cases this
 |some u=>rw[e]at h;simp at h;rw[h]
def FJ(l:List bc)(s:Int):Option Y:=(l.find? λx=>x.aA==s).map (·.aY)
theorem Vg{l:List bc}(h:l.Pairwise iP)(s:Int)(t:Y):FJ l s=some t↔(⟨s,t⟩:bc)∈l:=by
 unfold FJ;constructor
 .intro q;obtain⟨y,a,rfl⟩:=Option.map_eq_some_iff.1 q;have:=List.find?_some a;have e:y.aA=s:=by simpa using this
  subst e;exact List.mem_of_find?_eq_some a
 .intro g
  cases a:l.find? λx=>x.aA==s with
  |none=>have:=List.find?_eq_none.1 a _ g;simp at this
  |some y=>
   have e:y.aA=s:=by simpa using List.find?_some a
   have f:=List.mem_of_find?_eq_some a;obtain⟨i,hi⟩:=ji g;obtain⟨j,d⟩:=ji f;rcases qv i j with c|c|c
   .have:=rJ h c hi d;simp only at this;omega
   .subst c;rw[hi]at d;rw[<-dp d];rfl
   .have:=rJ h c d hi;simp only at this;omega
theorem Xe{l:List bc}{a:Int}(h:l.Pairwise iP)(g:∀x∈l,a<x.aA/\x.aA<=a+15):l.length<=15:=by
 have f:∀(i:Nat)x,l[i]?=some x->a+1+i<=x.aA:=by
  intro i
  induction i with
  |zero=>intro x e;have:=g x (du e);push_cast;omega
  |succ i j=>
   intro x e;have hi:i<l.length:=by have:=(dl e).1;omega
   have d:l[i]?=some l[i]:=by simp[hi]
   have:=j _ d;have:=rJ h (zc i) d e
   push_cast;omega
 rcases pr 15 l.length with c|c
 .have d:l[15]?=some l[15]:=by simp[c]
  have:=f 15 _ d;have:=g _ (du d);omega
 .exact c
theorem BM{l:List bc}(h:l.length<=2^40):wS l=some l:=by unfold wS;rw[dm (by simpa using h)];rfl
theorem acq{r:To}{p:bc}{fu:Nat}(dL:200<fu)(h:mC r)(hp:0<=p.aA/\p.aA<=16777214)(ht:p.aY.length<=200):
 ∃o ts,nE fu r p=some (o,ts,0)/\jH r p o ts/\(p.aA=r.aN->1<=ts.length)/\ts.length<=17:=by
 have hN:0<=r.aN/\r.aN<=1000000000:=by have:=h.lo;have:=h.hi;omega
 have VL:=h.hi;have T:ap (r.aN+16)=r.aN+16:=bT O O;have g:=h.len;obtain⟨k,b,eb,hk,M,P,L⟩:=L6 (t:=p.aA) (fu:=fu) h.inc O (λx d=>by have:=h.iB x d;omega) O O;unfold nE;rw[Ic h,ae];simp only[iW,aS];rw[zu,ae,c0 (show p.aA>=0 by omega),c0 (show p.aA<=16777214 by omega)];unfold pG;simp only[je,fX,aS,ae];rw[cm (show ¬(p.aY.length:Int)>200 by omega),aS,BM O,ae];simp only[Let];rw[eb,ae,or_some,ae,or_some,ae,T];by_cases m:r.aN<=p.aA/\p.aA<r.aN+16/\b=false
 .obtain⟨i1,i2,rfl⟩:=m;rw[cm (show ¬p.aA<r.aN by omega),cm (show ¬p.aA>=r.aN+16 by omega)];simp only[oE,aS];have Q:∀t,(⟨p.aA,t⟩:bc) ∉ r.bu:=λt q=>by
   have:=L.2 ⟨_,q,X⟩;cases this
  by_cases c:p.aA>r.aN
  .rw[c0 c,bG];have ei:uD r.bu (k:Int) [p]=some (r.bu.take k++[p]++r.bu.drop k):=by
    unfold uD;have K:∃x,bY r.bu (k:Int) (r.bu.length:Int)=some x:=⟨_,by unfold bY;rw[bE O]⟩
    obtain⟨x,K⟩:=K;rw[K,ae,dm (by simp;omega),ae,cP]
   obtain⟨n1,S⟩:=LP (p:=p) h.inc hk M (λj x hj d=>by
    have:=P j x hj d;have yQ:x.aA≠p.aA:=λe=>by have:=L.2 ⟨x,du d,e⟩;cases this
    omega)
   rw[ei,ae];have z:∀x∈r.bu.take k++[p]++r.bu.drop k,r.aN<x.aA/\x.aA<=r.aN+15:=λx d=>by
    rcases(S x).1 d with y|y
    .exact h.iB x y
    .subst y;omega
   refine⟨⟨r.aN,r.bu.take k++[p]++r.bu.drop k⟩,[],X,⟨by simp,n1,λx d=>⟨(z x d).1,(z x d).2,(S x).1 d⟩,λx d=>?_,?_,λi t hi=>by simp at hi⟩,λe=>by omega,by simp⟩
   .rcases(S x).1 d with y|y
    .exact h.jR x y
    .subst y;exact ht
   .have:=Xe n1 z;simp only;omega
  .have n:p.aA=r.aN:=by omega
   rw[cm c,aS,bT (show-9223372036854775808<=r.aN+1 by omega) O];obtain⟨f,W⟩:∃f:Int->Option Y,f=λs=>if s=p.aA then some p.aY else FJ r.bu s:=⟨_,X⟩
   have B:∀s t,f s=some t↔(⟨s,t⟩:bc)∈r.bu\/(⟨s,t⟩:bc)=p:=λs t=>by
    rw[W];simp only;by_cases e:s=p.aA
    .subst e;rw[bE X];constructor
     .intro q;right;rw[<-dp q]
     .rintro(q|q)
      .exact absurd q (Q t)
      .rw[<-q]
    .rw[ca e,Vg h.inc];constructor
     .exact .inl
     .rintro(q|q)
      .exact q
      .rw[<-q]at e;exact absurd X e
   have l:f r.aN=some p.aY:=by rw[W];simp only;rw[bE n.symm]
   obtain⟨A,C,c1,c2,V,c4,c5,c6,c7,F⟩:=Ks (f:=f) (N:=r.aN) (E:=r.bu) (fu:=fu) hN h.inc (λs t=>by
    rw[B s t];constructor
    .intro x;have:=h.iB _ x;simp only at this;exact⟨by omega,.inl x⟩
    .rintro⟨a,x|x⟩
     .exact x
     .rw[<-x]at n;simp only at n;omega) g (by rw[l];rfl) O
   have H:tl f r.aN 1=[p.aY]:=by simp[tl,l]
   rw[H]at c1;have D:cw rW fu (({To.zero with aN:=r.aN+1,bu:=r.bu}:To),([p.aY]:List Y),r.bu)=some (.inl ((⟨r.aN+A,C⟩:To),tl f r.aN A,C)):=c1;rw[D,jK];simp only;rw[BM O,ae];have hq:1<=A:=by
    rcases rM A with e|e
    .subst e;simp[l]at V
    .exact e
   refine⟨⟨r.aN+A,C⟩,tl f r.aN A,X,⟨by rw[sy],c4,λx d=>?_,λx d=>h.jR x (F x d),c6,λi t hi=>(B _ _).1 (Om hi c2)⟩,λ_=>by rw[sy];exact hq,by rw[sy];exact c7⟩;have a1:=(c5 x.aA x.aY).1 d;have a2:=h.iB x (F x d);have a3:x.aA≠r.aN+A:=λy=>by have:=a1.2;rw[y,V]at this;cases this
   exact⟨by simp only;omega,a2.2,.inl (F x d)⟩
 .have H:((decide (p.aA<r.aN)||decide (p.aA>=r.aN+16))||b)=true:=by
   cases b
   .simp only[zj,mQ,eW];have:¬(r.aN<=p.aA/\p.aA<r.aN+16):=λx=>m ⟨x.1,x.2,X⟩;omega
   .simp
  rw[H,bG];refine⟨⟨r.aN,r.bu⟩,[],X,⟨by simp,h.inc,λx d=>?_,h.jR,g,λi t hi=>by simp at hi⟩,λe=>?_,by simp⟩
  .have:=h.iB x d;exact⟨this.1,this.2,.inl d⟩
  .cases b with
   |false=>exact absurd ⟨by omega,by omega,X⟩ m
   |true=>obtain⟨x,d,q⟩:=L.1 X;have:=h.iB x d;omega
def fj(c:UInt8):Bool:=decide (48<=c.toNat)&&decide (c.toNat<=57)
theorem qs{c:UInt8}:fj c=true↔48<=c.toNat/\c.toNat<=57:=by unfold fj;simp
def cT:Int->Y->Int
 |z,[]=>z
 |z,c::t=>cT (z*10+c.toNat-48) t
theorem Fz:∀(t:Y)(z:Int)(k:Nat),0<=z->z<10^k->t.all fj=true->0<=cT z t/\cT z t<10^(k+t.length)
 |[],z,k,a,d,_=>⟨a,d⟩
 |c::t,z,k,a,d,h=>by
  rw[nB,eu,qs]at h;have e:(10:Int)^(k+1)=10^k*10:=by rw[Int.pow_succ]
  have:=Fz t (z*10+c.toNat-48) (k+1) O (by rw[e];omega) h.2;rw[show k+1+t.length=k+(c::t).length by simp;omega]at this;exact this
theorem Fb{t:Y}{i:Nat}{c:UInt8}(h:t[i]?=some c):bh (Y.bytes t) (i:Int)=some c.toBitVec:=by rw[cK];unfold Y.bytes;rw[jh,h];rfl
theorem drop_at{α:Type}{t:List α}{i:Nat}{c:α}(h:t[i]?=some c):t.drop i=c::t.drop (i+1):=by obtain⟨a,rfl⟩:=dl h;exact jg a
theorem Oe{c:UInt8}(h:fj c=true):((c.toBitVec-(48:BitVec 8)).toNat:Int)=(c.toNat:Int)-48:=by have h:=qs.1 h;have e:c.toBitVec.toNat=c.toNat:=X;rw[BitVec.toNat_sub,e];have:=c.toNat_lt;have a:(48:BitVec 8).toNat=48:=X;rw[a];omega
theorem Fq{t:Y}:∀(k i:Nat)(z:Int)(b:Nat),i+k=t.length->i<=b->0<=z->z<10^b->b+k<=12->(t.drop i).all fj=true->
 cM (yU t) k i z=some (.inl (cT z (t.drop i)))
 |0,i,z,b,h,_,_,_,_,_=>by rw[ie O];rfl
 |k+1,i,z,b,h,m,g,j,l,a=>by
  have hi:i<t.length:=by omega
  have d:t[i]?=some t[i]:=by simp[hi]
  generalize t[i]=c at d;rw[drop_at d,nB,eu]at a;rw[drop_at d];have n:(10:Int)^b<=10^11:=by
   have:(10:Nat)^b<=10^11:=lN O O
   exact_mod_cast this
  have e:(10:Int)^(b+1)=10^b*10:=by rw[Int.pow_succ]
  unfold cM yU;rw[Fb d,ae,Oe a.1,show((9:BitVec 8).toNat:Int)=9 from X];have f:=qs.1 a.1;rw[cm (show ¬(c.toNat:Int)-48>9 by omega),aS,bT (show-9223372036854775808<=z*10 by omega) O,bT (show-9223372036854775808<=z*10+((c.toNat:Int)-48) by omega) O];rw[show z*10+((c.toNat:Int)-48)=z*10+(c.toNat:Int)-48 by omega];exact Fq k (i+1) _ (b+1) O O O (by rw[e];omega) O a.2
theorem J0{s:Y}(j:1<=s.length)(m:s.length<=9)(f:s.all fj=true):lX s=some (cT 0 s,()):=by
 obtain⟨c,a,rfl⟩:∃c a,s=c::a:=by
  cases s with
  |nil=>simp at j
  |cons c a=>exact⟨c,a,X⟩
 have k:fj c=true:=by rw[nB,eu]at f;exact f.1
 have l:=qs.1 k;have i:c.toBitVec.toNat=c.toNat:=X;have el:bh (c::a) (0:Int)=some c:=cK (c::a) 0;have d:((c.toBitVec.toNat:Int)==((45:BitVec 8).toNat:Int))=false:=by rw[i,show((45:BitVec 8).toNat:Int)=45 from X];simp;omega
 have e:((c.toBitVec.toNat:Int)==((43:BitVec 8).toNat:Int))=false:=by rw[i,show((43:BitVec 8).toNat:Int)=43 from X];simp;omega
 have g:(Y.bytes (c::a)).length=(c::a).length:=by simp[Y.bytes]
 have h:=Fq (t:=c::a) (c::a).length 0 0 0 O O O O O (by simpa using f);rw[eX]at h;unfold lX yT;rw[c0 (show(0:Int)<((c::a).length:Int) by omega),bG,c0 (show((c::a).length:Int)<19 by omega),ae,bG,el,ae,d,aS,ae,e,ae,aS,jK,dm (by simp only[iX];omega),ae,g,h,jK,ae,d,aS,ae,ae]
theorem KJ:∀(a b:Y)(z:Int),cT z (a++b)=cT (cT z a) b
 |[],b,z=>rfl
 |c::a,b,z=>by rw[rT];exact KJ a b _
theorem KG{u:Nat}(h:u<10):fj (UInt8.ofNat (48+u))=true:=by rw[qs];simp;omega
theorem KH{u:Nat}(h:u<10):((UInt8.ofNat (48+u)).toNat:Int)=48+u:=by simp;omega
theorem Kz:∀(k n:Nat),n<10^k->1<=k->1<=(Lib.decDigits n).length/\(Lib.decDigits n).length<=k/\(Lib.decDigits n).all fj=true/\cT 0 (Lib.decDigits n)=n
 |0,n,h,i=>by omega
 |k+1,n,h,i=>by
  rw[Lib.decDigits];split
  .rename_i d;refine⟨by simp,by simp,?_,?_⟩
   .rw[nB,KG d];rfl
   .show 0*10+((UInt8.ofNat (48+n)).toNat:Int)-48=n;rw[KH d];omega
  .rename_i d;have a:1<=k:=by
    rcases rM k with e|e
    .subst e;simp at h;omega
    .exact e
   obtain⟨j,l,f,g⟩:=Kz k (n/10) (by rw[pu]at h;omega) a;have hd:n%10<10:=tG _ O;refine⟨by rw[cH];simp,by rw[cH];simp only[eB,iX];omega,?_,?_⟩
   .rw[jf,f,nB,KG hd];rfl
   .rw[KJ,g];show((n/10:Nat):Int)*10+((UInt8.ofNat (48+n%10)).toNat:Int)-48=n;rw[KH hd];omega
def d9(n:Int):Y:=Lib.itoa n
theorem po{n:Int}(h:0<=n)(i:n<1000000000):strconv_Itoa n=some (d9 n)/\1<=(d9 n).length/\(d9 n).length<=9/\(d9 n).all fj=true/\lX (d9 n)=some (n,()):=by
 obtain⟨m,rfl⟩:=iq h;have e:d9 (m:Int)=Lib.decDigits m:=by unfold d9 Lib.itoa;rw[ca O];simp
 obtain⟨a,d,f,g⟩:=Kz 9 m O O;refine⟨?_,by rw[e];exact a,by rw[e];exact d,by rw[e];exact f,?_⟩
 .unfold strconv_Itoa oA;rw[bE O];rfl
 .rw[e,J0 a d f,g]
theorem LN:∀(d t:Y),d.all fj=true->Lib.indexByte (d++58::t) 58=(d.length:Int)
 |[],t,_=>by show Lib.indexByte (58::t) 58=0;unfold Lib.indexByte;rw[bE ab]
 |c::d,t,h=>by
  rw[nB,eu]at h;have g:=qs.1 h.1;have a:¬(c==58)=true:=λq=>by
   have:c=58:=by simpa using q
   subst this;have:(58:UInt8).toNat=58:=X;omega
  have f:=LN d t h.2;rw[rT];unfold Lib.indexByte;rw[ca a,f];have e:¬((d.length:Int)==-1)=true:=λq=>by have:=gO.1 q;omega
  rw[ca e,eB];omega
theorem Ky{d t:Y}(k:1<=d.length)(hd:d.all fj=true)(l:(d++58::t).length<=2^40):nb (d++58::t) ([58]:Y)=some (d,t,true):=by
 have e:¬(([58]:Y)=d++58::t):=λq=>by have:=congrArg List.length q;simp at this;omega
 have f:((([58]:Y).length:Int)==0)=false:=X;have g:((([58]:Y).length:Int)==1)=true:=X;have h:bh ([58]:Y) 0=some 58:=X;have hi:Dw (d++58::t) ((58:UInt8).toBitVec)=(d.length:Int):=LN d t hd;have a:(d++58::t).length=d.length+1+t.length:=by simp;omega
 have j:rK (d++58::t) ([58]:Y)=some (d.length:Int):=by unfold rK vt;rw[f,aS,ae,cm e,aS,g,bG,h,ae,ae,hi]
 have c1:bY (d++58::t) 0 (d.length:Int)=some d:=by unfold bY;rw[bE O];simp
 have c2:bY (d++58::t) ((d.length+1:Nat):Int) ((d++58::t).length:Int)=some t:=by unfold bY;rw[bE O];simp only[cP];rw[a,show d++58::t=(d++[58])++t by simp,Cw (by simp),gN O]
 have i:(([58]:Y).length:Int)=1:=X;unfold nb Cf;rw[j,ae,c0 (show(d.length:Int)>=0 by omega),bG,c1,ae,i,bT (show-9223372036854775808<=(d.length:Int)+1 by omega) O,show(d.length:Int)+1=((d.length+1:Nat):Int) by rfl,c2,ae,ae]
structure AW where
 aO:bB
 ps:List bw
 ord:List (Int×Int×Y)
 ah:List aV
def dj(m:Int×Int×Y):Y:=(((d9 m.1++([58]:Y))++d9 m.2.1)++([58]:Y))++m.2.2
def AW.w(a:AW):aZ:=⟨a.aO,a.ps,a.ord.map dj,a.ah.map gl⟩
def G3(m:Int×Int×Y):Prop:=(0<=m.1/\m.1<=5)/\(0<=m.2.1/\m.2.1<=16777300)/\m.2.2.length<=150
theorem BR{m:Int×Int×Y}(h:G3 m):(dj m).length<=170:=by obtain⟨_,_,a,_⟩:=po h.1.1 (show m.1<1000000000 by have:=h.1.2;omega);obtain⟨_,_,d,_⟩:=po h.2.1.1 (show m.2.1<1000000000 by have:=h.2.1.2;omega);have:=h.2.2;unfold dj;simp only[cH,eB,iX];omega
structure GP(B:Nat)(x:bw):Prop where
 bq:x.bq.length<=B
 jR:∀s∈x.bq,s.aY.length<=150
 base:0<=x.aF.bI/\x.aF.bI+x.aF.aR.length<=16777215
 late:x.aF.aR.length<=16/\∀t∈x.aF.aR,t.length<=150
 to:mC x.to/\∀p∈x.to.bu,p.aA<=16777214/\∃m,G3 m/\p.aY=dj m
 iJ:mC x.bN/\∀p∈x.bN.bu,p.aA<=16777214/\p.aY.length<=150
def GN(n:aV):Prop:=p6 n/\(n.aX=1->n.aY.length<=150)/\(n.aX=2->∃m,G3 m/\n.aY=dj m)
structure GA(B:Nat)(a:AW):Prop where
 n:1<=a.ps.length/\a.ps.length<=6
 ps:∀x∈a.ps,GP B x
 ord:a.ord.length<=B/\∀m∈a.ord,G3 m
 ah:a.ah.length<=60/\∀n∈a.ah,GN n
 num:0<=a.aO.ce/\a.aO.ce<=16777215
theorem GP.mono{B C:Nat}{x:bw}(h:GP B x)(a:B<=C):GP C x:=⟨kC h.bq a,h.jR,h.base,h.late,h.to,h.iJ⟩
theorem GA.mono{B C:Nat}{a:AW}(h:GA B a)(d:B<=C):GA C a:=⟨h.n,λx e=>(h.ps x e).mono d,⟨kC h.ord.1 d,h.ord.2⟩,h.ah,h.num⟩
theorem GA.set{B:Nat}{a:AW}(h:GA B a)(i:Nat){x:bw}(d:GP B x):GA B {a with ps:=a.ps.set i x}:=by
 refine⟨by simpa using h.n,λy e=>?_,h.ord,h.ah,h.num⟩;rcases qu e with q|q
 .exact h.ps y q
 .exact q▸d
theorem AZ(a b c:Int):re a b c=some (decide (a>=b)&&decide (a<=c)):=by unfold re;rw[iR,ae]
def dt(a:AW)(p:Int):Bool:=decide (p>=0)&&decide (p<=(a.ps.length:Int)-1)
theorem fN{a:AW}{p:Int}:dt a p=true↔∃i:Nat,p=(i:Int)/\i<a.ps.length:=by
 unfold dt;rw[eu,eW,eW];constructor
 .rintro⟨d,e⟩;obtain⟨i,rfl⟩:=iq d;exact⟨i,X,by omega⟩
 .rintro⟨i,rfl,h⟩;exact⟨by omega,by omega⟩
def fg(m:BitVec 8)(i:Nat):Bool:=(((m>>>i)&&&(1:BitVec 8)).toNat:Int)==((1:BitVec 8).toNat:Int)
def act(a:AW)(p:Int):Bool:=dt a p&&fg a.aO.bJ p.toNat&&(match a.ps[p.toNat]? with|some x=>!x.eE|none=>false)
def gm(a:AW)(p:Int):Int:=bif !dt a p then 1 else bif !act a p then 11 else 0
theorem vF{a:AW}(f:1<=a.ps.length/\a.ps.length<=6)(p:Int):ra a.w p=some (bif !dt a p then 1 else 0):=by unfold ra;have e:a.w.all=a.ps:=X;rw[e,AZ,ae,bT O O];have d:(decide (p>=0)&&decide (p<=(a.ps.length:Int)-1))=dt a p:=X;rw[d];cases dt a p<;>rfl
theorem og(i:Nat):cnt (i:Int)=some i:=by unfold cnt;rw[bE O];rfl
theorem xW{a:AW}(j:1<=a.ps.length/\a.ps.length<=6)(p:Int):q9 a.w p=some (act a p):=by
 unfold q9;have e:a.w.all=a.ps:=X;rw[e,AZ,ae,bT O O];have f:(decide (p>=0)&&decide (p<=(a.ps.length:Int)-1))=dt a p:=X;rw[f];unfold act
 cases g:dt a p with
 |false=>rfl
 |true=>
  obtain⟨i,rfl,hi⟩:=fN.1 g;have h:a.ps[i]?=some a.ps[i]:=by simp[hi]
  rw[bG,og,ae,ae,cK,cP,h];have d:((((a.w.aO.bJ>>>i)&&&(1:BitVec 8)).toNat:Int)==((1:BitVec 8).toNat:Int))=fg a.aO.bJ i:=X;rw[d];cases fg a.aO.bJ i<;>rfl
theorem OM{a:AW}(d:1<=a.ps.length/\a.ps.length<=6)(p:Int):xu a.w p=some (gm a p):=by
 unfold xu;rw[vF d,ae,xW d];unfold gm;cases dt a p
 .rfl
 .cases act a p<;>rfl
theorem oW{a:AW}{p:Int}(h:(gm a p !=0)=false):∃(i:Nat)(x:bw),p=(i:Int)/\a.ps[i]?=some x/\act a p=true:=by
 unfold gm at h
 cases d:dt a p with
 |false=>rw[d]at h;cases h
 |true=>
  rw[d]at h;obtain⟨i,rfl,hi⟩:=fN.1 d
  cases e:act a (i:Int)with
  |false=>rw[e]at h;cases h
  |true=>exact⟨i,a.ps[i],X,by simp[hi],X⟩
def sq(v:bB):Int:=((q6 v).getD ((0:Int),(0:Int))).1
theorem OC(v:bB):∃c,q5 v=some c:=by unfold q5 sE;rw[or_some,ae,or_some,ae,ae,or_some,ae];cases (((decide (v.ce<0)||decide (v.ce>16777215))||((v.bJ.toNat:Int)==((0:BitVec 8).toNat:Int)))||(((v.bJ>>>6).toNat:Int)!=((0:BitVec 8).toNat:Int)))<;>exact⟨_,X⟩
theorem vJ{α:Type}{l:List α}{i:Nat}(h:i<l.length):bh l (i:Int)=some l[i]:=by rw[cK];simp[h]
set_option maxRecDepth 20000 in
theorem Vc(v:bB):∃r,q6 v=some r:=by
 unfold q6;obtain⟨c,e⟩:=OC v;rw[e,ae]
 cases (c !=0)with
 |true=>exact⟨_,X⟩
 |false=>unfold vN;rw[aS,vJ (by have:=v.bJ.isLt;exact this),ae,ae];exact⟨_,X⟩
theorem Av(w:aZ):rc w=some (sq w.aO):=by unfold rc sq;obtain⟨r,e⟩:=Vc w.aO;rw[e,ae];rfl
def mu(t:aV):Bool:=match nT t with|some c=>c==0|none=>false
theorem Hf{t:aV}:mu t=true↔p6 t:=by obtain⟨c,e,a⟩:=oe t;unfold mu;rw[e,gO];exact a
def jB(v:bB)(k f t s:Int)(x:Y):aV:={aV.zero with aX:=k,aJ:=f,To:=t,bB:=v.ce,aA:=s,aY:=x}
def dO(a:AW)(k f t s:Int)(x:Y):AW:=bif mu (jB a.aO k f t s x)&&decide (a.ah.length<60)then{a with ah:=a.ah++[jB a.aO k f t s x]}else a
theorem sw{a:AW}(h:a.ah.length<=60)(k f t s:Int)(x:Y):rb a.w k f t s x=some ((dO a k f t s x).w.ah,(dO a k f t s x).w):=by
 unfold rb;have e:({aV.zero with aX:=k,aJ:=f,To:=t,bB:=a.w.aO.ce,aA:=s,aY:=x}:aV)=jB a.aO k f t s x:=X;have el:(a.w.ah.length:Int)=(a.ah.length:Int):=by show((a.ah.map gl).length:Int)=_;rw[fk]
 rw[e,el];unfold dO;by_cases d:p6 (jB a.aO k f t s x)
 .rw[YD d,ae,Hf.2 d];simp only[mP,bG,ae,kR];by_cases i:a.ah.length<60
  .rw[c0 (show(a.ah.length:Int)<60 by omega),c0 i,bG,bG,dm (by show(a.ah.map gl).length+1<=_;rw[fk];omega),ae];refine congrArg some ?_;have g:(a.ah++[jB a.aO k f t s x]).map gl=a.w.ah++[gl (jB a.aO k f t s x)]:=by rw[kS];rfl
   refine gu g.symm ?_;show(⟨a.aO,a.ps,a.ord.map dj,a.w.ah++[gl (jB a.aO k f t s x)]⟩:aZ)=⟨a.aO,a.ps,a.ord.map dj,(a.ah++[jB a.aO k f t s x]).map gl⟩
   rw[g]
  .rw[cm (show ¬(a.ah.length:Int)<60 by omega),cm i,aS,aS]
 .obtain⟨c,j,l⟩:=YC d;have:mu (jB a.aO k f t s x)=false:=by rw[rR];exact λq=>d (Hf.1 q)
  rw[j,ae,this,l];rfl
theorem HU(a:AW)(k f t s:Int)(x:Y):(dO a k f t s x).aO=a.aO:=by unfold dO;cases (mu (jB a.aO k f t s x)&&decide (a.ah.length<60))<;>rfl
theorem Au(a:AW)(k f t s:Int)(x:Y):(dO a k f t s x).ps=a.ps:=by unfold dO;cases (mu (jB a.aO k f t s x)&&decide (a.ah.length<60))<;>rfl
theorem sv(a:AW)(k f t s:Int)(x:Y):(dO a k f t s x).ord=a.ord:=by unfold dO;cases (mu (jB a.aO k f t s x)&&decide (a.ah.length<60))<;>rfl
theorem abA(a:AW)(k f t s:Int)(x:Y):∀n∈(dO a k f t s x).ah,n∈a.ah\/n=jB a.aO k f t s x:=λn d=>by
 unfold dO at d
 cases e:(mu (jB a.aO k f t s x)&&decide (a.ah.length<60))with
 |false=>rw[e]at d;exact .inl d
 |true=>
  rw[e]at d;rcases fx.1 d with q|q
  .exact .inl q
  .exact .inr (ia.1 q)
theorem GA.send{B:Nat}{a:AW}(h:GA B a){k f t s:Int}{x:Y}(e:k=1->x.length<=150)(g:k=2->∃m,G3 m/\x=dj m):GA B (dO a k f t s x):=by
 unfold dO
 cases d:(mu (jB a.aO k f t s x)&&decide (a.ah.length<60))with
 |false=>exact h
 |true=>
  rw[eu,eW]at d;refine⟨h.n,h.ps,h.ord,⟨by show(a.ah++[_]).length<=60;rw[cH];simp;omega,λn i=>?_⟩,h.num⟩;rcases fx.1 i with q|q
  .exact h.ah.2 n q
  .rw[ia.1 q];exact⟨Hf.1 d.1,e,g⟩
def foldI{a α:Type}(f:a->Nat->α->a):Nat->List α->a->a
 |_,[],b=>b
 |i,x::l,b=>foldI f (i+1) l (f b i x)
theorem nQ{σ d α:Type}{body:Nat->σ->Option σ}(e:d->σ)(f:d->Nat->α->d)(a:Nat->d->Prop){l:List α}(h:∀(i:Nat)x b,l[i]?=some x->a i b->body i (e b)=some (e (f b i x))/\a (i+1) (f b i x)):
 ∀(k i:Nat)(b:d),i+k=l.length->a i b->bC body k i (e b)=some (e (foldI f i (l.drop i) b))/\a l.length (foldI f i (l.drop i) b)
 |0,i,b,j,g=>by rw[ie O];exact⟨X,by rw[<-j];exact g⟩
 |k+1,i,b,j,g=>by
  have hi:i<l.length:=by omega
  have q:l[i]?=some l[i]:=by simp[hi]
  obtain⟨m,n⟩:=h i _ b q g;obtain⟨o,p⟩:=nQ e f a h k (i+1) _ O n;rw[jg hi];refine⟨?_,p⟩;unfold bC;rw[m,ae,o];rfl
theorem oo{d α:Type}{f:d->Nat->α->d}(a:d->Prop):∀(l:List α)(i:Nat)(b:d),(∀b j x,x∈l->a b->a (f b j x))->a b->a (foldI f i l b)
 |[],_,_,_,e=>e
 |x::l,i,b,h,e=>oo a l (i+1) _ (λb j y g=>h b j y (j7 _ g)) (h b i x (by simp) e)
theorem Xv(l:List Y):AB l=some (l.any λx=>decide ((x.length:Int)>200)):=by
 unfold AB;have:AI l=some (gE (λx=>decide ((x.length:Int)>200)) l):=by unfold AI;refine tC _ λj x d=>?_;unfold DH pG;rw[cK,d,ae,ae];cases decide ((x.length:Int)>200)<;>rfl
 rw[this,ae];congr 1;rw[ew,zk,eW];rcases yR (λx:Y=>decide ((x.length:Int)>200)) l with⟨h,a⟩|⟨i,y,h,a,e,_⟩
 .rw[h];exact⟨λk=>by omega,λ⟨x,d,k⟩=>by have:=a x d;rw[this]at k;cases k⟩
 .rw[h];exact⟨λ_=>⟨y,du a,e⟩,λ_=>by omega⟩
structure GF(f:aJ):Prop where
 base:0<=f.bI/\f.bI+f.aR.length<=16777215
 late:f.aR.length<=16/\∀t∈f.aR,t.length<=150
theorem GP.gf{B:Nat}{x:bw}(h:GP B x):GF x.aF:=⟨h.base,h.late⟩
theorem FN{f:aJ}(h:GF f):tO f=some 0:=by
 have g:=h.base;have a:=h.late;have d:(f.aR.any λx=>decide ((x.length:Int)>200))=false:=by rw[List.any_eq_false];intro x e;have:=a.2 x e;simp;omega
 unfold tO;rw[zu,ae,c0 (show f.bI>=0 by omega),c0 (show f.bI<=16777215 by omega),cm (show ¬(f.aR.length:Int)>16 by omega),Xv,d];rfl
theorem xY{l:List Y}(h:l.length<=2^40):qU l=some l:=by unfold qU;rw[dm (by simpa using h)];rfl
theorem Fk{l:List aG}(h:l.length<=2^40):uC l=some l:=by unfold uC;rw[dm (by simpa using h)];rfl
def jZ(f:aJ):Bool:=decide (f.aR.length=16)||decide (f.bI+f.aR.length>=16777215)
theorem Zc{f:aJ}{t:Y}(h:GF f)(g:t.length<=150):zr f t=some (bif jZ f then((⟨0,[]⟩:aJ),8)else((⟨f.bI,f.aR++[t]⟩:aJ),0)):=by
 have a:=h.base;have d:=h.late;unfold zr;rw[FN h,ae,Mc,ae,cm (show ¬(t.length:Int)>200 by omega),or_some,ae,bT (show-9223372036854775808<=f.bI+(f.aR.length:Int) by omega) O,xY O,ae,dm (by simp;omega),ae,eg];have e:(((f.aR.length:Int)==16)||decide (f.bI+(f.aR.length:Int)>=16777215))=jZ f:=by unfold jZ;congr 1;rw[ew];simp;omega
 rw[e];cases jZ f<;>rfl
def lL(f:aJ)(k:Int):aJ:=bif decide (k>f.bI+f.aR.length)then f else⟨f.bI+max (k-f.bI) 0,f.aR.drop (max (k-f.bI) 0).toNat⟩
theorem Wi{f:aJ}{k:Int}(h:GF f)(l:-1000000000<=k/\k<=1000000000):∃g c,zq f k=some (g,c)/\(bif c==0 then g else f)=lL f k:=by
 have i:=h.base;have j:=h.late;unfold zq lL;rw[FN h,ae];simp only[iW,aS];rw[bT (show-9223372036854775808<=f.bI+(f.aR.length:Int) by omega) O];by_cases c:k>f.bI+f.aR.length
 .rw[c0 c];exact⟨_,_,X,X⟩
 .rw[cm c,aS,aS,bT (show-9223372036854775808<=k-f.bI by omega) O];obtain⟨n,d⟩:∃n:Nat,max (k-f.bI) 0=(n:Int):=iq O;rw[d];have e:n<=f.aR.length:=by omega
  have a:bY f.aR (n:Int) (f.aR.length:Int)=some (f.aR.drop n):=by unfold bY;rw[bE O];simp only[cP];rw[gN (by simp)]
  rw[a,ae,xY (by simp;omega),ae,eg,bT (show-9223372036854775808<=f.bI+(n:Int) by omega) O];exact⟨_,_,X,X⟩
theorem Gh{f:aJ}{k:Int}(h:GF f):GF (lL f k):=by
 have e:=h.base;have a:=h.late;unfold lL;by_cases c:k>f.bI+f.aR.length
 .rw[c0 c];exact h
 .rw[cm c,aS];refine⟨⟨by simp only;omega,?_⟩,?_,λt d=>a.2 t (pE d)⟩
  .simp only[ig];omega
  .simp only[ig];omega
def iM(a:AW)(p:Int)(t:Y):AW×Int:=
 bif gm a p !=0 then(a,gm a p)else
 bif decide (t.length>150)then(a,2)else
 bif decide (a.ah.length=60)then(a,8)else
 match a.ps[p.toNat]? with
 |none=>(a,0)
 |some x=>bif jZ x.aF then(a,8)else
  (dO {a with ps:=a.ps.set p.toNat {x with aF:=⟨x.aF.bI,x.aF.aR++[t]⟩}} 1 p (sq a.aO) (x.aF.bI+x.aF.aR.length) t,0)
theorem abx{B:Nat}{a:AW}(h:GA B a)(p:Int)(t:Y):q8 a.w p t=some ((iM a p t).1.w.all,(iM a p t).1.w.ah,(iM a p t).1.w,(iM a p t).2):=by
 unfold q8 iM;rw[OM h.n,ae]
 cases s:(gm a p !=0)with
 |true=>rfl
 |false=>
  obtain⟨i,x,rfl,l,z⟩:=oW s;rw[aS,aS];by_cases k:t.length>150
  .rw[c0 k,c0 (show(t.length:Int)>150 by omega)];rfl
  .rw[cm k,cm (show ¬(t.length:Int)>150 by omega),aS,aS];have q:(((a.w.ah).length:Int)==60)=decide (a.ah.length=60):=by
    have:a.w.ah.length=a.ah.length:=fk _;rw[this,ew];simp;omega
   rw[q];by_cases g:a.ah.length=60
   .rw[c0 g];rfl
   .have e:a.w.all=a.ps:=X;have j:=(h.ps x (du l)).gf;have d:=j.base;rw[cm g,aS,aS,e,cK,cP,l,ae,Zc j O,ae];simp only
    cases A:jZ x.aF with
    |true=>rfl
    |false=>
     simp only[aS,iW,ae,eg];have o:({a.w with all:=a.ps.set i ({x with aF:=(⟨x.aF.bI,x.aF.aR++[t]⟩:aJ)}:bw)}:aZ)=({a with ps:=a.ps.set i {x with aF:=⟨x.aF.bI,x.aF.aR++[t]⟩}}:AW).w:=X;have n:ap ((ap (x.aF.bI+((x.aF.aR++[t]).length:Int)))-1)=x.aF.bI+x.aF.aR.length:=by
      have f:((x.aF.aR++[t]).length:Int)=(x.aF.aR.length:Int)+1:=by simp
      rw[f,bT (x:=x.aF.bI+((x.aF.aR.length:Int)+1)) O O,bT O O];omega
     have y:(({a with ps:=a.ps.set i {x with aF:=⟨x.aF.bI,x.aF.aR++[t]⟩}}:AW).w).aO=a.aO:=X;rw[o,Av,ae,n,y,sw (a:={a with ps:=a.ps.set i {x with aF:=⟨x.aF.bI,x.aF.aR++[t]⟩}}) h.ah.1,ae];refine congrArg some ?_;generalize d:dO ({a with ps:=a.ps.set i {x with aF:=⟨x.aF.bI,x.aF.aR++[t]⟩}}:AW) 1 (i:Int) (sq a.aO) (x.aF.bI+x.aF.aR.length) t=b;have m:b.ps=a.ps.set i {x with aF:=⟨x.aF.bI,x.aF.aR++[t]⟩}:=by rw[<-d,Au]
     have b2:b.ord=a.ord:=by rw[<-d,sv]
     show(a.ps.set i _,b.w.ah,({b.w with all:=a.ps.set i _,aK:=a.w.aK,ah:=b.w.ah}:aZ),(0:Int))=(b.w.all,b.w.ah,b.w,0)
     rw[<-m];unfold AW.w;simp only;rw[b2]
theorem GA.As{B:Nat}{a:AW}(h:GA B a)(p:Int)(t:Y):GA B (iM a p t).1:=by
 unfold iM
 cases n:(gm a p !=0)with
 |true=>exact h
 |false=>
  obtain⟨i,x,rfl,g,o⟩:=oW n;rw[aS];by_cases f:t.length>150
  .rw[c0 f];exact h
  .rw[cm f,aS];by_cases d:a.ah.length=60
   .rw[c0 d];exact h
   .rw[cm d,aS,cP,g];simp only;have hp:=h.ps x (du g)
    cases e:jZ x.aF with
    |true=>exact h
    |false=>
     rw[aS];unfold jZ at e;simp only[zi,lm]at e;have j:=hp.base;have l:=hp.late;refine GA.send (k:=1) (x:=t) (h.set i (x:={x with aF:=⟨x.aF.bI,x.aF.aR++[t]⟩}) ⟨hp.bq,hp.jR,⟨j.1,?_⟩,⟨?_,λu m=>?_⟩,hp.to,hp.iJ⟩) (λ_=>by omega) (λq=>absurd q ab)
     .simp only[cH,eB,iX];omega
     .simp only[cH,eB,iX];omega
     .rcases fx.1 m with q|q
      .exact l.2 u q
      .rw[ia.1 q];omega
def gD(a:AW)(p:Int):AW×Int:=
 bif !dt a p then(a,1)else
 match a.ps[p.toNat]? with
 |none=>(a,0)
 |some x=>({a with ps:=a.ps.set p.toNat {x with eE:=true}},0)
theorem U6{B:Nat}{a:AW}(h:GA B a)(p:Int):sL a.w p=some ((gD a p).1.w.all,(gD a p).1.w,(gD a p).2):=by
 unfold sL gD;rw[vF h.n,ae]
 cases f:dt a p with
 |false=>rfl
 |true=>
  obtain⟨i,rfl,hi⟩:=fN.1 f;have d:a.ps[i]?=some a.ps[i]:=by simp[hi]
  generalize a.ps[i]=x at d;have e:a.w.all=a.ps:=X;simp only[fX,aS,iW];rw[e,cK,cP,d,ae,eg];rfl
theorem GA.yl{B:Nat}{a:AW}(h:GA B a)(p:Int):GA B (gD a p).1:=by
 unfold gD
 cases e:dt a p with
 |false=>exact h
 |true=>
  obtain⟨i,rfl,hi⟩:=fN.1 e;have d:a.ps[i]?=some a.ps[i]:=by simp[hi]
  generalize a.ps[i]=x at d;rw[cP,d];simp only[fX,aS];have hp:=h.ps x (du d);exact h.set i ⟨hp.bq,hp.jR,hp.base,hp.late,hp.to,hp.iJ⟩
def iN(b:Int):Nat->List Y->List bc
 |_,[]=>[]
 |i,t::l=>if i<4 then⟨b+i,t⟩::iN b (i+1) l else iN b (i+1) l
theorem HV{f:aJ}(h:GF f):∀(k i:Nat)(z:List bc),i+k=f.aR.length->z.length<=i->bC (rV f 4) k i z=some (z++iN f.bI i (f.aR.drop i))
 |0,i,z,e,_=>by rw[ie O];show some z=some (z++[]);rw[is]
 |k+1,i,z,e,l=>by
  have hi:i<f.aR.length:=by omega
  have d:f.aR[i]?=some f.aR[i]:=by simp[hi]
  have g:=h.base;have j:=h.late.1;rw[jg hi];generalize f.aR[i]=t at d;unfold bC;by_cases c:i<4
  .have a:rV f 4 i z=some (z++[⟨f.bI+i,t⟩]):=by
    unfold rV;rw[cK,d,ae,c0 (show(i:Int)<4 by omega),bG,bT (show-9223372036854775808<=f.bI+(i:Int) by omega) O,dm (by simp;omega),ae]
   rw[a,ae,HV h k (i+1) _ O (by simp;omega)]
   conv=>rhs;unfold iN
   rw[bE c,fL];rfl
  .have a:rV f 4 i z=some z:=by
    unfold rV;rw[cK,d,ae,cm (show ¬(i:Int)<4 by omega),aS]
   rw[a,ae,HV h k (i+1) _ O O]
   conv=>rhs;unfold iN
   rw[ca c]
theorem abC{f:aJ}(h:GF f):zt f 4=some (iN f.bI 0 f.aR,0):=by unfold zt;rw[FN h,ae];simp only[iW,aS];rw[HV h f.aR.length 0 [] O (by simp),ae];rfl
theorem DU{b:Int}:∀{i:Nat}{l:List Y}{q:bc},q∈iN b i l->q.aY∈l
 |_,[],_,h=>by simp[iN]at h
 |i,t::l,q,h=>by
  unfold iN at h;split at h
  .rcases fM.1 h with e|e
   .rw[e];simp
   .exact j7 _ (DU e)
  .exact j7 _ (DU h)
def jW(a:AW)(p:Int):AW×Int:=
 bif gm a p !=0 then(a,gm a p)else
 match a.ps[p.toNat]? with
 |none=>(a,0)
 |some x=>(dO (foldI (λb _(q:bc)=>dO b 1 p (sq a.aO) q.aA q.aY) 0 (iN x.aF.bI 0 x.aF.aR) a) 3 p (sq a.aO) x.to.aN [],0)
structure il(a b:AW):Prop where
 aO:b.aO=a.aO
 ps:b.ps=a.ps
 ord:b.ord=a.ord
theorem il.w{a b:AW}(h:il a b):({b.w with all:=a.w.all,aK:=a.w.aK,ah:=b.w.ah}:aZ)=b.w:=by unfold AW.w;simp only;rw[h.ps,h.ord]
theorem il.send{a b:AW}(h:il a b)(k f t s:Int)(x:Y):il a (dO b k f t s x):=⟨(HU ..).trans h.aO,(Au ..).trans h.ps,(sv ..).trans h.ord⟩
theorem Tn{B:Nat}{a:AW}(h:GA B a)(p:Int):sI a.w p=some ((jW a p).1.w.ah,(jW a p).1.w,(jW a p).2):=by
 unfold sI jW;rw[OM h.n,ae]
 cases A:(gm a p !=0)with
 |true=>rfl
 |false=>
  obtain⟨i,x,rfl,z,C⟩:=oW A;have e:a.w.all=a.ps:=X;have hp:=h.ps x (du z);rw[aS,aS,e,cK,cP,z,ae,abC hp.gf,ae];simp only
  obtain⟨n,s⟩:=nQ (body:=xo a.w (i:Int) (iN x.aF.bI 0 x.aF.aR,0)) (λb:AW=>(b.w,b.w.ah)) (λb _(q:bc)=>dO b 1 (i:Int) (sq a.aO) q.aA q.aY) (λ_ b=>il a b/\GA B b) (l:=iN x.aF.bI 0 x.aF.aR) (λj q b y t=>by
   obtain⟨f,k⟩:=t;unfold xo;simp only;rw[cK,y,ae,f.w,Av,ae,show b.w.aO=a.aO from f.aO,sw k.ah.1,ae];have d:=f.send 1 (i:Int) (sq a.aO) q.aA q.aY
   exact⟨by rw[d.w],d,k.send (λ_=>hp.late.2 _ (DU (du y))) (λc=>absurd c ab)⟩) (iN x.aF.bI 0 x.aF.aR).length 0 a O ⟨⟨X,X,X⟩,h⟩
  rw[eX]at n s;generalize t:foldI (λb _(q:bc)=>dO b 1 (i:Int) (sq a.aO) q.aA q.aY) 0 (iN x.aF.bI 0 x.aF.aR) a=b at n s;have o:bC (xo a.w (i:Int) (iN x.aF.bI 0 x.aF.aR,0)) (iN x.aF.bI 0 x.aF.aR).length 0 (a.w,a.w.ah)=some (b.w,b.w.ah):=n;obtain⟨f,k⟩:=s;rw[o,ae];simp only;have m:({b.w with all:=a.ps,aK:=a.w.aK,ah:=b.w.ah}:aZ)=b.w:=f.w;rw[m,Av,ae,show b.w.aO=a.aO from f.aO,ae,sw k.ah.1,ae];have d:=f.send 3 (i:Int) (sq a.aO) x.to.aN [];have g:({(dO b 3 (i:Int) (sq a.aO) x.to.aN []).w with all:=a.ps,aK:=a.w.aK,ah:=(dO b 3 (i:Int) (sq a.aO) x.to.aN []).w.ah}:aZ)=(dO b 3 (i:Int) (sq a.aO) x.to.aN []).w:=d.w;simp only;rw[g]
theorem GA.again{B:Nat}{a:AW}(h:GA B a)(p:Int):GA B (jW a p).1:=by
 unfold jW
 cases g:(gm a p !=0)with
 |true=>exact h
 |false=>obtain⟨i,x,rfl,d,k⟩:=oW g;rw[aS,cP,d];simp only;have hp:=h.ps x (du d);refine GA.send (oo (GA B) _ 0 a (λb j q f e=>e.send (λ_=>hp.late.2 _ (DU f)) (λc=>absurd c ab)) h) (λc=>absurd c ab) (λc=>absurd c ab)
def jt(fu:Nat)(r:To)(p:bc):To×List Y:=
 match nE fu r p with
 |some (o,ts,_)=>(o,ts)
 |none=>(r,[])
theorem xd{r:To}{p:bc}{fu:Nat}(a:200<fu)(h:mC r)(hp:0<=p.aA/\p.aA<=16777214)(i:p.aY.length<=200):
 nE fu r p=some ((jt fu r p).1,(jt fu r p).2,0)/\jH r p (jt fu r p).1 (jt fu r p).2/\(p.aA=r.aN->1<=(jt fu r p).2.length)/\(jt fu r p).2.length<=17:=by
 obtain⟨o,ts,e,d,f,g⟩:=acq a h hp i;have:jt fu r p=(o,ts):=by unfold jt;rw[e]
 rw[this];exact⟨e,d,f,g⟩
theorem Oh{r:To}{p:bc}{fu:Nat}(h:mC r)(hp:p.aA>16777214):∃o,nE fu r p=some (o,[],1):=by unfold nE;rw[Ic h,ae];simp only[iW,aS];rw[zu,ae,cm (show ¬p.aA<=16777214 by omega),zf,lO,bG];exact⟨_,X⟩
theorem D7{r:To}{p:bc}{o:To}{ts:List Y}(h:mC r)(j:∀x∈r.bu,x.aA<=16777214)(hp:p.aA<=16777214)(a:jH r p o ts):mC o:=by
 have k:=a.next;have i:=h.lo;have g:=h.hi;refine⟨by omega,?_,a.len,a.inc,λx d=>⟨(a.iB x d).1,by have:=(a.iB x d).2.1;omega⟩,a.jR⟩;rcases rM ts.length with e|e
 .omega
 .have f:ts[ts.length-1]?=some (ts[ts.length-1]'O):=by simp
  rcases a.aF _ _ f with q|q
  .have:=j _ q;simp only at this;omega
  .rw[<-q]at hp;simp only at hp;omega
def fI(b:AW)(p q:Int)(t:Y):AW:=
 foldI (λ(c:AW)j(_:bw)=>bif act c (j:Int)then dO c 2 (sq b.aO) (j:Int) (b.ord.length:Int) (dj (p,q,t))else c) 0 b.ps {b with ord:=b.ord++[(p,q,t)]}
theorem qK(b:AW)(p q:Int)(t:Y):il {b with ord:=b.ord++[(p,q,t)]} (fI b p q t):=by
 unfold fI;refine oo (il {b with ord:=b.ord++[(p,q,t)]}) _ 0 _ (λc j x _ a=>?_) ⟨X,X,X⟩;cases act c (j:Int)
 .exact a
 .exact a.send ..
theorem GA.fI{B:Nat}{b:AW}(h:GA B b){p q:Int}{t:Y}(d:G3 (p,q,t)):GA (B+1) (fI b p q t):=by
 have f:GA (B+1) {b with ord:=b.ord++[(p,q,t)]}:=by
  refine⟨h.n,λx i=>(h.ps x i).mono O,⟨?_,λm g=>?_⟩,h.ah,h.num⟩
  .have:=h.ord.1;simp only[cH,eB,iX];omega
  .rcases fx.1 g with e|e
   .exact h.ord.2 m e
   .rw[ia.1 e];exact d
 unfold Go.Proofs.YteagbdjohkfneaaGreatDoor.fI;refine oo (GA (B+1)) _ 0 _ (λc j x _ a=>?_) f;cases act c (j:Int)
 .exact a
 .exact a.send (λe=>absurd e ab) (λ_=>⟨_,d,X⟩)
def ka(fu:Nat)(a:AW)(n:aV):AW:=
 match a.ps[n.aJ.toNat]? with
 |none=>a
 |some x=>bif decide (n.aA>16777214)then a else
  foldI (λb i t=>fI b n.aJ (x.bN.aN+(i:Int)) t) 0 (jt fu x.bN ⟨n.aA,n.aY⟩).2 {a with ps:=a.ps.set n.aJ.toNat {x with bN:=(jt fu x.bN ⟨n.aA,n.aY⟩).1}}
theorem Yv{B:Nat}{b:AW}{n:aV}{a:bw}{l:List Y}{i:Nat}{t:Y}(h:GA B b)(hB:B<=2^35)(hl:l[i]?=some t)(hg:G3 (n.aJ,a.bN.aN+(i:Int),t)):
 sO n a l b.ps i (b.w,b.w.aK,b.w.ah)=some ((fI b n.aJ (a.bN.aN+(i:Int)) t).w,(fI b n.aJ (a.bN.aN+(i:Int)) t).w.aK,(fI b n.aJ (a.bN.aN+(i:Int)) t).w.ah):=by
 obtain⟨P,Q,T⟩:=hg;simp only at P Q T;obtain⟨i1,_,i2,_⟩:=po P.1 (show n.aJ<1000000000 by omega);obtain⟨j1,_,j2,_⟩:=po Q.1 (show a.bN.aN+(i:Int)<1000000000 by omega);have K:b.w.aK.length=b.ord.length:=fk _;have ho:=h.ord.1;unfold sO;simp only;rw[cK,hl,ae,i1,ae,dm (by simp;omega),ae];by_cases hx:True
 .have hw:ap (a.bN.aN+(i:Int))=a.bN.aN+(i:Int):=bT O O
  rw[hw,j1,ae,dm (by simp only[cH,eB,iX];omega),ae,dm (by simp only[cH,eB,iX];omega),ae,
   dm (by simp only[cH,eB,iX];omega),ae,dm (by simp only[eB,iX];omega),ae]
  obtain⟨f,e⟩:∃f:AW,f={b with ord:=b.ord++[(n.aJ,a.bN.aN+(i:Int),t)]}:=⟨_,X⟩
  have S:(((d9 n.aJ++([58]:Y))++d9 (a.bN.aN+(i:Int)))++([58]:Y))++t=dj (n.aJ,a.bN.aN+(i:Int),t):=X;rw[S];have m:f.w=({b.w with all:=b.ps,aK:=b.w.aK++[dj (n.aJ,a.bN.aN+(i:Int),t)],ah:=b.w.ah}:aZ):=by rw[e];unfold AW.w;simp only[kS,lS,List.map_nil]
  have k:f.w.aK=b.w.aK++[dj (n.aJ,a.bN.aN+(i:Int),t)]:=by rw[m]
  have F:f.ah.length<=60:=by rw[e];exact h.ah.1
  have hn:1<=f.ps.length/\f.ps.length<=6:=by rw[e];exact h.n
  obtain⟨A,z⟩:=nQ (body:=xt b.ps b.w.aK t (d9 n.aJ) (d9 (a.bN.aN+(i:Int)))) (λc:AW=>(c.w,c.w.ah))
   (λ(c:AW)j(_:bw)=>bif act c (j:Int)then dO c 2 (sq b.aO) (j:Int) (b.ord.length:Int) (dj (n.aJ,a.bN.aN+(i:Int),t))else c) (λ_ c=>il f c/\c.ah.length<=60) (l:=b.ps) (λj y c _ W=>by
    obtain⟨g,p⟩:=W;have C:({c.w with all:=b.ps,aK:=b.w.aK++[dj (n.aJ,a.bN.aN+(i:Int),t)],ah:=c.w.ah}:aZ)=c.w:=by have:=g.w;rw[k,show f.w.all=b.ps by rw[e];rfl]at this;exact this
    unfold xt;simp only;rw[S,C,xW (by rw[g.ps];exact hn),ae]
    cases V:act c (j:Int)with
    |false=>exact⟨X,g,p⟩
    |true=>
     have L:ap (((b.w.aK++[dj (n.aJ,a.bN.aN+(i:Int),t)]).length:Int)-1)=(b.ord.length:Int):=by
      have H:((b.w.aK++[dj (n.aJ,a.bN.aN+(i:Int),t)]).length:Int)=(b.ord.length:Int)+1:=by rw[cH,K];rfl
      rw[H,bT O O];omega
     have hv:c.w.aO=b.aO:=by show c.aO=b.aO;rw[g.aO,e]
     rw[bG,bG,Av,ae,hv,L,sw p,ae];have x:=g.send 2 (sq b.aO) (j:Int) (b.ord.length:Int) (dj (n.aJ,a.bN.aN+(i:Int),t));have o:=x.w;rw[k,show f.w.all=b.ps by rw[e];rfl]at o;refine⟨by simp only;rw[o],x,?_⟩;unfold dO
     cases hq:(mu (jB c.aO 2 (sq b.aO) (j:Int) (b.ord.length:Int) (dj (n.aJ,a.bN.aN+(i:Int),t)))&&decide (c.ah.length<60))with
     |false=>exact p
     |true=>
      rw[eu,eW]at hq;show(c.ah++[_]).length<=60
      rw[cH];simp;omega) b.ps.length 0 f O ⟨⟨X,X,X⟩,F⟩
  rw[eX]at A z;have q:foldI (λ(c:AW)j(_:bw)=>bif act c (j:Int)then dO c 2 (sq b.aO) (j:Int) (b.ord.length:Int) (dj (n.aJ,a.bN.aN+(i:Int),t))else c) 0 b.ps f=fI b n.aJ (a.bN.aN+(i:Int)) t:=by rw[e];rfl
  rw[q]at A z;generalize fI b n.aJ (a.bN.aN+(i:Int)) t=d at A z;have M:bC (xt b.ps b.w.aK t (d9 n.aJ) (d9 (a.bN.aN+(i:Int)))) b.ps.length 0 (({b.w with all:=b.ps,aK:=b.w.aK++[dj (n.aJ,a.bN.aN+(i:Int),t)],ah:=b.w.ah}:aZ),b.w.ah)=some (d.w,d.w.ah):=by
   rw[<-m];have:f.w.ah=b.w.ah:=by rw[e];rfl
   rw[<-this];exact A
  rw[M,ae];simp only;have s:=z.1.w;rw[k,show f.w.all=b.ps by rw[e];rfl]at s;have D:d.w.aK=b.w.aK++[dj (n.aJ,a.bN.aN+(i:Int),t)]:=by rw[<-k];show d.ord.map dj=_;rw[z.1.ord];rfl
  rw[s,D]
 .exact absurd cy hx
theorem Yt{B fu:Nat}{a:AW}{n:aV}(F:200<fu)(h:GA B a)(hB:B<=2^34)(P:GN n)(hk:n.aX=1)(M:dt a n.aJ=true):
 Ba fu a.w n=some ((ka fu a n).w.all,(ka fu a n).w.aK,(ka fu a n).w.ah,(ka fu a n).w)/\GA (B+17) (ka fu a n):=by
 obtain⟨i,hi,K⟩:=fN.1 M;have A:a.ps[i]?=some a.ps[i]:=by simp[K]
 generalize a.ps[i]=x at A;have hp:=h.ps x (du A);have e:a.w.all=a.ps:=X;have T:=P.1.seq;have D:=P.1.aF;have ht:=P.2.1 hk;unfold Ba ka;rw[e,hi,cK,A,ae,cP,A];simp only;have ep:({bc.zero with aA:=n.aA,aY:=n.aY}:bc)=⟨n.aA,n.aY⟩:=X;rw[ep];by_cases S:n.aA>16777214
 .obtain⟨o,ho⟩:=Oh (fu:=fu) (p:=⟨n.aA,n.aY⟩) hp.iJ.1 S;rw[ho,c0 S];exact⟨X,h.mono O⟩
 .have g:n.aA<=16777214:=by omega
  obtain⟨t1,t2,_,t4⟩:=xd (r:=x.bN) (p:=⟨n.aA,n.aY⟩) F hp.iJ.1 ⟨T.1,g⟩ (by simp only;omega);have f:=D7 hp.iJ.1 (λy V=>(hp.iJ.2 y V).1) g t2;have lM:=hp.iJ.1.hi;have WE:=hp.iJ.1.lo;rw[t1,cm S];generalize jt fu x.bN ⟨n.aA,n.aY⟩=r at t2 t4 f;obtain⟨o,ts⟩:=r;simp only at t2 t4 f;simp only[ae,eg,iW,aS]
  have Q:GP B {x with bN:=o}:=⟨hp.bq,hp.jR,hp.base,hp.late,hp.to,f,λy V=>by
   rcases(t2.iB y V).2.2 with q|q
   .exact hp.iJ.2 y q
   .rw[q];exact⟨g,ht⟩⟩
  have H:=h.set i Q
  obtain⟨W,C⟩:=nQ (body:=sO n x ts (a.ps.set i {x with bN:=o})) (λb:AW=>(b.w,b.w.aK,b.w.ah)) (λb j t=>fI b (i:Int) (x.bN.aN+(j:Int)) t)
   (λj b=>b.ps=a.ps.set i {x with bN:=o}/\GA (B+j) b) (l:=ts) (λj t b L hb=>by
    obtain⟨k,m⟩:=hb;have yN:=(dl L).1;have hg:G3 (n.aJ,x.bN.aN+(j:Int),t):=by
     refine⟨D,⟨by simp only;omega,by simp only;omega⟩,?_⟩;rcases t2.aF j t L with q|q
     .exact(hp.iJ.2 _ q).2
     .have:t=n.aY:=by injection q
      rw[this];exact ht
    have s:=Yv (l:=ts) m O L hg;rw[k]at s;refine⟨by rw[<-hi];exact s,?_,?_⟩
    .rw[(qK ..).ps];exact k
    .rw[<-hi];exact m.fI hg) ts.length 0 {a with ps:=a.ps.set i {x with bN:=o}} O ⟨X,H⟩
  rw[eX]at W C;generalize foldI (λ(b:AW)j t=>fI b (i:Int) (x.bN.aN+(j:Int)) t) 0 ts {a with ps:=a.ps.set i {x with bN:=o}}=d at W C;have zo:bC (sO n x ts (a.ps.set i ({x with bN:=o}:bw))) ts.length 0 (({a.w with all:=a.ps.set i ({x with bN:=o}:bw)}:aZ),a.w.aK,a.w.ah)=some (d.w,d.w.aK,d.w.ah):=W;have z:bC (sO n x ts (a.ps.set i ({x with bN:=({o with bu:=o.bu}:To)}:bw))) ts.length 0 (({a.w with all:=a.ps.set i ({x with bN:=({o with bu:=o.bu}:To)}:bw)}:aZ),a.w.aK,a.w.ah)=some (d.w,d.w.aK,d.w.ah):=zo;refine⟨?_,C.2.mono O⟩;rw[z,ae];show some (a.ps.set i ({x with bN:=o}:bw),d.w.aK,d.w.ah,({d.w with all:=a.ps.set i ({x with bN:=o}:bw),aK:=d.w.aK,ah:=d.w.ah}:aZ))=_;rw[<-C.1];rfl
def sr(t:Y):Int×Int×Y:=
 (((lX ((nb t ([58]:Y)).getD (([]:Y),([]:Y),false)).1).getD ((0:Int),())).1,
  ((lX ((nb ((nb t ([58]:Y)).getD (([]:Y),([]:Y),false)).2.1 ([58]:Y)).getD (([]:Y),([]:Y),false)).1).getD ((0:Int),())).1,
  ((nb ((nb t ([58]:Y)).getD (([]:Y),([]:Y),false)).2.1 ([58]:Y)).getD (([]:Y),([]:Y),false)).2.1)
theorem KK{m:Int×Int×Y}(h:G3 m):nb (dj m) ([58]:Y)=some (d9 m.1,d9 m.2.1++58::m.2.2,true)/\nb (d9 m.2.1++58::m.2.2) ([58]:Y)=some (d9 m.2.1,m.2.2,true)/\lX (d9 m.1)=some (m.1,())/\lX (d9 m.2.1)=some (m.2.1,()):=by
 obtain⟨_,a,i,d,f⟩:=po h.1.1 (show m.1<1000000000 by have:=h.1.2;omega);obtain⟨_,g,b2,b3,b4⟩:=po h.2.1.1 (show m.2.1<1000000000 by have:=h.2.1.2;omega);have j:=h.2.2;have e:dj m=d9 m.1++58::(d9 m.2.1++58::m.2.2):=by unfold dj;simp
 refine⟨?_,Ky g b3 (by simp;omega),f,b4⟩;rw[e];exact Ky a d (by simp;omega)
theorem wz{m:Int×Int×Y}(h:G3 m):sr (dj m)=m:=by obtain⟨a,d,e,f⟩:=KK h;unfold sr;rw[a];simp only[zd];rw[d];simp only[zd];rw[e,f];rfl
def hO(b:AW)(p:Int)(t:Y):AW:=
 match b.ps[p.toNat]? with
 |none=>b
 |some x=>{b with ps:=b.ps.set p.toNat {x with bq:=x.bq++[⟨(sr t).1,(sr t).2.2⟩],aF:=bif (sr t).1==p then lL x.aF ((sr t).2.1+1)else x.aF}}
def kc(fu:Nat)(a:AW)(n:aV):AW:=
 match a.ps[n.To.toNat]? with
 |none=>a
 |some x=>bif decide (n.aA>16777214)then a else
  foldI (λb _ t=>hO b n.To t) 0 (jt fu x.to ⟨n.aA,n.aY⟩).2 {a with ps:=a.ps.set n.To.toNat {x with to:=(jt fu x.to ⟨n.aA,n.aY⟩).1}}
structure sW(a b:AW):Prop where
 aO:b.aO=a.aO
 ord:b.ord=a.ord
 ah:b.ah=a.ah
 len:b.ps.length=a.ps.length
theorem Wh{B:Nat}{a b:AW}{n:aV}{l:List Y}{i j:Nat}{m:Int×Int×Y}(h:GA B b)(S:B<=2^35)(e:sW a b)(hi:n.To=(i:Int))(o:i<b.ps.length)(M:l[j]?=some (dj m))(f:G3 m):
 uK a.w n l j (b.w,b.ps)=some ((hO b n.To (dj m)).w,(hO b n.To (dj m)).ps)/\GA (B+1) (hO b n.To (dj m))/\sW a (hO b n.To (dj m)):=by
 obtain⟨c1,c2,D,F⟩:=KK f;have z:b.ps[i]?=some b.ps[i]:=by simp[o]
 generalize b.ps[i]=x at z;have hp:=h.ps x (du z);have C:=hp.bq;have W:=f.2.1;have t:ap (m.2.1+1)=m.2.1+1:=bT O O;have d:∀ps,({b.w with all:=ps,aK:=a.w.aK,ah:=a.w.ah}:aZ)=({b with ps:=ps}:AW).w:=λps=>by unfold AW.w;simp only;rw[e.ord,e.ah]
 have A:i<b.ps.length:=o;have p:∀y:bw,(b.ps.set i y)[i]?=some y:=λy=>by rw[fY A]
 refine⟨?_,?_,?_⟩
 .unfold uK hO;rw[cK,M,ae,c1,ae];simp only;rw[c2,ae,D,ae,hi,cK,cP,z,ae,dm (by simp;omega),ae,ae,eg,wz f];simp only;have H:({aG.zero with aJ:=m.1,aY:=m.2.2}:aG)=⟨m.1,m.2.2⟩:=X;rw[H]
  cases V:(m.1==(i:Int))with
  |false=>simp only[aS];rw[d]
  |true=>
   obtain⟨g,c,L,Q⟩:=Wi (k:=m.2.1+1) hp.gf O;simp only[bG];rw[F,ae,cK,p,ae];simp only;rw[t,L,ae];simp only;rw[<-Q]
   cases T:(c==0)with
   |false=>simp only[aS];rw[d]
   |true=>simp only[bG];rw[ae,eg,li,d]
 .unfold hO;rw[hi,cP,z];simp only;have K:=h.mono (show B<=B+1 by omega);refine K.set i ⟨?_,λs P=>?_,?_,?_,hp.to,hp.iJ⟩
  .simp only[cH,eB,iX];omega
  .rcases fx.1 P with q|q
   .exact hp.jR s q
   .rw[ia.1 q,wz f];exact f.2.2
  .cases ((sr (dj m)).1==(i:Int))
   .exact hp.base
   .exact(Gh hp.gf).base
  .cases ((sr (dj m)).1==(i:Int))
   .exact hp.late
   .exact(Gh hp.gf).late
 .unfold hO;rw[hi,cP,z];exact⟨e.aO,e.ord,e.ah,by simp only[qx];exact e.len⟩
theorem acs{B fu:Nat}{a:AW}{n:aV}(M:200<fu)(h:GA B a)(hB:B<=2^34)(hn:GN n)(hk:n.aX=2)(Q:dt a n.To=true):
 Bd fu a.w n=some ((kc fu a n).w.all,(kc fu a n).w)/\GA (B+17) (kc fu a n)/\sW a (kc fu a n):=by
 obtain⟨i,hi,z⟩:=fN.1 Q;have F:a.ps[i]?=some a.ps[i]:=by simp[z]
 generalize a.ps[i]=x at F;have hp:=h.ps x (du F);have e:a.w.all=a.ps:=X;have W:=hn.1.seq;obtain⟨m,S,k⟩:=hn.2.2 hk;have LA:=BR S;unfold Bd kc;rw[e,hi,cK,F,ae,cP,F];simp only;have ep:({bc.zero with aA:=n.aA,aY:=n.aY}:bc)=⟨n.aA,n.aY⟩:=X;rw[ep];by_cases V:n.aA>16777214
 .obtain⟨o,ho⟩:=Oh (fu:=fu) (p:=⟨n.aA,n.aY⟩) hp.to.1 V;rw[ho,c0 V];exact⟨X,h.mono O,X,X,X,X⟩
 .have g:n.aA<=16777214:=by omega
  obtain⟨t1,t2,_,t4⟩:=xd (r:=x.to) (p:=⟨n.aA,n.aY⟩) M hp.to.1 ⟨W.1,g⟩ (by simp only;rw[k];omega);have f:=D7 hp.to.1 (λy hy=>(hp.to.2 y hy).1) g t2;rw[t1,cm V];generalize jt fu x.to ⟨n.aA,n.aY⟩=r at t2 t4 f;obtain⟨o,ts⟩:=r;simp only at t2 t4 f;simp only[ae,eg,iW,aS]
  have T:GP B {x with to:=o}:=⟨hp.bq,hp.jR,hp.base,hp.late,⟨f,λy hy=>by
   rcases(t2.iB y hy).2.2 with q|q
   .exact hp.to.2 y q
   .rw[q];exact⟨g,m,S,k⟩⟩,hp.iJ⟩
  have P:=h.set i T;have C:∀(j:Nat)t,ts[j]?=some t->∃m,G3 m/\t=dj m:=λj t A=>by
   rcases t2.aF j t A with q|q
   .exact(hp.to.2 _ q).2
   .have:t=n.aY:=by injection q
    rw[this];exact⟨m,S,k⟩
  obtain⟨H,s⟩:=nQ (body:=uK a.w n ts) (λb:AW=>(b.w,b.ps)) (λb _ t=>hO b n.To t)
   (λj b=>GA (B+j) b/\sW a b) (l:=ts) (λj t b A K=>by
    obtain⟨m',g',rfl⟩:=C j t A;have yN:=(dl A).1;have L:GA (B+j) b:=K.1
    exact Wh (B:=B+j) L (show B+j<=2^35 by omega) K.2 hi (by rw[K.2.len];exact z) A g') ts.length 0 {a with ps:=a.ps.set i {x with to:=o}} O ⟨P,X,X,X,by simp⟩
  rw[eX]at H s;rw[hi]at H s;generalize foldI (λ(b:AW)(_:Nat)t=>hO b (i:Int) t) 0 ts {a with ps:=a.ps.set i {x with to:=o}}=d at H s;have D:bC (uK a.w n ts) ts.length 0 (({a.w with all:=a.ps.set i ({x with to:=({o with bu:=o.bu}:To)}:bw)}:aZ),a.ps.set i ({x with to:=({o with bu:=o.bu}:To)}:bw))=some (d.w,d.ps):=H;refine⟨?_,s.1.mono O,s.2⟩;rw[D,ae];show some (d.ps,({d.w with all:=d.ps,aK:=a.w.aK,ah:=a.w.ah}:aZ))=_;have:({d.w with all:=d.ps,aK:=a.w.aK,ah:=a.w.ah}:aZ)=d.w:=by unfold AW.w;simp only;rw[s.2.ord,s.2.ah]
  rw[this];rfl
def fv(s f:Int):Nat->Nat->AW->AW
 |0,_,b=>b
 |k+1,i,b=>match b.ord[i]? with
  |none=>b
  |some m=>fv s f k (i+1) (dO b 2 s f (i:Int) (dj m))
def p9(a:AW)(n:aV):AW:=fv (sq a.aO) n.aJ 4 n.aA.toNat a
theorem TC{B:Nat}{a:AW}{n:aV}(M:0<=n.aA/\n.aA<=16777215):∀(k i:Nat)(b:AW)(fu:Nat),k<fu->(i:Int)+k=n.aA+4->il a b->GA B b->
 ∃j,cw (sN a.w n) fu ((i:Int),b.w,b.w.ah)=some (.inl (j,(fv (sq a.aO) n.aJ k i b).w,(fv (sq a.aO) n.aJ k i b).w.ah))/\il a (fv (sq a.aO) n.aJ k i b)/\GA B (fv (sq a.aO) n.aJ k i b):=by
 have stop:∀(i:Nat)(b:AW)(fu:Nat),0<fu->il a b->((i:Int)<a.ord.length->¬(i:Int)<n.aA+4)->∃j,cw (sN a.w n) fu ((i:Int),b.w,b.w.ah)=some (.inl (j,b.w,b.w.ah)):=λi b fu q d K=>by
  obtain⟨fu,rfl⟩:∃g,fu=g+1:=⟨fu-1,by omega⟩
  refine⟨i,?_⟩;have h:(a.w.aK.length:Int)=a.ord.length:=by show((a.ord.map dj).length:Int)=_;rw[fk]
  unfold cw sN;simp only;rw[h,bT (show-9223372036854775808<=n.aA+4 by omega) O,iR,ae,d.w];by_cases c:(i:Int)<a.ord.length
  .rw[c0 c,cm (K c)];rfl
  .rw[cm c];rfl
 intro k
 induction k with
 |zero=>intro i b fu q hi d f;obtain⟨j,y⟩:=stop i b fu q d (λ_=>by omega);exact⟨j,y,d,f⟩
 |succ k L=>
  intro i b fu q hi d f
  cases l:b.ord[i]? with
  |none=>have p:b.ord.length<=i:=GX.1 l;obtain⟨j,y⟩:=stop i b fu O d (λc=>by rw[d.ord]at p;omega);unfold fv;rw[l];exact⟨j,y,d,f⟩
  |some m=>
   have x:i<b.ord.length:=(dl l).1;have A:i<a.ord.length:=by rw[<-d.ord];exact x
   have t:=f.ord.2 m (du l);obtain⟨fu,rfl⟩:∃g,fu=g+1:=⟨fu-1,by omega⟩
   have o:=d.send 2 (sq a.aO) n.aJ (i:Int) (dj m);have s:GA B (dO b 2 (sq a.aO) n.aJ (i:Int) (dj m)):=f.send (λe=>absurd e ab) (λ_=>⟨m,t,X⟩);obtain⟨j,C,D,F⟩:=L (i+1) _ fu O (by push_cast;omega) o s;unfold fv;rw[l];refine⟨j,?_,D,F⟩;have h:(a.w.aK.length:Int)=a.ord.length:=by show((a.ord.map dj).length:Int)=_;rw[fk]
   have z:bh a.w.aK (i:Int)=some (dj m):=by rw[cK];show(a.ord.map dj)[i]?=_;rw[jh,<-d.ord,l];rfl
   have H:sN a.w n ((i:Int),b.w,b.w.ah)=some (.go (((i+1:Nat):Int),(dO b 2 (sq a.aO) n.aJ (i:Int) (dj m)).w,(dO b 2 (sq a.aO) n.aJ (i:Int) (dj m)).w.ah)):=by
    unfold sN;simp only
    rw[h,bT (show-9223372036854775808<=n.aA+4 by omega) O,iR,ae,d.w,c0 (show(i:Int)<a.ord.length by omega),c0 (show(i:Int)<n.aA+4 by omega),je,bG,Av,ae,z,ae,
     show b.w.aO=a.aO from d.aO,sw f.ah.1,ae]
    simp only;have:=f.ord.1;rw[o.w,bT O O];rfl
   unfold cw;rw[H,ae];exact C
def ja(fu:Nat)(a:AW)(n:aV):AW:=
 bif !dt a n.aJ then a else
 bif n.aX==1 then ka fu a n else
 bif n.aX==3 then p9 a n else
 bif n.aX==2 then kc fu a n else a
theorem Uz{B fu:Nat}{a:AW}{n:aV}(g:200<fu)(h:GA B a)(x:B<=2^34)(p:GN n)(o:dt a n.To=true):
 A8 fu a.w n=some ((ja fu a n).w.all,(ja fu a n).w.aK,(ja fu a n).w.ah,(ja fu a n).w)/\GA (B+17) (ja fu a n):=by
 unfold A8 ja;rw[vF h.n,ae]
 cases m:dt a n.aJ with
 |false=>exact⟨X,h.mono O⟩
 |true=>
  simp only[fX,aS,iW];by_cases q:n.aX=1
  .obtain⟨f,e⟩:=Yt g h x p q m;rw[q];simp only[mP,bG];rw[f,ae];exact⟨X,e⟩
  .rw[show(n.aX==1)=false by simpa using q];simp only[aS];by_cases z:n.aX=3
   .have y:=p.1.seq;obtain⟨s,i⟩:=iq y.1;obtain⟨j,D,k,A⟩:=TC (a:=a) (n:=n) y 4 s a fu O O ⟨X,X,X⟩ h;have C:p9 a n=fv (sq a.aO) n.aJ 4 s a:=by unfold p9;rw[i];rfl
    rw[z,C];simp only[mP,bG];rw[i,D,jK];simp only;rw[k.w];generalize fv (sq a.aO) n.aJ 4 s a=d at k A;refine⟨?_,A.mono O⟩;have f:a.w.all=d.w.all:=k.ps.symm;have e:a.w.aK=d.w.aK:=by show a.ord.map dj=d.ord.map dj;rw[k.ord]
    rw[f,e]
   .rw[show(n.aX==3)=false by simpa using z];simp only[aS];by_cases t:n.aX=2
    .obtain⟨f,e,l⟩:=acs g h x p t o;rw[t];simp only[mP,bG];rw[f,ae];generalize kc fu a n=d at e l;refine⟨?_,e⟩;have f:a.w.aK=d.w.aK:=by show a.ord.map dj=d.ord.map dj;rw[l.ord]
     have e:a.w.ah=d.w.ah:=by show a.ah.map gl=d.ah.map gl;rw[l.ah]
     rw[f,e]
    .rw[show(n.aX==2)=false by simpa using t];exact⟨X,h.mono O⟩
def iw(fu:Nat)(a:AW)(k d:Int):AW×Int:=
 bif !(decide (d>=1)&&decide (d<=3))then(a,1)else
 bif !(decide (k>=0)&&decide (k<=(a.ah.length:Int)-1))then(a,6)else
 bif (d==3)&&decide (a.ah.length=60)then(a,8)else
 match a.ah[k.toNat]? with
 |none=>(a,0)
 |some n=>bif d==3 then({a with ah:=a.ah++[n]},0)else
  (bif ((d==1)&&(n.bB==a.aO.ce))&&act a n.To then ja fu {a with ah:=a.ah.take k.toNat++a.ah.drop (k.toNat+1)} n else{a with ah:=a.ah.take k.toNat++a.ah.drop (k.toNat+1)},0)
theorem Ux{l:List Y}{i:Nat}(h:i<l.length)(g:l.length<=2^40):AE l (i:Int) ((i+1:Nat):Int)=some (l.take i++l.drop (i+1)):=by
 unfold AE;have c1:∃x,bY l (i:Int) ((i+1:Nat):Int)=some x:=⟨_,by unfold bY;rw[bE O]⟩
 have c2:∃x,bY l 0 (i:Int)=some x:=⟨_,by unfold bY;rw[bE O]⟩
 have a:∃x,bY l ((i+1:Nat):Int) (l.length:Int)=some x:=⟨_,by unfold bY;rw[bE O]⟩
 obtain⟨j,d⟩:=c1;obtain⟨k,e⟩:=c2;obtain⟨m,f⟩:=a;rw[d,ae,show((i:Int)==((i+1:Nat):Int))=false by simp;omega,aS,e,ae,f,ae];rfl
theorem GA.CH{B:Nat}{a:AW}(h:GA B a)(i:Nat):GA B {a with ah:=a.ah.take i++a.ah.drop (i+1)}:=by
 refine⟨h.n,h.ps,h.ord,⟨?_,λn d=>?_⟩,h.num⟩
 .have:=h.ah.1;simp only[cH,fE,ig];omega
 .rcases fx.1 d with q|q
  .exact h.ah.2 n (pF q)
  .exact h.ah.2 n (pE q)
theorem X4{B fu:Nat}{a:AW}(y:200<fu)(h:GA B a)(Q:B<=2^34)(k d:Int):
 nd fu a.w k d=some ((iw fu a k d).1.w.all,(iw fu a k d).1.w.aK,(iw fu a k d).1.w,(iw fu a k d).2)/\GA (B+17) (iw fu a k d).1:=by
 unfold nd iw;have A:(a.w.ah.length:Int)=(a.ah.length:Int):=by show((a.ah.map gl).length:Int)=_;rw[fk]
 have F:=h.ah.1;rw[AZ,ae]
 cases V:(decide (d>=1)&&decide (d<=3))with
 |false=>exact⟨X,h.mono O⟩
 |true=>
  simp only[fX,aS];rw[A,bT (show-9223372036854775808<=(a.ah.length:Int)-1 by omega) O,AZ,ae]
  cases C:(decide (k>=0)&&decide (k<=(a.ah.length:Int)-1))with
  |false=>exact⟨X,h.mono O⟩
  |true=>
   rw[eu,eW,eW]at C;obtain⟨i,rfl⟩:=iq C.1;have t:i<a.ah.length:=by omega
   simp only[fX,aS];have L:((a.ah.length:Int)==60)=decide (a.ah.length=60):=by rw[ew];simp;omega
   rw[L,iR,ae]
   cases P:((d==3)&&decide (a.ah.length=60))with
   |true=>exact⟨X,h.mono O⟩
   |false=>
    have o:a.ah[i]?=some a.ah[i]:=by simp[t]
    generalize a.ah[i]=n at o;have l:=h.ah.2 n (du o);have S:bh a.w.ah (i:Int)=some (gl n):=by rw[cK];show(a.ah.map gl)[i]?=_;rw[jh,o];rfl
    simp only[aS];rw[S,ae,cP,o];simp only
    cases M:(d==3)with
    |true=>
     rw[M,kR,lm]at P;have f:a.w.ah.length=a.ah.length:=fk _;rw[bG,dm (by simp;omega),ae];refine⟨?_,?_⟩
     .have:(a.ah++[n]).map gl=a.w.ah++[gl n]:=by rw[kS];rfl
      unfold AW.w at this ⊢;simp only at this ⊢;simp only[bG];rw[this]
     .show GA (B+17) {a with ah:=a.ah++[n]};refine⟨h.n,λx o=>(h.ps x o).mono O,⟨by have:=h.ord.1;simp only;omega,h.ord.2⟩,⟨?_,λm T=>?_⟩,h.num⟩
      .simp only[cH,eB,iX];omega
      .rcases fx.1 T with q|q
       .exact h.ah.2 m q
       .rw[ia.1 q];exact l
    |false=>
     simp only[aS];obtain⟨b,p⟩:∃b:AW,b={a with ah:=a.ah.take i++a.ah.drop (i+1)}:=⟨_,X⟩
     have j:GA B b:=by rw[p];exact h.CH i
     have s:({a.w with ah:=(a.w.ah.take i++a.w.ah.drop (i+1))}:aZ)=b.w:=by rw[p];unfold AW.w;simp only[kS,List.map_take,List.map_drop]
     have g:a.w.ah.take i++a.w.ah.drop (i+1)=b.w.ah:=by rw[<-s]
     have e:act b n.To=act a n.To:=by rw[p];rfl
     have f:a.w.ah.length=a.ah.length:=fk _;rw[bT (show-9223372036854775808<=(i:Int)+1 by omega) O,show(i:Int)+1=((i+1:Nat):Int) by rfl,Ux (by rw[f];exact t) O,ae,aa7 l.1,ae];simp only[mP];rw[iR,ae,Cs,iR,ae,s,xW j.n,e,ae,iR,ae,g,<-p];have ev:(n.bB==a.w.aO.ce)=(n.bB==a.aO.ce):=X;rw[ev]
     cases D:((d==1)&&(n.bB==a.aO.ce)&&act a n.To)with
     |false=>simp only[aS,ae];refine⟨?_,j.mono O⟩;rw[p];rfl
     |true=>
      rw[eu]at D;have z:dt b n.To=true:=by
       have:act b n.To=true:=by rw[e];exact D.2
       unfold act at this;rw[eu,eu]at this;exact this.1.1
      obtain⟨H,K⟩:=Uz y j Q l z;simp only[bG];rw[H,ae,ae];exact⟨X,K⟩
def gv(v:bB)(g:BitVec 8):bB×Int:=(oV v g 0).getD (bB.zero,1)
set_option maxRecDepth 20000 in
theorem MA(m:BitVec 8):∃r,rX m=some r/\0<=r/\r<=255:=by unfold rX;rw[vJ (by have:=m.isLt;exact this),ae];refine⟨_,X,by omega,?_⟩;exact Int.ofNat_le.2 (Nat.le_of_lt_succ (BitVec.isLt _))
theorem zw(v:bB)(g:BitVec 8)(m:0<=v.ce/\v.ce<=16777215):oV v g 0=some (gv v g)/\((gv v g).2=0->(gv v g).1.ce=v.ce+1/\v.ce+1<=16777215/\(gv v g).1.bJ=v.bJ&&& ~~~g):=by
 have a:∃r,oV v g 0=some r/\(r.2=0->r.1.ce=v.ce+1/\v.ce+1<=16777215/\r.1.bJ=v.bJ&&& ~~~g):=by
  unfold oV sE AV;obtain⟨c,e⟩:=OC v;rw[e,ae,ae,or_some,ae]
  cases j:(c !=0)with
  |true=>exact⟨_,X,λh=>by have h:c=0:=h;subst h;cases j⟩
  |false=>
   rw[aS]
   cases ((((g|||(0:BitVec 8))>>>6).toNat:Int)!=((0:BitVec 8).toNat:Int))||(((g&&&(0:BitVec 8)).toNat:Int)!=((0:BitVec 8).toNat:Int))with
   |true=>exact⟨_,X,λh=>by cases h⟩
   |false=>
    rw[aS]
    cases d:(v.ce==(16777215:Int))with
    |true=>exact⟨_,X,λh=>by cases h⟩
    |false=>
     have d:v.ce≠16777215:=by simpa using d
     obtain⟨k,f,_⟩:=MA ((v.bJ&&& ~~~g)&&&v.bJ);obtain⟨l,i,_⟩:=MA v.bJ;rw[aS,f,ae,i,ae,ae]
     cases decide ((ap ((2:Int)*k))>l)with
     |false=>exact⟨_,X,λh=>by cases h⟩
     |true=>refine⟨_,X,λ_=>⟨bT O O,by omega,?_⟩⟩;show(v.bJ&&& ~~~g)|||0=_;simp
 obtain⟨r,e,h⟩:=a;have:gv v g=r:=by unfold gv;rw[e];rfl
 rw[this];exact⟨e,h⟩
def ge(a:AW):BitVec 8×List aG:=
 foldI (λ(z:BitVec 8×List aG)i(x:bw)=>bif act a (i:Int)then(bif decide (x.bq.length>z.2.length)then(z.1,x.bq)else z)else(z.1|||(a.aO.bJ&&&((1:BitVec 8)<<<i)),z.2)) 0 a.ps ((0:BitVec 8),([]:List aG))
theorem KY{B:Nat}{a:AW}(h:GA B a):bC (xp a.w) a.ps.length 0 ((0:BitVec 8),([]:List aG))=some (ge a)/\
 (∀(j:Nat)x,a.ps[j]?=some x->act a (j:Int)=true->x.bq.length<=(ge a).2.length)/\((ge a).2=[]\/∃(j:Nat)(x:bw),a.ps[j]?=some x/\act a (j:Int)=true/\(ge a).2=x.bq):=by
 obtain⟨n,o,p⟩:=nQ (body:=xp a.w) (λz:BitVec 8×List aG=>z) (λ(z:BitVec 8×List aG)i(x:bw)=>bif act a (i:Int)then(bif decide (x.bq.length>z.2.length)then(z.1,x.bq)else z)else(z.1|||(a.aO.bJ&&&((1:BitVec 8)<<<i)),z.2))
  (λi z=>(∀(j:Nat)x,j<i->a.ps[j]?=some x->act a (j:Int)=true->x.bq.length<=z.2.length)/\(z.2=[]\/∃(j:Nat)(x:bw),a.ps[j]?=some x/\act a (j:Int)=true/\z.2=x.bq)) (l:=a.ps) (λi x z d m=>by
   have e:a.w.all=a.ps:=X;have step:∀g:BitVec 8×List aG,z.2.length<=g.2.length->(act a (i:Int)=true->x.bq.length<=g.2.length)->∀(j:Nat)y,j<i+1->a.ps[j]?=some y->act a (j:Int)=true->y.bq.length<=g.2.length:=λg s t j y A k f=>by
    by_cases c:j=i
    .subst c;rw[d]at k;rw[<-dp k];exact t f
    .exact kC (m.1 j y O k f) s
   unfold xp;rw[xW h.n,ae]
   cases f:act a (i:Int)with
   |false=>rw[aS,aS,og,ae];exact⟨X,step _ (dG _) (λq=>by rw[f]at q;cases q),m.2⟩
   |true=>
    rw[bG,bG,e,cK,d,ae];by_cases c:x.bq.length>z.2.length
    .rw[c0 c,c0 (show(x.bq.length:Int)>(z.2.length:Int) by omega),bG,bG];exact⟨X,step _ (by simp only;omega) (λ_=>dG _),.inr ⟨i,x,d,f,X⟩⟩
    .rw[cm c,cm (show ¬(x.bq.length:Int)>(z.2.length:Int) by omega),aS,aS]
     exact⟨X,step _ (dG _) (λ_=>by omega),m.2⟩) a.ps.length 0 ((0:BitVec 8),([]:List aG)) O ⟨λj x A=>by omega,.inl X⟩
 rw[eX]at n o p;exact⟨n,λj x d=>o j x (dl d).1 d,p⟩
def iS(i:Nat):List aG->Nat
 |[]=>0
 |s::l=>(bif s.aJ==(i:Int)then 1 else 0)+iS i l
theorem Fp(i:Nat)(l:List aG)(d:l.length<=2^40):∀(k j:Nat)(z:Nat),j+k=l.length->z<=j->bC (sK i l) k j (z:Int)=some ((z+iS i (l.drop j):Nat):Int)
 |0,j,z,f,_=>by rw[ie O];rfl
 |k+1,j,z,f,h=>by
  have a:j<l.length:=by omega
  have e:l[j]?=some l[j]:=by simp[a]
  rw[jg a];generalize l[j]=s at e;unfold bC sK;rw[cK,e,ae];unfold iS;have g:ap ((z:Int)+1)=((z+1:Nat):Int):=by rw[bT O O];rfl
  cases s.aJ==(i:Int)with
  |true=>rw[bG,g,ae,bG];have:=Fp i l d k (j+1) (z+1) O O;unfold sK at this;rw[this,yY]
  |false=>rw[aS,ae,aS];have:=Fp i l d k (j+1) z O O;unfold sK at this;rw[this,gF]
def lc(L:List aG)(i:Nat)(x:bw):bw:={x with bq:=L,aF:=⟨0,x.aF.aR.drop (min (iS i (L.drop x.bq.length)) x.aF.aR.length)⟩,to:=⟨0,[]⟩,bN:=⟨0,[]⟩}
def fB(L:List aG)(b:AW)(i:Nat):AW:=
 match b.ps[i]? with
 |none=>b
 |some x=>{b with ps:=b.ps.set i (bif act b (i:Int)then lc L i x else{x with bN:=⟨0,[]⟩})}
theorem yp:mC ⟨0,[]⟩:=⟨by simp,by simp,by simp,List.Pairwise.nil,by simp,by simp⟩
theorem GP.fresh{B:Nat}{x:bw}(h:GP B x){L:List aG}(d:L.length<=B)(e:∀s∈L,s.aY.length<=150)(i:Nat):GP B (lc L i x):=by
 have a:=h.late;refine⟨d,e,⟨jz _,?_⟩,⟨?_,λt f=>a.2 t (pE f)⟩,⟨yp,λp hp=>by cases hp⟩,⟨yp,λp hp=>by cases hp⟩⟩
 .show(0:Int)+((x.aF.aR.drop _).length:Int)<=_;rw[ig];omega
 .show(x.aF.aR.drop _).length<=16;rw[ig];omega
theorem GP.Ze{B:Nat}{x:bw}(h:GP B x):GP B {x with bN:=⟨0,[]⟩}:=⟨h.bq,h.jR,h.base,h.late,h.to,⟨yp,λp hp=>by cases hp⟩⟩
theorem TZ{B:Nat}{a b:AW}{L:List aG}{i:Nat}{x:bw}(h:GA B b)(D:B<=2^34)(z:L.length<=B)(A:∀s∈L,s.aY.length<=150)(f:sW a b)(g:b.ps[i]?=some x)(l:act b (i:Int)=true->x.bq.length<=L.length):
 uJ a.w i (L,b.w,b.ps)=some (L,(fB L b i).w,(fB L b i).ps)/\GA B (fB L b i)/\sW a (fB L b i):=by
 have hp:=h.ps x (du g);have hi:i<b.ps.length:=(dl g).1;have e:∀ps,({b.w with all:=ps,aK:=a.w.aK,ah:=a.w.ah}:aZ)=({b with ps:=ps}:AW).w:=λps=>by unfold AW.w;simp only;rw[f.ord,f.ah]
 have d:∀y:bw,(b.ps.set i y)[i]?=some y:=λy=>by rw[fY hi]
 have k:=hp.late.1;have o:=hp.bq;have one:fB L b i={b with ps:=b.ps.set i (bif act b (i:Int)then lc L i x else{x with bN:=⟨0,[]⟩})}:=by unfold fB;rw[g]
 rw[one];refine⟨?_,?_,?_⟩
 .unfold uJ;simp only;rw[cK,g,ae,e,show({b with ps:=b.ps}:AW).w=b.w from X,xW h.n,ae]
  cases C:act b (i:Int)with
  |false=>simp only[aS,ae];rw[cK,g,ae,eg,cP];refine congrArg some (gu X (gu ?_ X));simp only;exact e _
  |true=>
   have n:=l C;have p:bY L (x.bq.length:Int) (L.length:Int)=some (L.drop x.bq.length):=by unfold bY;rw[bE O];simp only[cP];rw[gN (by simp)]
   have m:=Fp i (L.drop x.bq.length) (by simp;omega) (L.drop x.bq.length).length 0 0 O O;rw[eX,gF]at m;have j:bC (sK i (L.drop x.bq.length)) (L.drop x.bq.length).length 0 (0:Int)=some ((iS i (L.drop x.bq.length):Nat):Int):=m;have t:min ((iS i (L.drop x.bq.length):Nat):Int) (x.aF.aR.length:Int)=((min (iS i (L.drop x.bq.length)) x.aF.aR.length:Nat):Int):=by omega
   have q:bY x.aF.aR ((min (iS i (L.drop x.bq.length)) x.aF.aR.length:Nat):Int) (x.aF.aR.length:Int)=some (x.aF.aR.drop (min (iS i (L.drop x.bq.length)) x.aF.aR.length)):=by unfold bY;rw[bE O];simp only[cP];rw[gN (by simp)]
   simp only[bG];rw[p,ae,j,ae,Fk O,ae,eg,cP,cK,d,ae,ae];simp only;rw[t,q,ae,xY (by simp;omega),ae,eg,ae,eg,li,cK,d,ae,eg,li,ae];simp only;rw[cK,d,ae,eg,li];refine congrArg some (gu X (gu ?_ X));simp only;exact e _
 .refine h.set i ?_;cases act b (i:Int)
  .exact hp.Ze
  .exact hp.fresh z A i
 .exact⟨f.aO,f.ord,f.ah,by simp only[qx];exact f.len⟩
def iC(a:AW):AW×Int:=
 bif (gv a.aO (ge a).1).2 !=0 then(a,(gv a.aO (ge a).1).2)else
 ({foldI (λb i(_:bw)=>fB (ge a).2 b i) 0 a.ps a with aO:=(gv a.aO (ge a).1).1,ord:=[]},0)
theorem BH{a b:AW}{i:Nat}(d:b.aO=a.aO)(e:b.ps.length=a.ps.length)(f:b.ps[i]?=a.ps[i]?):act b (i:Int)=act a (i:Int):=by unfold act dt;rw[d,e,cP,f]
theorem TY{L:List aG}{b:AW}{i j:Nat}(h:j≠i):(fB L b i).ps[j]?=b.ps[j]?:=by
 unfold fB
 cases b.ps[i]? with
 |none=>rfl
 |some x=>simp only;rw[iu (λe=>h e.symm)]
theorem Kd{B:Nat}{a:AW}(h:GA B a)(S:B<=2^34):sJ a.w=some ((iC a).1.w.all,(iC a).1.w,(iC a).2)/\GA B (iC a).1/\(iC a).1.ah=a.ah:=by
 obtain⟨Q,o,K⟩:=KY h;have e:a.w.all=a.ps:=X;have p:(ge a).2.length<=B:=by
  rcases K with q|⟨j,x,f,_,q⟩
  .rw[q];exact kQ _
  .rw[q];exact(h.ps x (du f)).bq
 have t:∀s∈(ge a).2,s.aY.length<=150:=by
  rcases K with q|⟨j,x,f,_,q⟩
  .rw[q];intro s hs;cases hs
  .rw[q];exact(h.ps x (du f)).jR
 obtain⟨F,H⟩:=zw a.aO (ge a).1 h.num;unfold sJ iC;rw[e,Q,ae];generalize ge a=z at o p t F H;obtain⟨g,L⟩:=z;simp only at o p t F H ⊢;have ev:a.w.aO=a.aO:=X;rw[ev,F,ae]
 cases hn:((gv a.aO g).2 !=0)with
 |true=>exact⟨X,h,X⟩
 |false=>
  have y:(gv a.aO g).2=0:=by simpa using hn
  obtain⟨m1,m2,m3⟩:=H y;simp only[aS]
  obtain⟨C,k,n,M⟩:=nQ (body:=uJ a.w) (λb:AW=>(L,b.w,b.ps)) (λb i(_:bw)=>fB L b i) (λi b=>GA B b/\sW a b/\∀j:Nat,i<=j->b.ps[j]?=a.ps[j]?) (l:=a.ps) (λi x b f V=>by
   obtain⟨P,b2,b3⟩:=V;have A:b.ps[i]?=some x:=by rw[b3 i (dG _)];exact f
   obtain⟨s1,s2,s3⟩:=TZ P S p t b2 A (λT=>o i x f (by rw[<-BH b2.aO b2.len (b3 i (dG _))];exact T))
   exact⟨s1,s2,s3,λj hj=>by rw[TY O];exact b3 j O⟩) a.ps.length 0 a O ⟨h,⟨X,X,X,X⟩,λj _=>rfl⟩
  rw[eX]at C k n M;generalize foldI (λb i(_:bw)=>fB L b i) 0 a.ps a=d at C k n M;have D:bC (uJ a.w) a.ps.length 0 (L,a.w,a.ps)=some (L,d.w,d.ps):=C;rw[D,ae];simp only;refine⟨?_,⟨k.n,k.ps,⟨kQ _,λm W=>by cases W⟩,k.ah,?_⟩,n.ah⟩
  .have:a.w.ah=d.w.ah:=by show a.ah.map gl=d.ah.map gl;rw[n.ah]
   rw[this];rfl
  .have:=h.num;simp only;omega
def eU(fu:Nat)(a:AW)(d:nU):AW×Int:=
 bif d.aX==1 then iM a d.dn d.aY else
 bif d.aX==2 then jW a d.dn else
 bif d.aX==3 then iw fu a d.dn d.gZ else
 bif d.aX==4 then gD a d.dn else
 bif d.aX==5 then iC a else(a,1)
theorem NS(a:AW)(p:Int)(t:Y):(iM a p t).1.ord=a.ord:=by
 unfold iM
 cases (gm a p !=0)with
 |true=>rfl
 |false=>
  cases decide (t.length>150)with
  |true=>rfl
  |false=>
   cases decide (a.ah.length=60)with
   |true=>rfl
   |false=>
    cases a.ps[p.toNat]? with
    |none=>rfl
    |some x=>
     simp only[aS]
     cases jZ x.aF with
     |true=>rfl
     |false=>simp only[aS];rw[sv]
theorem BI(a:AW)(p:Int):il a (jW a p).1:=by
 unfold jW
 cases (gm a p !=0)with
 |true=>exact⟨X,X,X⟩
 |false=>
  cases a.ps[p.toNat]? with
  |none=>exact⟨X,X,X⟩
  |some x=>exact il.send (oo (il a) _ 0 a (λb j q _ d=>d.send ..) ⟨X,X,X⟩) ..
theorem KO(a:AW)(p:Int):(gD a p).1.ord=a.ord/\(gD a p).1.ah=a.ah:=by
 unfold gD
 cases (!dt a p)with
 |true=>exact⟨X,X⟩
 |false=>
  cases a.ps[p.toNat]? with
  |none=>exact⟨X,X⟩
  |some x=>exact⟨X,X⟩
theorem BV{α:Type}{f:AW->Nat->α->AW}(h:∀b j x,(f b j x).ps.length=b.ps.length):∀(l:List α)(i:Nat)(b:AW),(foldI f i l b).ps.length=b.ps.length
 |[],_,_=>rfl
 |x::l,i,b=>(BV h l (i+1) _).trans (h b i x)
theorem L9(a:AW)(k f t s:Int)(x:Y):(dO a k f t s x).ps.length=a.ps.length:=by rw[Au]
theorem L8(s f:Int):∀(k i:Nat)(b:AW),(fv s f k i b).ps.length=b.ps.length
 |0,_,_=>rfl
 |k+1,i,b=>by
  unfold fv
  cases b.ord[i]? with
  |none=>rfl
  |some m=>exact(L8 s f k (i+1) _).trans (L9 ..)
theorem XK(b:AW)(p:Int)(t:Y):(hO b p t).ps.length=b.ps.length:=by
 unfold hO
 cases b.ps[p.toNat]? with
 |none=>rfl
 |some x=>simp
theorem XI(L:List aG)(b:AW)(i:Nat):(fB L b i).ps.length=b.ps.length:=by
 unfold fB
 cases b.ps[i]? with
 |none=>rfl
 |some x=>simp
theorem XJ(fu:Nat)(a:AW)(n:aV):(ja fu a n).ps.length=a.ps.length:=by
 unfold ja
 cases (!dt a n.aJ)with
 |true=>rfl
 |false=>
 cases n.aX==1 with
 |true=>
  simp only[bG,aS];unfold ka
  cases a.ps[n.aJ.toNat]? with
  |none=>rfl
  |some x=>
   simp only
   cases decide (n.aA>16777214)with
   |true=>rfl
   |false=>rw[aS,BV λb j t=>by rw[(qK ..).ps]];simp
 |false=>
 cases n.aX==3 with
 |true=>exact L8 ..
 |false=>
 cases n.aX==2 with
 |true=>
  simp only[bG,aS];unfold kc
  cases a.ps[n.To.toNat]? with
  |none=>rfl
  |some x=>
   simp only
   cases decide (n.aA>16777214)with
   |true=>rfl
   |false=>rw[aS,BV λb j t=>XK b n.To t];simp
 |false=>rfl
theorem CF(fu:Nat)(a:AW)(d:nU):(eU fu a d).1.ps.length=a.ps.length:=by
 unfold eU
 cases d.aX==1 with
 |true=>
  rw[bG];unfold iM
  cases (gm a d.dn !=0)with
  |true=>rfl
  |false=>
  cases decide (d.aY.length>150)with
  |true=>rfl
  |false=>
  cases decide (a.ah.length=60)with
  |true=>rfl
  |false=>
  cases a.ps[d.dn.toNat]? with
  |none=>rfl
  |some x=>
   simp only[aS]
   cases jZ x.aF with
   |true=>rfl
   |false=>rw[aS];simp only;rw[L9];simp
 |false=>
 cases d.aX==2 with
 |true=>simp only[bG,aS];rw[(BI a d.dn).ps]
 |false=>
 cases d.aX==3 with
 |true=>
  simp only[bG,aS];unfold iw
  cases !(decide (d.gZ>=1)&&decide (d.gZ<=3))with
  |true=>rfl
  |false=>
  cases !(decide (d.dn>=0)&&decide (d.dn<=(a.ah.length:Int)-1))with
  |true=>rfl
  |false=>
  cases (d.gZ==3)&&decide (a.ah.length=60)with
  |true=>rfl
  |false=>
  cases a.ah[d.dn.toNat]? with
  |none=>rfl
  |some n=>
   simp only[aS]
   cases d.gZ==3 with
   |true=>rfl
   |false=>
    rw[aS];simp only
    cases ((d.gZ==1)&&(n.bB==a.aO.ce))&&act a n.To with
    |true=>rw[bG,XJ]
    |false=>rfl
 |false=>
 cases d.aX==4 with
 |true=>
  simp only[bG,aS];unfold gD
  cases !dt a d.dn with
  |true=>rfl
  |false=>
  cases a.ps[d.dn.toNat]? with
  |none=>rfl
  |some x=>simp
 |false=>
 cases d.aX==5 with
 |true=>
  simp only[bG,aS];unfold iC
  cases (gv a.aO (ge a).1).2 !=0 with
  |true=>rfl
  |false=>rw[aS];show(foldI _ 0 a.ps a).ps.length=_;rw[BV λb j x=>XI ..]
 |false=>rfl
theorem UF{B fu:Nat}{a:AW}(i:200<fu)(h:GA B a)(k:B<=2^34)(d:nU):Hh fu a.w d=some ((eU fu a d).1.w.all,(eU fu a d).1.w,(eU fu a d).2)/\GA (B+17) (eU fu a d).1:=by
 unfold Hh eU
 cases d.aX==1 with
 |true=>
  rw[bG,bG,abx h,ae];refine⟨?_,(h.As ..).mono O⟩;have:=NS a d.dn d.aY;generalize iM a d.dn d.aY=r at this;have e:a.w.aK=r.1.w.aK:=by show a.ord.map dj=r.1.ord.map dj;rw[this]
  rw[e]
 |false=>
 cases d.aX==2 with
 |true=>
  simp only[bG,aS];rw[Tn h,ae];refine⟨?_,(h.again ..).mono O⟩;have:=BI a d.dn;generalize jW a d.dn=r at this;have g:a.w.all=r.1.w.all:=this.ps.symm;have f:a.w.aK=r.1.w.aK:=by show a.ord.map dj=r.1.ord.map dj;rw[this.ord]
  rw[g,f]
 |false=>
 cases d.aX==3 with
 |true=>simp only[bG,aS];obtain⟨g,f⟩:=X4 i h k d.dn d.gZ;rw[g,ae];exact⟨X,f⟩
 |false=>
 cases d.aX==4 with
 |true=>
  simp only[bG,aS];rw[U6 h,ae];refine⟨?_,(h.yl ..).mono O⟩;obtain⟨l,m⟩:=KO a d.dn;generalize gD a d.dn=r at l m;have g:a.w.aK=r.1.w.aK:=by show a.ord.map dj=r.1.ord.map dj;rw[l]
  have f:a.w.ah=r.1.w.ah:=by show a.ah.map gl=r.1.ah.map gl;rw[m]
  rw[g,f]
 |false=>
 cases d.aX==5 with
 |true=>
  simp only[bG,aS];obtain⟨c1,c2,j⟩:=Kd h k;rw[c1,ae];refine⟨?_,c2.mono O⟩;generalize iC a=r at j;have f:a.w.ah=r.1.w.ah:=by show a.ah.map gl=r.1.ah.map gl;rw[j]
  rw[f]
 |false=>exact⟨X,h.mono O⟩
def jN(n:Nat):AW:=⟨⟨0,((1:BitVec 8)<<<n)-(1:BitVec 8)⟩,List.replicate n bw.zero,[],[]⟩
theorem Yb{n:Nat}(h:1<=n/\n<=6):A4 (n:Int)=some ((jN n).w,0):=by
 unfold A4;have a:gP (n:Int)=some n:=by unfold gP;rw[bE O];rfl
 rw[AZ,ae,c0 (show(n:Int)>=1 by omega),c0 (show(n:Int)<=6 by omega),og,a];rfl
theorem GP.zero:GP 0 bw.zero:=⟨dG _,λs a=>(by cases a),⟨jz _,by show(0:Int)+((0:Nat):Int)<=_;omega⟩,⟨kQ _,λt d=>by cases d⟩,⟨yp,λp hp=>by cases hp⟩,⟨yp,λp hp=>by cases hp⟩⟩
theorem GA.new{n:Nat}(h:1<=n/\n<=6):GA 0 (jN n):=by refine⟨by simpa[jN]using h,λx d=>?_,⟨dG _,λm a=>by cases a⟩,⟨kQ _,λm a=>by cases a⟩,⟨jz _,by show(0:Int)<=_;omega⟩⟩;have:=(tD.1 d).2;rw[this];exact GP.zero
theorem Ma{B:Nat}{a:AW}(h:GA B a)(f:B<=2^35){i:Nat}(hi:i<a.ps.length):sM a.w (i:Int)=some (a.ps[i].bq,0):=by have d:dt a (i:Int)=true:=fN.2 ⟨i,X,hi⟩;have hp:=(h.ps a.ps[i] (j6 hi)).bq;have e:a.w.all=a.ps:=X;unfold sM;rw[vF h.n,d,ae];simp only[fX,aS,iW];rw[e,vJ hi,ae,Fk O,ae]
theorem Kt{l:List Int}(h:1<=l.length):l=l[0]::l.drop 1:=by
 cases l with
 |nil=>simp at h
 |cons a l=>rfl
theorem min_eq(l:List Int){fu:Nat}(f:1<=l.length)(k:l.length<=10)(n:20<=fu):∃r,AL fu l=some r/\(0<=r↔∀x∈l,0<=x):=by
 unfold AL;rw[show decide ((l.length:Int)<1)=false from cm O,aS,show(0:Int)=((0:Nat):Int)from X,cK,gG O,ae];obtain⟨r,j,e,g⟩:=Ml (l:=l) (body:=DR l) O (λm i=>rfl) fu 1 l[0] O O;rw[show(1:Int)=((1:Nat):Int)from X,e];refine⟨r,X,?_⟩;rw[g];have e0:=Kt f;constructor
 .rintro⟨a,b⟩ x d;rw[e0]at d;rcases fM.1 d with rfl|d
  .exact a
  .exact b x d
 .intro h;exact⟨h _ (j6 _),λx d=>h x (pE d)⟩
theorem max_eq(l:List Int){fu:Nat}(f:1<=l.length)(k:l.length<=10)(n:20<=fu):∃r,AK fu l=some r/\∀c,r<=c↔∀x∈l,x<=c:=by
 unfold AK;rw[show decide ((l.length:Int)<1)=false from cm O,aS,show(0:Int)=((0:Nat):Int)from X,cK,gG O,ae];obtain⟨r,j,e,g,_⟩:=Mi (l:=l) (body:=DQ l) O (λm i=>rfl) fu 1 l[0] O O;rw[show(1:Int)=((1:Nat):Int)from X,e];refine⟨r,X,λc=>?_⟩;rw[g];have e0:=Kt f;constructor
 .rintro⟨a,b⟩ x d;rw[e0]at d;rcases fM.1 d with rfl|d
  .exact a
  .exact b x d
 .intro h;exact⟨h _ (j6 _),λx d=>h x (pE d)⟩
theorem Fg(t:aV){fu:Nat}(i:20<=fu):zQ fu t=nT t:=by
 obtain⟨r,o,f⟩:=min_eq t.At.toList (fu:=fu) (by simp) (by simp) i;obtain⟨m,p,q⟩:=max_eq t.At.toList (fu:=fu) (by simp) (by simp) i;rw[Kf];unfold zQ;rw[o,p];simp only[oi,ae,zg];have l:(decide (t.aX<0)||decide (t.aX>255)||decide (min (min (min t.aJ t.To) t.bB) t.aA<0)||decide (max t.aJ t.To>5)||decide (max t.bB t.aA>16777215))=(!(decide (t.aX>=0)&&decide (t.aX<=255))||!(decide (t.aJ>=0)&&decide (t.aJ<=5))||!(decide (t.To>=0)&&decide (t.To<=5))||!jy t.bB||!jy t.aA):=by unfold jy;rw[ew];simp only[mQ,eW,rS,oD,lm];omega
 have n:(decide (r<0)||decide (m>16777215))=t.At.toList.any (λx=>!jy x):=by
  rw[ew,zk];simp only[mQ,eW];have g:=q 16777215;constructor
  .intro h;refine Classical.byContradiction λj=>?_;have a:∀x∈t.At.toList,0<=x/\x<=16777215:=λx d=>by
    have:¬(!jy x)=true:=λk=>j ⟨x,d,k⟩;unfold jy at this;simp at this;exact this
   have e:=f.2 λx d=>(a x d).1;have b2:=g.2 λx d=>(a x d).2;omega
  .rintro⟨x,d,k⟩;refine Classical.byContradiction λj=>?_;have e:=f.1 O x d;have b2:=g.1 O x d;unfold jy at k;simp[e,b2]at k
 rw[l,n]
