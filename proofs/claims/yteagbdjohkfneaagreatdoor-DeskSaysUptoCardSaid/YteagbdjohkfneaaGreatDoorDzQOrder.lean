/-
  Commands: what the code reads and what the document reads (the document's functions are laid here: the law does not reach them).
-/
import Derived.Test.YteagbdjohkfneaaGreatDoorDzRefK
namespace Go.Proofs.YteagbdjohkfneaaGreatDoor
open an
set_option linter.unusedVariables false
theorem LO(s:Y)(c:UInt8):Lib.indexByte s c= -1\/(0<=Lib.indexByte s c/\Lib.indexByte s c<s.length):=by
 induction s with
 |nil=>exact .inl X
 |cons b s a=>
  unfold Lib.indexByte;by_cases h:(b==c)=true
  .rw[bE h];right;simp only[eB];omega
  .rw[ca h];rcases a with e|⟨d,f⟩
   .rw[e];left;rfl
   .have:¬(Lib.indexByte s c==-1)=true:=by simp;omega
    rw[ca this];right;simp only[eB];omega
theorem index_one(s:Y)(c:UInt8):∃r,qW s ([c]:Y)=some r/\(r= -1\/(0<=r/\r<s.length)):=by
 unfold qW rK vt;by_cases h:([c]:Y)=s
 .subst h;have a:((([c]:Y).length:Int)==0)=false:=X;refine⟨0,?_,.inr ⟨jz _,Int.zero_lt_one⟩⟩;rw[a,aS,c0 X];rfl
 .have a:((([c]:Y).length:Int)==0)=false:=X;have d:((([c]:Y).length:Int)==1)=true:=X;have e:bh ([c]:Y) 0=some c:=X;simp only[a,d,e,aS,bG,ae,cm h];exact⟨_,X,LO s _⟩
theorem H8{s:Y}{c:UInt8}{fu:Nat}(hs:s.length<=2^21)(hf:s.length+10<fu):cc (oU fu s ([c]:Y)) λl=>l.length<=s.length+1/\∀x∈l,x.length<=s.length:=by
 have k:uy s (c.toBitVec)<=s.length:=by unfold uy;have:=List.count_le_length (l:=s) (a:=UInt8.ofBitVec (c.toBitVec));omega
 have e:0<=uy s (c.toBitVec):=by unfold uy;omega
 unfold oU DZ DX;have e0:((-1:Int)==0)=false:=X;have L:decide (([c]:Y)=[])=false:=X;have M:decide ((-1:Int)<0)=true:=X;have P:((([c]:Y).length:Int)==0)=false:=X;have Q:((([c]:Y).length:Int)==1)=true:=X;have S:bh ([c]:Y) 0=some c:=X;rw[e0,aS,L,aS,M,bG,P,aS,Q,bG,S,ae,ae];generalize hq:uy s (c.toBitVec)=q at k e;obtain⟨n,rfl⟩:=iq e;have w1:ap ((n:Int)+1)=((n+1:Nat):Int):=by rw[bT O O];rfl
 have H:ap ((s.length:Int)+1)=((s.length+1:Nat):Int):=by rw[bT O O];rfl
 have K:min (((n+1:Nat)):Int) ((s.length+1:Nat):Int)=((n+1:Nat):Int):=by omega
 have w4:ap (((n+1:Nat):Int)-1)=(n:Int):=by rw[bT O O];omega
 rw[ae,w1,H,K];have o:gP ((n+1:Nat):Int)=some (n+1):=by unfold gP;rw[bE O];rfl
 rw[o,ae,dX,dX,mo]
 refine lW (λz=>∃i:Nat,z.2.1=(i:Int)/\i<=n/\z.2.2.length=n+1/\z.1.length<=s.length/\∀x∈z.2.2,x.length<=s.length) (λz=>((n:Int)-z.2.1).toNat)
  ⟨0,X,kQ _,by simp,dG _,λx m=>by rw[(tD.1 m).2];simp⟩ (by simp only;omega) ?_
 rintro⟨t,z,l⟩ ⟨i,F,hi,D,p,m⟩;simp only at F D p m;subst F;have j:∀C:Y,C.length<=s.length->cc (some (C,((i:Nat):Int),l)) λa=>cc ((bh a.2.2 a.2.1).bind λx46=>Let (a.2.2.set a.2.1.toNat a.1) λB=>(bY B 0 (ap (a.2.1+1))).bind λA=>some A) λa=>cc (some a) λl=>l.length<=s.length+1/\∀x∈l,x.length<=s.length:=λC y=>by
  rw[co];simp only;have f:i<l.length:=by omega
  have w:ap ((i:Int)+1)=((i+1:Nat):Int):=by rw[bT O O];rfl
  rw[vJ f,ae,lU,w,dX,vV];refine⟨by simp only[qx];omega,?_⟩;rw[co,co];refine⟨by simp;omega,λx g=>?_⟩;have:=pF g;have:=pE this;rcases qu this with h|h
  .exact m x h
  .rw[h];exact y
 unfold D0;simp only;rw[H,K,w4,fc];refine⟨λq=>?_,λq=>?_⟩
 .have q:i<n:=by simpa using q
  obtain⟨r,V,W⟩:=index_one t c;rw[V,ae,fc];refine⟨λd=>?_,λd=>?_⟩
  .rw[co];exact mW.2 (qG.2 (j t p))
  .have d:¬r<0:=by simpa using d
   have W:0<=r/\r<t.length:=by omega
   have T:(([c]:Y).length:Int)=1:=X;have f:i<l.length:=by omega
   rw[bT (show-9223372036854775808<=r+0 by omega) O,T,bT (show-9223372036854775808<=r+1 by omega) O,bT (show-9223372036854775808<=(i:Int)+1 by omega) O,dX,vV];refine⟨by omega,?_⟩;rw[vJ f,ae,lU,dX,vV];refine⟨by omega,?_⟩;rw[co];refine kT.2 ⟨⟨i+1,X,by omega,by simpa using D,?_,λx g=>?_⟩,?_⟩
   .simp only[fE,ig];omega
   .rcases qu g with h|h
    .exact m x h
    .rw[h];simp only[fE,ig];omega
   .simp only;omega
 .rw[co];exact mW.2 (qG.2 (j t p))
theorem NG{t:Y}:∀(k i:Nat)(z:Int)(b:Nat),i+k=t.length->i<=b->0<=z->z<10^b->b+k<=12->
 cM (z6 t) k i z=some (bif (t.drop i).all fj then .inl (cT z (t.drop i))else .inr (0,false))
 |0,i,z,b,h,_,_,_,_=>by rw[ie O];rfl
 |k+1,i,z,b,h,n,j,l,m=>by
  have hi:i<t.length:=by omega
  have a:t[i]?=some t[i]:=by simp[hi]
  generalize t[i]=c at a;rw[drop_at a,nB];have p:(10:Int)^b<=10^11:=by
   have:(10:Nat)^b<=10^11:=lN O O
   exact_mod_cast this
  have d:(10:Int)^(b+1)=10^b*10:=by rw[Int.pow_succ]
  unfold cM z6;rw[Fb a,ae,or_some,ae];have e:c.toBitVec.toNat=c.toNat:=X;have o:=c.toNat_lt;rw[e,show((48:BitVec 8).toNat:Int)=48 from X,show((57:BitVec 8).toNat:Int)=57 from X];have f:(decide ((c.toNat:Int)<48)||decide ((c.toNat:Int)>57))=!fj c:=by unfold fj;rw[ew];simp;omega
  rw[f]
  cases hd:fj c with
  |false=>rfl
  |true=>have g:=qs.1 hd;rw[fX,aS,kR,bT (show-9223372036854775808<=z*10 by omega) O,bT (show-9223372036854775808<=z*10+(c.toNat:Int) by omega) O,bT (show-9223372036854775808<=z*10+(c.toNat:Int)-48 by omega) O];exact NG k (i+1) _ (b+1) O O O (by rw[d];omega) O
theorem TA{fu:Nat}(j:20<fu):∃v,strings_makeASCIISet fu ([48,49,50,51,52,53,54,55,56,57]:Y)=some (v,true)/\kI v λc=>decide (48<=c)&&decide (c<=57):=by
 have hd:∀i,i<10->([48,49,50,51,52,53,54,55,56,57]:Y)[i]?=some (UInt8.ofNat (48+i)):=by decide
 have d:cc (strings_makeASCIISet fu ([48,49,50,51,52,53,54,55,56,57]:Y)) λr=>r.2=true/\kI r.1 λc=>decide (48<=c)&&decide (c<=57):=by
  unfold strings_makeASCIISet;rw[mo];refine lW (λz=>∃i:Nat,z.1=(i:Int)/\i<=10/\kI z.2 λc=>decide (48<=c)&&decide (c<48+i)) (λz=>(10-z.1).toNat) ⟨0,X,by omega,kI.rep.to λc f=>by first|(simp;done)|(simp;omega)⟩ (by simp only;omega) ?_;rintro⟨z,v⟩ ⟨i,g,hi,a⟩;simp only at g a;subst g;unfold D1;simp only;rw[fc];refine⟨λc=>?_,λc=>?_⟩
  .have c:i<10:=by(have:(i:Int)<10:=by simpa using c);omega
   rw[cK,hd i c,ae];have e:(UInt8.ofNat (48+i)).toBitVec.toNat=48+i:=by show(UInt8.ofNat (48+i)).toNat=_;simp;omega
   rw[e,show((128:BitVec 8).toNat:Int)=128 from X,cm (show ¬((48+i:Nat):Int)>=128 by omega),aS,a.cI O,ae,lU,co,cP];refine kT.2 ⟨⟨i+1,by rw[bT O O];rfl,by omega,?_⟩,by simp only;rw[bT O O];omega⟩;refine(a.set (48+i) true).to λc f=>?_;by_cases q:c=48+i
   .subst q;rw[sD];simp
   .rw[sC q];congr 1;rw[ew];simp;omega
  .have c:¬i<10:=by(have:(10:Int)<=i:=by simpa using c);omega
   have:i=10:=by omega
   subst this;rw[co];refine mW.2 (qG.2 (co.2 ⟨X,a.to λc f=>?_⟩));congr 1;rw[ew];simp;omega
 obtain⟨⟨v,b⟩,e,rfl,h⟩:=d;exact⟨v,e,h⟩
theorem Ku{v:Vector Bool 256}(a:kI v λc=>decide (48<=c)&&decide (c<=57))(c:UInt8):xb v c.toBitVec=some (fj c):=by unfold xb;have e:c.toBitVec.toNat=c.toNat:=X;have:=c.toNat_lt;rw[e,a.cI O];rfl
theorem abh{v:Vector Bool 256}(k:kI v λc=>decide (48<=c)&&decide (c<=57)){t:Y}{fu:Nat}(m:t.length<=100)(l:110<fu):cc (AS fu t v) λr=>r.length<=t.length/\(r=[]↔t.all fj=true)/\(r≠[]->r.all fj=false):=by
 unfold AS;rw[dX,mo];refine lW (λz=>∃d:Y,t=z++d/\d.all fj=true) (λz=>z.length) ⟨[],by simp,X⟩ O ?_;rintro z ⟨d,hd,i⟩;have f:z.length<=t.length:=by rw[hd];simp
 unfold D3;rw[fc];refine⟨λc=>?_,λc=>?_⟩
 .have c:0<z.length:=by simpa using c
  have w:ap ((z.length:Int)-1)=((z.length-1:Nat):Int):=by rw[bT O O];omega
  have g:z[z.length-1]?=some (z[z.length-1]'O):=by simp
  generalize z[z.length-1]'O=x at g;have a:z=z.take (z.length-1)++[x]:=by
   conv=>lhs;rw[<-eQ (z.length-1) z]
   rw[drop_at g,ie O]
  rw[w,cK,g,ae,Ku k,ae,fc];refine⟨λq=>?_,λq=>?_⟩
  .have q:fj x=false:=by simpa using q
   have j:z.all fj=false:=by rw[a,jf];simp[q]
   rw[co];refine mW.2 (qG.2 (co.2 (co.2 ⟨f,?_,λ_=>j⟩)));constructor
   .intro e;rw[e]at c;simp at c
   .intro e;rw[hd,jf,j]at e;cases e
  .have q:fj x=true:=by simpa using q
   rw[dX,vV];refine⟨by omega,?_⟩;rw[co];refine kT.2 ⟨⟨x::d,?_,by rw[nB,q,i];rfl⟩,?_⟩
   .simp only[Int.toNat_zero,eX,px,cP];rw[hd]
    conv=>lhs;rw[a]
    simp
   .simp only[fE,ig];omega
 .have c:¬0<z.length:=by simpa using c
  have a:z=[]:=pC.1 O;rw[co];refine mW.2 (qG.2 (co.2 (co.2 ⟨f,⟨λ_=>?_,λ_=>a⟩,λh=>absurd a h⟩)));rw[hd,a];exact i
theorem XH{v:Vector Bool 256}(f:kI v λc=>decide (48<=c)&&decide (c<=57)){t:Y}{fu:Nat}(j:t.length<=100)(i:110<fu):cc (AR fu t v) λr=>r=[]↔t.all fj=true:=by
 unfold AR;rw[dX,mo];refine lW (λz=>∃d:Y,t=d++z/\d.all fj=true) (λz=>z.length) ⟨[],by simp,X⟩ O ?_;rintro z ⟨d,hd,a⟩;have g:z.length<=t.length:=by rw[hd];simp
 unfold D2
 cases z with
 |nil=>rw[cm (show ¬((([]:Y).length:Int)>0) by simp),aS,co];refine mW.2 (qG.2 (co.2 (co.2 ⟨λ_=>?_,λ_=>rfl⟩)));rw[hd,is];exact a
 |cons x z=>
  have el:bh (x::z) (0:Int)=some x:=cK (x::z) 0;rw[c0 (show(((x::z).length:Int)>0) by simp only[eB];omega),bG,el,ae,Ku f,ae,fc];refine⟨λq=>?_,λq=>?_⟩
  .have q:fj x=false:=by simpa using q
   rw[co];refine mW.2 (qG.2 (co.2 (co.2 ⟨λh=>(by cases h),λe=>?_⟩)));rw[hd,jf,nB,q,Bool.false_and,zf]at e;cases e
  .have q:fj x=true:=by simpa using q
   rw[dX,vV];refine⟨by simp only[eB];omega,?_⟩;rw[co];refine kT.2 ⟨⟨d++[x],?_,by rw[jf,a];simp[q]⟩,?_⟩
   .rw[hd];simp
   .simp only[fE,ig,eB];omega
theorem Ov{t:Y}{fu:Nat}(g:1<=t.length)(p:t.length<=100)(i:110<fu):∃r,xa fu t ([48,49,50,51,52,53,54,55,56,57]:Y)=some r/\(r=[]↔t.all fj=true):=by
 obtain⟨v,ev,j⟩:=TA (fu:=fu) O;obtain⟨r,m,o,a,f⟩:=abh j p i;obtain⟨q,eq,n⟩:=XH j (t:=r) O i;have d:t≠[]:=λe=>by rw[e]at g;simp at g
 refine⟨q,?_,?_⟩
 .unfold xa;have k:decide (([48,49,50,51,52,53,54,55,56,57]:Y)=[])=false:=X;have l:((([48,49,50,51,52,53,54,55,56,57]:Y).length:Int)==1)=false:=X;rw[cm d,aS,k,ae,aS,l,aS,ae,aS,ev,ae];simp only[bG];rw[m,ae,eq];rfl
 .rw[n];by_cases e:r=[]
  .rw[e];simp only[List.all_nil,true_iff];exact a.1 e
  .rw[f e];constructor
   .intro h;cases h
   .intro h;exact absurd (a.2 h) e
theorem N0(a b c:Int):uA a b c=some (decide (a>=b)&&decide (a<=c)):=by unfold uA;rw[iR,ae]
def np(s:Y):Bool:=match s with|c::_=>c==45|[]=>false
theorem Ls(s:Y):vr s ([45]:Y)=some (np s):=by
 unfold vr
 cases s with
 |nil=>rfl
 |cons c s=>
  have e:(([45]:Y).length:Int)=1:=X;have a:bY (c::s) 0 1=some [c]:=by unfold bY;rw[bE (by simp only[eB];omega)];rfl
  rw[e,c0 (show((c::s).length:Int)>=1 by simp only[eB];omega),bG,a,ae,ae];congr 1;show decide ([c]=[45])=(c==45)
  rw[ew];simp
def qA(s:Y):Y:=bif np s then s.drop 1 else s
theorem acy(s:Y):AQ s ([45]:Y)=some (qA s):=by
 unfold AQ Cg qA;rw[Ls,ae]
 cases h:np s with
 |false=>rfl
 |true=>
  have e:(([45]:Y).length:Int)=1:=X
  have d:1<=s.length:=by cases s with
   |nil=>cases h
   |cons c s=>simp
  have a:bY s 1 (s.length:Int)=some (s.drop 1):=by unfold bY;rw[bE O];congr 1;exact gN (by simp)
  rw[bG,e,a];rfl
theorem Mq{s:Y}{fu:Nat}(T:s.length<=2^21)(S:200<fu):∃n b,wQ fu s=some (n,b)/\wx s=some (n,b)/\(b=true->-1000000000<n/\n<1000000000):=by
 have q:(bif np s then((bY s (1:Int) (s.length:Int)).bind λP=>some (P,(-1:Int)))else some (s,(1:Int)))=some (qA s,bif np s then-1 else 1):=by
  unfold qA
  cases h:np s with
  |false=>rfl
  |true=>
   have C:1<=s.length:=by cases s with
    |nil=>cases h
    |cons c s=>simp
   have p:bY s 1 (s.length:Int)=some (s.drop 1):=by unfold bY;rw[bE O];congr 1;exact gN (by simp)
   rw[bG,p];rfl
 have C:(qA s).length<=s.length/\s.length<=(qA s).length+1:=by
  unfold qA
  cases h:np s with
  |false=>simp
  |true=>simp;omega
 unfold wQ wx DY;rw[acy,ae,N0,ae,Ls,ae,ae,q,ae];simp only;rw[or_some,ae];generalize g:qA s=t at C;by_cases m:1<=t.length/\t.length<=9
 .have x:(decide ((t.length:Int)>=1)&&decide ((t.length:Int)<=9))=true:=by simp;omega
  have y:(decide ((t.length:Int)<1)||decide ((t.length:Int)>9))=false:=by rw[rR];simp;omega
  obtain⟨r,H,q⟩:=Ov (t:=t) (fu:=fu) m.1 O O;rw[x,y,fX,aS,aS,H,ae,ae,dm (by simp;omega),ae];have k:(Y.bytes t).length=t.length:=by simp[Y.bytes]
  have F:=NG (t:=t) t.length 0 0 0 O O O O O;rw[eX]at F;rw[k,F]
  cases j:t.all fj with
  |false=>
   have:r≠[]:=λe=>by rw[q.1 e]at j;cases j
   rw[cm this];exact⟨0,false,X,X,λh=>by cases h⟩
  |true=>
   rw[c0 (q.2 j)];simp only[fX,aS,bG,jK];have o:=Fq (t:=t) t.length 0 0 0 O O O O O (by rw[eX];exact j);rw[eX]at o;have M:=Fz t 0 0 O O j;have hp:(10:Int)^(0+t.length)<=10^9:=by
    have:(10:Nat)^(0+t.length)<=10^9:=lN O O
    exact_mod_cast this
   generalize Q:cT 0 t=D at o M;have L:0<=D/\D<1000000000:=by omega
   have B:lX s=some ((bif np s then-D else D),()):=by
    unfold lX yT;have K:0<s.length:=by omega
    obtain⟨c,a,rfl⟩:∃c a,s=c::a:=by
     cases s with
     |nil=>simp at K
     |cons c a=>exact⟨c,a,X⟩
    have el:bh (c::a) (0:Int)=some c:=cK (c::a) 0;have p:c.toBitVec.toNat=c.toNat:=X;have i:((c.toBitVec.toNat:Int)==((45:BitVec 8).toNat:Int))=(c==45):=by
     rw[p,ew,gO,gO,show((45:BitVec 8).toNat:Int)=45 from X];constructor
     .intro h;exact UInt8.toNat_inj.1 (by simp;omega)
     .intro h;rw[h];rfl
    have z:((c.toBitVec.toNat:Int)==((43:BitVec 8).toNat:Int))=(c==43):=by
     rw[p,ew,gO,gO,show((43:BitVec 8).toNat:Int)=43 from X];constructor
     .intro h;exact UInt8.toNat_inj.1 (by simp;omega)
     .intro h;rw[h];rfl
    rw[c0 (show(0:Int)<((c::a).length:Int) by omega),bG,c0 (show((c::a).length:Int)<19 by omega),ae,bG,el,ae,ae,i,z,or_some,ae];have d:np (c::a)=(c==45):=X;rw[d];unfold qA at g;rw[d]at g
    cases f:c==45 with
    |true=>
     rw[f,bG]at g;have g:a=t:=by simpa using g
     subst g;have l:bY (c::a) 1 ((c::a).length:Int)=some a:=by unfold bY;rw[bE (by simp only[eB];omega)];simp
     rw[Bool.true_or,bG,l,ae,cm (show ¬(a.length:Int)<1 by omega),aS,jK,dm (by simp;omega),ae,k,o,jK,ae,i,f,bG,ae,ae,bT (show-9223372036854775808<=0-D by omega) O];simp
    |false=>
     rw[f,aS]at g;subst g;have A:(c==43)=false:=by rw[nB,eu,qs]at j;rw[rR,ne_eq,gO];intro h;rw[h]at j;have:(43:UInt8).toNat=43:=X;omega
     rw[A,oE,aS,jK,dm (by simp only[iX];omega),ae,k,o,jK,ae,i,f,aS,ae,ae];rfl
   rw[B];refine⟨bif np s then-D else D,true,X,?_,λ_=>?_⟩
   .congr 2
    cases np s with
    |true=>rw[bG,bG,bT (show-9223372036854775808<=-1*D by omega) O];omega
    |false=>rw[aS,aS,bT (show-9223372036854775808<=1*D by omega) O];omega
   .cases np s with
    |true=>rw[bG];omega
    |false=>rw[aS];omega
 .have x:(decide ((t.length:Int)>=1)&&decide ((t.length:Int)<=9))=false:=by rw[rR];simp;omega
  have y:(decide ((t.length:Int)<1)||decide ((t.length:Int)>9))=true:=by simp;omega
  rw[x,y];exact⟨0,false,X,X,λh=>by cases h⟩
theorem kinds(x:Y):∃k:Int,gE (x==·) ([([115,101,116]:Y),([97,100,100]:Y),([109,111,115,116]:Y),([99,111,112,121]:Y)]:List Y)=k/\-1<=k/\k<=3/\
 ((k= -1/\gE (x==·) ([([]:Y),([115,101,116]:Y),([97,100,100]:Y),([109,111,115,116]:Y),([99,111,112,121]:Y)]:List Y)<1)\/(0<=k/\gE (x==·) ([([]:Y),([115,101,116]:Y),([97,100,100]:Y),([109,111,115,116]:Y),([99,111,112,121]:Y)]:List Y)=k+1)):=by
 by_cases e:x=[115,101,116]
 .subst e;exact⟨0,by decide,by decide,by decide,.inr ⟨by decide,by decide⟩⟩
 by_cases f:x=[97,100,100]
 .subst f;exact⟨1,by decide,by decide,by decide,.inr ⟨by decide,by decide⟩⟩
 by_cases g:x=[109,111,115,116]
 .subst g;exact⟨2,by decide,by decide,by decide,.inr ⟨by decide,by decide⟩⟩
 by_cases h:x=[99,111,112,121]
 .subst h;exact⟨3,by decide,by decide,by decide,.inr ⟨by decide,by decide⟩⟩
 refine⟨-1,B9.2 λy a=>?_,by decide,by decide,.inl ⟨X,?_⟩⟩
 .simp only[fM,List.not_mem_nil,or_false]at a;rcases a with rfl|rfl|rfl|rfl<;>simp[*]
 .by_cases d:x=[]
  .subst d;decide
  .have:gE (x==·) ([([]:Y),([115,101,116]:Y),([97,100,100]:Y),([109,111,115,116]:Y),([99,111,112,121]:Y)]:List Y)= -1:=B9.2 λy a=>by
    simp only[fM,List.not_mem_nil,or_false]at a;rcases a with rfl|rfl|rfl|rfl|rfl<;>simp[*]
   rw[this];decide
structure I6(c:db):Prop where
 k1:1<=c.aX
 k4:c.aX<=4
 ae7:0<=c.eI
 ae8:c.eI<=9
 n1:-1000000000<c.N
 n2:c.N<1000000000
 copy:c.aX=4->0<=c.N/\c.N<=9
theorem aa6{s:Y}{fu:Nat}(K:s.length<=2^21)(hf:s.length+300<fu):∃c e,Ar fu s=some (c,e)/\zR fu s=some (c,e)/\(e=0->I6 c):=by
 obtain⟨l,el,-,t⟩:=H8 (fu:=fu) K O;unfold Ar zR;rw[el,ae,ae];by_cases q:l.length=3
 .have m:((l.length:Int)!=3)=false:=by rw[q];rfl
  rw[m,aS,aS];obtain⟨a,b,c,rfl⟩:∃a b c,l=[a,b,c]:=by
   match l,q with
   |[a,b,c],_=>exact⟨a,b,c,X⟩
  have P:bh [a,b,c] (0:Int)=some a:=cK [a,b,c] 0;have Q:bh [a,b,c] (1:Int)=some b:=cK [a,b,c] 1;have S:bh [a,b,c] (2:Int)=some c:=cK [a,b,c] 2;obtain⟨f,x,T,V,W⟩:=Mq (s:=b) (fu:=fu) (by have:=t b (by simp);omega) O;obtain⟨g,b2,p1,p2,p3⟩:=Mq (s:=c) (fu:=fu) (by have:=t c (by simp);omega) O;obtain⟨k,L,k2,k3,M⟩:=kinds a;rw[P,Q,S];simp only[ae];rw[KN,KN,L];simp only[ae];rw[T,V];simp only[ae];rw[p1,p2];simp only[ae,or_some,N0];have wk:ap (k+1)=k+1:=bT O O;rw[wk];rcases M with⟨rfl,o⟩|⟨D,o⟩
  .rw[show((-1:Int)+1==0)=true from X,c0 o];exact⟨db.zero,12,X,X,λh=>by cases h⟩
  .rw[o];have y:(k+1==0)=false:=by simp;omega
   have z:decide (k+1<1)=false:=by simp;omega
   rw[y,z]
   cases x with
   |false=>exact⟨db.zero,12,X,X,λh=>by cases h⟩
   |true=>
    cases b2 with
    |false=>exact⟨db.zero,12,X,X,λh=>by cases h⟩
    |true=>
     have H:=W X;have i:=p3 X;simp only[fX,oE,aS];have A:(decide (f<0)||decide (f>9))=!(decide (f>=0)&&decide (f<=9)):=by rw[ew];simp<;>omega
     have B:(decide (g<0)||decide (g>9))=!(decide (g>=0)&&decide (g<=9)):=by rw[ew];simp<;>omega
     rw[A,B]
     cases j:decide (f>=0)&&decide (f<=9)with
     |false=>exact⟨db.zero,1,X,X,λh=>by cases h⟩
     |true=>
      have d:0<=f/\f<=9:=by simpa using j
      simp only[fX,aS]
      cases C:(k+1==4)with
      |false=>
       have n:k+1≠4:=by simpa using C
       exact⟨⟨k+1,f,g⟩,0,X,X,λ_=>⟨by show 1<=k+1;omega,by show k+1<=4;omega,d.1,d.2,i.1,i.2,λh=>absurd h n⟩⟩
      |true=>
       cases F:decide (g>=0)&&decide (g<=9)with
       |false=>exact⟨db.zero,1,X,X,λh=>by cases h⟩
       |true=>
        have p:0<=g/\g<=9:=by simpa using F
        exact⟨⟨k+1,f,g⟩,0,X,X,λ_=>⟨by show 1<=k+1;omega,by show k+1<=4;omega,d.1,d.2,i.1,i.2,λ_=>p⟩⟩
 .have m:((l.length:Int)!=3)=true:=by simp;omega
  rw[m];exact⟨db.zero,12,X,X,λh=>by cases h⟩
theorem Kl(x:Int):uz x=some (min (max x (-1000000000)) 1000000000):=X
theorem Mp(x:Int):pO x=some (min (max x (-1000000000)) 1000000000):=by
 unfold pO;by_cases a:x>1000000000
 .rw[c0 a,bG];congr 1;omega
 .rw[cm a,aS];by_cases d:x< -1000000000
  .rw[c0 d,bG];congr 1;omega
  .rw[cm d,aS];congr 1;omega
theorem ace{c:db}(h:I6 c)(v:Vector Int 10):∃w,uB v c=some w/\((pO c.N).bind λa=>
 (bif c.aX==(2:Int)then((cI v c.eI).bind λg=>(pO (ap ((max (-1099511627776:Int) (min g (1099511627776:Int)))+a))).bind λf=>some f)else
 bif c.aX==(3:Int)then((cI v c.eI).bind λi=>some (max a i))else
 bif c.aX==(4:Int)then((cI v c.N).bind λj=>some j)else some a).bind λl=>
 (cI v c.eI).bind λL=>Let (v.setIfInBounds c.eI.toNat l) λe=>some e)=some w:=by
 obtain⟨k,d,n⟩:=c;obtain⟨z,A,m,B,C,D,o⟩:=h;simp only at z A m B C D o;obtain⟨x,H⟩:=OA v m (show d<(10:Nat) by omega);unfold uB;simp only[H,ae,Kl,Mp,Let];by_cases p:k=1
 .subst p;exact⟨_,X,X⟩
 by_cases q:k=2
 .subst q;refine⟨_,X,?_⟩;simp only[show((2:Int)==1)=false from X,show((2:Int)==2)=true from X,bG,aS,ae];congr 2;rw[bT (show-9223372036854775808<=max (-1099511627776:Int) (min x 1099511627776)+min (max n (-1000000000)) 1000000000 by omega) O,bT (show-9223372036854775808<=min (max x (-4000000000)) 4000000000+min (max n (-1000000000)) 1000000000 by omega) O];omega
 by_cases s:k=3
 .subst s;refine⟨_,X,?_⟩;simp only[show((3:Int)==1)=false from X,show((3:Int)==2)=false from X,show((3:Int)==3)=true from X,bG,aS,ae];congr 2;omega
 have t:k=4:=by omega
 subst t;have F:=o X;obtain⟨y,K⟩:=OA v F.1 (show n<(10:Nat) by omega);simp only[K,ae,show((4:Int)==1)=false from X,show((4:Int)==2)=false from X,show((4:Int)==3)=false from X,show((4:Int)==4)=true from X,bG,aS];exact⟨_,X,X⟩
theorem NN{v:Vector Int 10}{l:List Y}{fu:Nat}(L:∀s∈l,s.length<=2^21)(S:2^21+400<fu):∃r,su fu v l=some r/\zT fu v l=some r:=by
 obtain⟨e,r,D,_⟩:=NE (f:=wP fu l) (g:=zU fu l) (λ_ _=>True) l.length 0 ((0:Int),v) cy (by
  rintro j ⟨n,z⟩ _ B _;have B:j<l.length:=by omega
  have o:l[j]?=some l[j]:=by simp[B]
  have C:=L _ (du o);generalize l[j]=s at o C;obtain⟨c,e,F,H,K⟩:=aa6 (fu:=fu) C O;unfold wP zU;simp only[cK,o,ae,F,H];by_cases A:e=0
  .subst A;obtain⟨w,M,P⟩:=ace (K X) z;simp only[iW,aS,M,ae]
   have:((pO c.N).bind λa=>
    (bif c.aX==(2:Int)then((cI z c.eI).bind λd=>(pO (ap ((max (-1099511627776:Int) (min d (1099511627776:Int)))+a))).bind λq=>some q)else
    bif c.aX==(3:Int)then((cI z c.eI).bind λi=>some (max a i))else
    bif c.aX==(4:Int)then((cI z c.N).bind λk=>some k)else some a).bind λt=>
    (cI z c.eI).bind λQ=>Let (z.setIfInBounds c.eI.toNat t) λp=>some (n,p))=some (n,w):=by
    revert P
    simp only[Mp,ae,Let]
    cases (bif c.aX==(2:Int)then((cI z c.eI).bind λd=>some (min (max (ap (max (-1099511627776) (min d 1099511627776)+min (max c.N (-1000000000)) 1000000000)) (-1000000000)) 1000000000))else
     bif c.aX==(3:Int)then((cI z c.eI).bind λi=>some (max (min (max c.N (-1000000000)) 1000000000) i))else
     bif c.aX==(4:Int)then((cI z c.N).bind λk=>some k)else some (min (max c.N (-1000000000)) 1000000000))with
    |none=>intro h;cases h
    |some y=>
     simp only[ae]
     cases cI z c.eI with
     |none=>intro h;cases h
     |some x=>simp only[ae];intro h;rw[dp h]
   exact⟨this.symm,_,this,cy⟩
  .have m:(e !=0)=true:=by simpa using A
   rw[m]
   exact⟨X,_,X,cy⟩)
 unfold su zT;rw[e,D];exact⟨_,X,X⟩
theorem Oz(l:List aG)(e:l.length<=2^38):∀(k i:Nat)(z:List Y),i+k=l.length->z.length<=i->bC (xq (l,0)) k i z=some (z++(l.drop i).map (·.aY))
 |0,i,z,d,_=>by rw[ie O];show some z=some (z++[]);rw[is]
 |k+1,i,z,d,g=>by
  have hi:i<l.length:=by omega
  have f:l[i]?=some l[i]:=by simp[hi]
  have a:xq (l,0) i z=some (z++[l[i].aY]):=by unfold xq;simp only;rw[cK,f,ae,dm (by simp;omega),ae]
  unfold bC;rw[a,ae,Oz l e k (i+1) _ O (by simp;omega),jg hi,lS,fL];rfl
def qZ(fu:Nat)(l:List aG):Vector Int 10:=((su fu (Vector.replicate 10 (0:Int)) (l.map (·.aY))).getD (Vector.replicate 10 0,0)).1
theorem acD{B fu:Nat}{a:AW}(d:2^21+400<fu)(h:GA B a)(j:B<=2^35){i:Nat}(hi:i<a.ps.length):A6 fu a.w (i:Int)=some (qZ fu a.ps[i].bq,0):=by
 have hp:=h.ps a.ps[i] (j6 hi);have f:=hp.bq
 obtain⟨r,g,_⟩:=NN (fu:=fu) (v:=Vector.replicate 10 (0:Int)) (l:=a.ps[i].bq.map (·.aY)) (λs k=>by
  obtain⟨x,m,rfl⟩:=mS.1 k;have:=hp.jR x m
  omega) d
 have e:=Oz a.ps[i].bq O a.ps[i].bq.length 0 [] O (by simp);rw[eX,pq]at e;unfold A6;rw[Ma h j hi,ae];simp only[iW,aS];rw[e,ae,g,ae];unfold qZ;rw[g];rfl
theorem ND{σ:Type}{body:Nat->σ->Option σ}(a:Nat->σ->Prop):∀(k i:Nat)(s t:σ),bC body k i s=some t->a i s->(∀j s d,j<i+k->a j s->body j s=some d->a (j+1) d)->a (i+k) t
 |0,i,s,t,h,e,_=>by have:s=t:=dp h;rw[<-this];exact e
 |k+1,i,s,t,h,e,f=>by have h:(body i s).bind (λd=>bC body k (i+1) d)=some t:=h;obtain⟨d,g,l⟩:=Cl.1 h;have:=ND a k (i+1) d t l (f i s d O e g) λj s d m=>f j s d O;rwa[show i+(k+1)=i+1+k by omega]
theorem Yc{n:Nat}:zO (n:Int)=some ((jN n).r []):=by
 unfold zO;rw[og,ae];have a:∀{α:Type}(d:α)(f:bw->α),f bw.zero=d->RV d f (List.replicate n bw.zero)=Vector.replicate 6 d:=λd f h=>by
  apply rP;intro j e;simp only[RV,Cp,qw]
  cases hd:(List.replicate n bw.zero)[j]? with
  |none=>rfl
  |some y=>rw[(tD.1 (du hd)).2];exact h
 unfold AW.r jN;rw[a [] (·.bq) X,a To.zero (·.to) X,a aJ.zero (·.aF) X,a To.zero (·.bN) X];simp only[pD];rfl
theorem Mb.new{n:Nat}(h:1<=n/\n<=6):Mb (jN n):=by
 have:∀n:Fin 7,1<=n.val->(((1:BitVec 8)<<<n.val)-(1:BitVec 8)).toNat<2^n.val:=by decide
 unfold Mb jN;simp only[pD];exact this ⟨n,by omega⟩ h.1
theorem CL{n i:Nat}{x:bw}(a:(jN n).ps[i]?=some x):x=bw.zero:=(tD.1 (du a)).2
theorem gx.new{n:Nat}:gx [] (jN n):=λi x a=>by rw[CL a];rfl
theorem OS.new{n:Nat}:OS 0 (jN n):=by
 refine⟨λm d=>(by cases d),λx a=>?_,λi x a=>?_,λm d=>(by cases d),λi x a=>?_,λm d=>(by cases d),λi x a _=>?_⟩
 .rw[(tD.1 a).2];exact jz _
 .rw[CL a];exact⟨jz _,λp hp=>(by cases hp)⟩
 .rw[CL a];rfl
 .rw[CL a];exact jz _
theorem XP{a:AW}(d:1<=a.ps.length/\a.ps.length<=6){p:Int}(h:dt a p=false):sM a.w p=some ([],1):=by unfold sM;rw[vF d,h,ae];rfl
theorem Xx{B:Nat}{a:AW}(h:GA B a){i:Nat}(hi:i<a.ps.length):A5 a.w (i:Int)=some (a.ps[i].aF.aR,0):=by have d:dt a (i:Int)=true:=fN.2 ⟨i,X,hi⟩;have hp:=(h.ps a.ps[i] (j6 hi)).late;have e:a.w.all=a.ps:=X;unfold A5;rw[vF h.n,d,ae];simp only[fX,aS,iW];rw[e,vJ hi,ae,xY O,ae]
theorem NP(l:List aG)(f:l.length<=2^38):∀(k i:Nat)(z:List Y),i+k=l.length->z.length<=i->bC (wo l) k i z=some (z++(l.drop i).map (·.aY))
 |0,i,z,d,_=>by have e:l.drop i=[]:=ie O;rw[e];show some z=some (z++[]);rw[is]
 |k+1,i,z,d,h=>by
  have hi:i<l.length:=by omega
  have g:l[i]?=some l[i]:=by simp[hi]
  have a:wo l i z=some (z++[l[i].aY]):=by unfold wo;rw[cK,g,ae,dm (by simp;omega),ae]
  unfold bC;rw[a,ae,NP l f k (i+1) _ O (by simp;omega),jg hi,lS,fL];rfl
theorem abs{B fu:Nat}{a:AW}{g:List (Int×Int)}(d:2^21+400<fu)(h:GA B a)(o:B<=2^35){i:Nat}(hi:i<a.ps.length):wn fu (a.r g) (i:Int)=some (qZ fu a.ps[i].bq):=by
 have hp:=h.ps a.ps[i] (j6 hi);have f:=hp.bq
 obtain⟨r,m,n⟩:=NN (fu:=fu) (v:=Vector.replicate 10 (0:Int)) (l:=a.ps[i].bq.map (·.aY)) (λs j=>by
  obtain⟨x,k,rfl⟩:=mS.1 j;have:=hp.jR x k
  omega) d
 have e:=NP a.ps[i].bq O a.ps[i].bq.length 0 [] O (by simp);rw[eX,pq]at e;unfold wn;rw[show(a.r g).dr=RV [] (·.bq) a.ps from X,oH (by have:=h.n.2;omega) (show a.ps[i]?=some a.ps[i] by simp[hi]),ae,e,ae,n,ae];unfold qZ;rw[m];rfl
def okW(s:Y):Bool:=decide (1<=s.length)&&decide (s.length<=4)&&s.all fj
theorem qI{s:Y}:okW s=true↔1<=s.length/\s.length<=4/\s.all fj=true:=by unfold okW;simp[and_assoc]
theorem pM{s:Y}(h:okW s=true):0<=cT 0 s/\cT 0 s<10000:=by
 obtain⟨e,f,a⟩:=qI.1 h;have:=Fz s 0 0 O ab a;have d:(10:Nat)^(0+s.length)<=10^4:=lN O O;have g:(10:Int)^(0+s.length)<=10^4:=by exact_mod_cast d
 omega
theorem ol{s:Y}{fu:Nat}(g:110<fu):iT fu s=some (if okW s=true then(cT 0 s,0)else(0,12)):=by
 unfold iT;rw[or_some,ae];by_cases h:1<=s.length/\s.length<=4
 .obtain⟨r,f,d⟩:=Ov (t:=s) h.1 O g;rw[cm (show ¬(s.length:Int)<1 by omega),cm (show ¬(s.length:Int)>4 by omega),oE,aS,f,ae,ae];by_cases a:s.all fj=true
  .rw[c0 (d.2 a),fX,aS,J0 h.1 O a,ae,bE (qI.2 ⟨h.1,h.2,a⟩)]
  .rw[cm (λe=>a (d.1 e)),lO,bG,ca (λe=>a (qI.1 e).2.2)]
 .have e:(decide ((s.length:Int)<1)||decide ((s.length:Int)>4))=true:=by simp;omega
  rw[e,bG,ae,bG,ca (λe=>h ⟨(qI.1 e).1,(qI.1 e).2.1⟩)]
theorem N5{t:Y}:∀(k i:Nat)(z:Int)(b:Nat),i+k=t.length->i<=b->0<=z->z<10^b->b+k<=12->
 cM (z8 t) k i z=some (bif (t.drop i).all fj then .inl (cT z (t.drop i))else .inr (-1))
 |0,i,z,b,h,_,_,_,_=>by rw[ie O];rfl
 |k+1,i,z,b,h,n,j,l,m=>by
  have hi:i<t.length:=by omega
  have a:t[i]?=some t[i]:=by simp[hi]
  generalize t[i]=c at a;rw[drop_at a,nB];have p:(10:Int)^b<=10^11:=by
   have:(10:Nat)^b<=10^11:=lN O O
   exact_mod_cast this
  have d:(10:Int)^(b+1)=10^b*10:=by rw[Int.pow_succ]
  unfold cM z8;rw[Fb a,ae,or_some,ae];have e:c.toBitVec.toNat=c.toNat:=X;have o:=c.toNat_lt;rw[e,show((48:BitVec 8).toNat:Int)=48 from X,show((57:BitVec 8).toNat:Int)=57 from X];have f:(decide ((c.toNat:Int)<48)||decide ((c.toNat:Int)>57))=!fj c:=by unfold fj;rw[ew];simp;omega
  rw[f]
  cases hd:fj c with
  |false=>rfl
  |true=>have g:=qs.1 hd;rw[fX,aS,kR,Oe hd,bT (show-9223372036854775808<=10*z by omega) O,bT (show-9223372036854775808<=10*z+((c.toNat:Int)-48) by omega) O,show 10*z+((c.toNat:Int)-48)=z*10+(c.toNat:Int)-48 by omega];exact N5 k (i+1) _ (b+1) O O O (by rw[d];omega) O
theorem AN(s:Y):oP s=some (if okW s=true then cT 0 s else-1):=by
 unfold oP;rw[or_some,ae];by_cases h:1<=s.length/\s.length<=4
 .have hd:=N5 (t:=s) s.length 0 0 0 O O O ab O;rw[eX]at hd;rw[cm (show ¬(s.length:Int)<1 by omega),cm (show ¬(s.length:Int)>4 by omega),oE,aS,dm (by simp;omega),ae,J8,hd]
  cases a:s.all fj with
  |true=>rw[bE (qI.2 ⟨h.1,h.2,a⟩)];rfl
  |false=>rw[ca (λe=>by rw[(qI.1 e).2.2]at a;cases a)];rfl
 .have e:(decide ((s.length:Int)<1)||decide ((s.length:Int)>4))=true:=by simp;omega
  rw[e,bG,ca (λe=>h ⟨(qI.1 e).1,(qI.1 e).2.1⟩)]
theorem Mr{fu:Nat}(m:110<fu)(l:List Y)(o:l.length<=2^30):pf fu l=some (if l.all okW=true then(l.map (cT 0),0)else([],12))/\Aa l=some (if l.all okW=true then(l.map (cT 0),true)else([],false)):=by
 have f:∀(k i:Nat)(z:List Int),i+k=l.length->z.length<=i->
  cM (yf fu l) k i z=some (if(l.drop i).all okW=true then .inl (z++(l.drop i).map (cT 0))else .inr ([],12))/\cM (Ab l) k i z=some (if(l.drop i).all okW=true then .inl (z++(l.drop i).map (cT 0))else .inr ([],false)):=by
  intro k
  induction k with
  |zero=>intro i z h _;rw[ie O];exact⟨by show some (Sum.inl z)=some (Sum.inl (z++[]));rw[is],by show some (Sum.inl z)=some (Sum.inl (z++[]));rw[is]⟩
  |succ k n=>
   intro i z h p;have hi:i<l.length:=by omega
   have d:l[i]?=some l[i]:=by simp[hi]
   generalize l[i]=s at d;rw[drop_at d,nB,lS];unfold cM yf Ab;rw[cK,d,ae,ol m,ae,ae,AN,ae];by_cases a:okW s=true
   .have:=pM a;rw[bE a,bE a,iW,aS,cm O,aS,dm (by simp;omega),a,kR];have:=n (i+1) (z++[cT 0 s]) O (by simp;omega);rw[fL]at this;exact this
   .have e:(okW s&&(l.drop (i+1)).all okW)=false:=by rw[rR.2 a];rfl
    rw[ca a,ca a,e];exact⟨X,X⟩
 obtain⟨g,j⟩:=f l.length 0 [] O (by simp);rw[eX,pq]at g j;unfold pf Aa;rw[g,j];by_cases h:l.all okW=true
 .simp only[bE h];exact⟨X,X⟩
 .simp only[ca h];exact⟨X,X⟩
def fh(c:UInt8):Int:=Lib.indexByte ([108,115,116]:Y) c+1
theorem LZ(c:UInt8):0<=fh c/\fh c<=3:=by
 rcases LO ([108,115,116]:Y) c with h|⟨d,a⟩
 .unfold fh;omega
 .unfold fh;simp at a;omega
theorem L1(c:UInt8):fh c=0↔([108,115,116]:Y).contains c=false:=by
 unfold fh;by_cases a:c=108
 .subst a;decide
 by_cases d:c=115
 .subst d;decide
 by_cases f:c=116
 .subst f;decide
 have e:Lib.indexByte ([108,115,116]:Y) c= -1:=by unfold Lib.indexByte Lib.indexByte Lib.indexByte Lib.indexByte;simp[Ne.symm a,Ne.symm d,Ne.symm f]
 rw[e];simp[a,d,f]
theorem L0(c:UInt8):fh c-1=Dw ([108,115,116]:Y) c.toBitVec:=by show Lib.indexByte ([108,115,116]:Y) c+1-1=Lib.indexByte ([108,115,116]:Y) c;omega
theorem XS(c:UInt8):strings_IndexByte ([108,115,116]:Y) c.toBitVec=some (fh c-1):=by rw[L0];rfl
theorem Md(c:UInt8):qW ([108,115,116]:Y) [c]=some (fh c-1):=by unfold qW rK;have a:((([c]:Y).length:Int)==0)=false:=X;have d:((([c]:Y).length:Int)==1)=true:=X;have e:bh ([c]:Y) 0=some c:=X;have f:decide (([c]:Y)=[108,115,116])=false:=cm (by simp);simp only[a,d,e,f,aS,bG,ae];rw[L0];rfl
def ns:Y->Option Nat
 |[]=>none
 |c::t=>if fh c=0 then(ns t).map (·+1)else some 0
theorem KV:∀s:Y,Lib.indexAny s ([108,115,116]:Y)=match ns s with|some p=>(p:Int)|none=>-1
 |[]=>rfl
 |c::t=>by
  unfold Lib.indexAny ns;rw[KV t];by_cases h:fh c=0
  .rw[bE h,(L1 c).1 h]
   cases ns t with
   |none=>rfl
   |some p=>
    show(if false=true then(0:Int)else if((p:Int)==-1)=true then-1 else(p:Int)+1)=((p+1:Nat):Int)
    rw[ca ab,ca (by simp)];rfl
  .rw[ca h];have:([108,115,116]:Y).contains c=true:=by
    cases a:([108,115,116]:Y).contains c with
    |true=>rfl
    |false=>exact absurd ((L1 c).2 a) h
   rw[this];rfl
theorem KW{s:Y}:∀{p:Nat},ns s=some p->∃c,s[p]?=some c/\fh c≠0/\∀(j:Nat)d,j<p->s[j]?=some d->fh d=0:=by
 induction s with
 |nil=>intro p h;cases h
 |cons c t n=>
  intro p h;unfold ns at h;by_cases a:fh c=0
  .rw[bE a]at h
   cases f:ns t with
   |none=>rw[f]at h;cases h
   |some q=>
    rw[f]at h;obtain rfl:q+1=p:=by simpa using h
    obtain⟨d,i,k,l⟩:=n f;refine⟨d,by simpa using i,k,λj e m g=>?_⟩
    cases j with
    |zero=>(obtain rfl:c=e:=by simpa using g);exact a
    |succ j=>exact l j e O (by simpa using g)
  .rw[ca a]at h;obtain rfl:0=p:=by simpa using h
   exact⟨c,X,a,λj d m=>by omega⟩
theorem Vh{s:Y}:ns s=none->∀(j:Nat)d,s[j]?=some d->fh d=0:=by
 induction s with
 |nil=>intro _ j d h;simp at h
 |cons c t e=>
  intro h j d hd;unfold ns at h;by_cases a:fh c=0
  .rw[bE a]at h
   cases j with
   |zero=>(obtain rfl:c=d:=by simpa using hd);exact a
   |succ j=>exact e (by simpa using h) j d (by simpa using hd)
  .rw[ca a]at h;cases h
def jx(s:Y):Option aT:=
 match ns s with
 |none=>none
 |some p=>match s[p]? with
  |none=>none
  |some c=>if okW (s.take p)=true/\(if fh c>1 then okW (s.drop (p+1))=true else p+1=s.length)then
   some {aT.zero with cb:=cT 0 (s.take p),aX:=fh c,cq:=if fh c>1 then cT 0 (s.drop (p+1))else 0}else none
theorem Kx{α:Type}{l:List α}{p:Nat}(h:p<=l.length):bY l 0 (p:Int)=some (l.take p):=by unfold bY;rw[bE O];rfl
theorem xZ{α:Type}{l:List α}{p:Nat}(h:p<=l.length):bY l (p:Int) (l.length:Int)=some (l.drop p):=by unfold bY;rw[bE O,cP,cP,gN (by simp)]
theorem UX{fu:Nat}(k:110<fu){s:Y}(B:s.length<=2^30):∃y,ye fu s=some (y,if(jx s).isSome=true then 0 else 12)/\∀x,jx s=some x->y=x:=by
 have l:strings_IndexAny s ([108,115,116]:Y)=some (Lib.indexAny s ([108,115,116]:Y)):=by unfold strings_IndexAny yS;rw[bE ⟨X,by omega⟩]
 unfold ye;rw[l,ae,KV]
 cases hp:ns s with
 |none=>
  have:jx s=none:=by unfold jx;rw[hp]
  exact⟨aT.zero,by rw[this];rfl,λx d=>by rw[this]at d;cases d⟩
 |some p=>
  obtain⟨c,j,A,-⟩:=KW hp;have n:=(dl j).1;have m:=LZ c
  have a:jx s=if okW (s.take p)=true/\(if fh c>1 then okW (s.drop (p+1))=true else p+1=s.length)then
   some {aT.zero with cb:=cT 0 (s.take p),aX:=fh c,cq:=if fh c>1 then cT 0 (s.drop (p+1))else 0}else none:=by
   unfold jx;rw[hp];simp only;rw[j]
  have o:ap ((p:Int)+1)=((p+1:Nat):Int):=by rw[bT O O];rfl
  have t:ap (fh c-1+1)=fh c:=by rw[bT O O];omega
  simp only;rw[cm (show ¬(p:Int)<0 by omega),aS,Kx O,ae,cK,j,ae,ol k,ae,XS,o,xZ O];by_cases h:okW (s.take p)=true
  .rw[bE h];simp only[iW,aS,ae];rw[t,ol k];by_cases g:fh c>1
   .have e:(fh c !=1)=true:=by simp;omega
    rw[e,bG,ae];by_cases f:okW (s.drop (p+1))=true
    .rw[bE ⟨h,by rw[bE g];exact f⟩,bE g]at a;rw[bE f,a];exact⟨_,X,λx d=>dp d⟩
    .rw[ca (λq=>by rw[bE g]at q;exact f q.2)]at a;rw[ca f,a];exact⟨aT.zero,X,λx d=>by cases d⟩
   .have z:fh c=1:=by omega
    have e:(fh c !=1)=false:=by simp;omega
    rw[e,aS];by_cases f:p+1=s.length
    .have i:s.drop (p+1)=[]:=ie O;rw[bE ⟨h,by rw[ca g];exact f⟩,ca g]at a;rw[a,i];exact⟨_,X,λx d=>dp d⟩
    .have i:s.drop (p+1)≠[]:=λq=>f (by have:=congrArg List.length q;simp at this;omega);rw[ca (λq=>by rw[ca g]at q;exact f q.2)]at a;rw[a,cm i];exact⟨aT.zero,X,λx d=>by cases d⟩
  .rw[ca (λq=>h q.1)]at a;rw[ca h,a];exact⟨aT.zero,X,λx d=>by cases d⟩
theorem UZ{s:Y}(hs:s.length<=2^30):∃y,zZ s=some (y,(jx s).isSome)/\∀x,jx s=some x->y=x:=by
 have o:∀(i:Nat)c,s[i]?=some c->bY s (i:Int) (ap ((i:Int)+1))=some [c]:=by intro i c n;have hi:=(dl n).1;rw[bT O O];unfold bY;rw[bE O,cP,show((i:Int)+1).toNat-i=1 by omega,drop_at n];rfl
 have K:∀(i:Nat)c,s[i]?=some c->fh c=0->pP s i ()=some (.go ()):=by intro i c n H;unfold pP;rw[o i c n,ae,Md,ae,H];rfl
 have A:∀(m k i:Nat),(∀(j:Nat)d,j<i+m->s[j]?=some d->fh d=0)->i+m+k<=s.length->cM (pP s) (m+k) i ()=cM (pP s) k (i+m) ():=by
  intro m
  induction m with
  |zero=>intro k i _ _;rw[gF,lj]
  |succ m T=>
   intro k i h hl;have hi:i<s.length:=by omega
   have f:s[i]?=some s[i]:=by simp[hi]
   rw[show m+1+k=(m+k)+1 by omega];show(pP s i ()).bind _=_;rw[K i _ f (h i _ O f),ae];have:=T k (i+1) (λj d L=>h j d O) O;rw[show i+1+m=i+(m+1) by omega]at this;exact this
 have C:iO (s.length:Int)=some s.length:=by unfold iO;rw[bE O];rfl
 unfold zZ;rw[C,ae]
 cases hp:ns s with
 |none=>
  have F:jx s=none:=by unfold jx;rw[hp]
  have:=A s.length 0 0 (λj d _ hd=>Vh hp j d hd) O;rw[lj]at this;rw[this];exact⟨aT.zero,by rw[F];rfl,λx f=>by rw[F]at f;cases f⟩
 |some p=>
  obtain⟨c,n,M,B⟩:=KW hp;have Q:=(dl n).1;have P:=LZ c
  have a:jx s=if okW (s.take p)=true/\(if fh c>1 then okW (s.drop (p+1))=true else p+1=s.length)then
   some {aT.zero with cb:=cT 0 (s.take p),aX:=fh c,cq:=if fh c>1 then cT 0 (s.drop (p+1))else 0}else none:=by
   unfold jx;rw[hp];simp only;rw[n]
  have D:=A p (s.length-p) 0 (λj d L hd=>B j d O hd) O;rw[show p+(s.length-p)=s.length by omega,gF,show s.length-p=(s.length-p-1)+1 by omega]at D;rw[D];have W:ap ((p:Int)+1)=((p+1:Nat):Int):=by rw[bT O O];rfl
  have w2:ap (fh c-1+1)=fh c:=by rw[bT O O];omega
  have z:∃y,pP s p ()=some (.ret (y,(jx s).isSome))/\∀x,jx s=some x->y=x:=by
   unfold pP;rw[o p c n,ae,Md,ae,w2,show(fh c==0)=false by simpa using M,aS,Kx O,ae,AN,ae,W,xZ O];by_cases l:fh c>1
   .rw[c0 l,bG,ae,AN,ae];simp only[eg,ae,iR,or_some,Bool.true_or,bG];by_cases g:okW (s.take p)=true/\okW (s.drop (p+1))=true
    .have V:=pM g.1;have v2:=pM g.2;rw[bE ⟨g.1,by rw[bE l];exact g.2⟩,bE l]at a;rw[bE g.1,bE g.2,c0 O,c0 O,a];exact⟨_,X,λx f=>dp f⟩
    .rw[ca (λq=>by rw[bE l]at q;exact g q)]at a;have:(decide ((if okW (s.take p)=true then cT 0 (s.take p)else-1)>=(0:Int))&&decide ((if okW (s.drop (p+1))=true then cT 0 (s.drop (p+1))else-1)>=(0:Int)))=false:=by
      rw[oD];by_cases t:okW (s.take p)=true
      .right;rw[ca (λq=>g ⟨t,q⟩)];rfl
      .left;rw[ca t];rfl
     rw[this,a];exact⟨_,X,λx f=>by cases f⟩
   .have e1:fh c=1:=by omega
    rw[cm l,aS,ae];simp only[iR,or_some,ae,Ct];rw[show decide (aT.zero.cq>=0)=true from X,Cs];by_cases g:okW (s.take p)=true
    .have V:=pM g;rw[bE g,c0 O,bG];by_cases t:p+1=s.length
     .rw[bE ⟨g,by rw[ca l];exact t⟩,ca l]at a;rw[a,t];exact⟨_,by simp;rfl,λx f=>dp f⟩
     .rw[ca (λq=>by rw[ca l]at q;exact t q.2)]at a;rw[a,show(((p+1:Nat):Int)==(s.length:Int))=false by simp;omega];exact⟨_,X,λx f=>by cases f⟩
    .rw[ca (λq=>g q.1)]at a;rw[ca g,a];exact⟨_,X,λx f=>by cases f⟩
  obtain⟨y,e,S⟩:=z;refine⟨y,?_,S⟩;unfold cM;rw[e];rfl
def nr:List Y->Option (List aT)
 |[]=>some []
 |s::l=>(jx s).bind λx=>(nr l).map (x::·)
theorem U0{fu:Nat}(o:110<fu)(l:List Y)(A:l.length<=2^30)(p:∀s∈l,s.length<=2^30):mE fu l=some (match nr l with|some a=>(a,0)|none=>([],12)):=by
 have j:∀(k i:Nat)(z:List aT),i+k=l.length->z.length<=i->
  cM (tm fu l) k i z=some (match nr (l.drop i)with|some a=>.inl (z++a)|none=>.inr ([],12)):=by
  intro k
  induction k with
  |zero=>intro i z h _;rw[ie O];show some (Sum.inl z)=some (Sum.inl (z++[]));rw[is]
  |succ k t=>
   intro i z h B;have hi:i<l.length:=by omega
   have g:l[i]?=some l[i]:=by simp[hi]
   have f:=p l[i] (j6 hi);generalize l[i]=s at g f;obtain⟨y,e,q⟩:=UX o f;rw[drop_at g];unfold nr;show(tm fu l i z).bind _=_;have n:tm fu l i z=some (match jx s with|some x=>.go (z++[x])|none=>.ret ([],12)):=by
    unfold tm;rw[cK,g,ae,e,ae]
    cases d:jx s with
    |none=>rfl
    |some x=>rw[q x d];simp only[Cn,if_true,iW,aS];rw[dm (by simp;omega),ae]
   rw[n]
   cases d:jx s with
   |none=>rfl
   |some x=>
    have:=t (i+1) (z++[x]) O (by simp;omega);simp only[ae];rw[this]
    cases nr (l.drop (i+1))with
    |none=>rfl
    |some a=>simp
 have m:=j l.length 0 [] O (by simp);rw[eX]at m;unfold mE;rw[m]
 cases nr l with
 |none=>rfl
 |some a=>rfl
theorem lx{e:Int}(a:0<=e)(f:e<=100)(s:Y):fp e s=some (bif e !=0 then om++d9 e else s):=by
 unfold fp
 cases g:(e !=0)with
 |false=>rfl
 |true=>obtain⟨d,-,h,-⟩:=po (n:=e) a O;rw[bG,d,ae,dm (by simp;omega)];rfl
theorem GI{e:Int}(a:0<=e)(d:e<1000000000):oA e=some (d9 e):=(po a d).1
theorem U1(l:List Y)(A:l.length<=2^30)(p:∀s∈l,s.length<=2^30)(f:List aT->Option Y):
 (andThen (cM (sn l) l.length 0 ([]:List aT)) f)=match nr l with|some a=>f a|none=>some (om++d9 12):=by
 have m:∀(k i:Nat)(z:List aT),i+k=l.length->z.length<=i->
  cM (sn l) k i z=some (match nr (l.drop i)with|some a=>.inl (z++a)|none=>.inr (om++d9 12)):=by
  intro k
  induction k with
  |zero=>intro i z h _;rw[ie O];show some (Sum.inl z)=some (Sum.inl (z++[]));rw[is]
  |succ k t=>
   intro i z h B;have hi:i<l.length:=by omega
   have j:l[i]?=some l[i]:=by simp[hi]
   have g:=p l[i] (j6 hi);generalize l[i]=s at j g;obtain⟨y,e,q⟩:=UZ g;rw[drop_at j];unfold nr;show(sn l i z).bind _=_;have o:sn l i z=some (match jx s with|some x=>.go (z++[x])|none=>.ret (om++d9 12)):=by
    unfold sn;rw[cK,j,ae,e,ae]
    cases d:jx s with
    |none=>simp only[Cm,lO,bG];rw[lx O O];rfl
    |some x=>rw[q x d];simp only[Cn,fX,aS];rw[dm (by simp;omega),ae]
   rw[o]
   cases d:jx s with
   |none=>rfl
   |some x=>
    have:=t (i+1) (z++[x]) O (by simp;omega);simp only[ae];rw[this]
    cases nr (l.drop (i+1))with
    |none=>rfl
    |some a=>simp
 have n:=m l.length 0 [] O (by simp);rw[eX]at n;rw[n]
 cases nr l with
 |none=>rfl
 |some a=>rfl
def IR(x:Int):Prop:=-9223372036854775808<=x/\x<=9223372036854775807
theorem qt{x:Int}(h:IR x):strconv_Itoa x=some (d9 x)/\(d9 x).length<=21:=⟨bE h,Go.Lib.itoa_length_le x h.1 h.2⟩
theorem D4:∀{xs:List Int},(∀x∈xs,IR x)->(hY xs).length<=22*xs.length
 |[],_=>by simp[hY]
 |x::l,h=>by have:=D4 (xs:=l) λy a=>h y (j7 _ a);have d:=(qt (h x mj)).2;have e:hY (x::l)=d9 x++[32]++hY l:=X;rw[e];simp only[cH,eB,iX];omega
theorem A3{xs:List Int}(m:xs.length<=2^20)(h:∀x∈xs,IR x):oQ xs=some (hY xs++[46]):=by
 have e:∀(k i:Nat)(z:Y),i+k=xs.length->z.length<=22*i->bC (uo xs) k i z=some (z++hY (xs.drop i)):=by
  intro k
  induction k with
  |zero=>intro i z g _;rw[ie O];show some z=some (z++[]);rw[is]
  |succ k l=>
   intro i z g n;have hi:i<xs.length:=by omega
   have d:xs[i]?=some xs[i]:=by simp[hi]
   have a:=h xs[i] (j6 hi);generalize xs[i]=x at d a;obtain⟨j,o⟩:=qt a;rw[drop_at d];show(uo xs i z).bind _=_;have a:uo xs i z=some (z++(d9 x++[32])):=by unfold uo;rw[cK,d,ae,j,ae,dm (by simp;omega),ae,dm (by simp;omega),ae]
   rw[a,ae,l (i+1) _ O (by simp;omega),fL];rfl
 have f:=e xs.length 0 [] O (by simp);rw[eX,pq]at f;have:=D4 h;unfold oQ;rw[f,ae,dm (by simp;omega)];rfl
theorem D6{xs:List Int}(d:xs.length<=2^20)(h:∀x∈xs,IR x):qd xs=some (hY xs++[46]):=by unfold qd sA;rw[List.map_id',bE ⟨by omega,λx a=>h x a⟩]
end Go.Proofs.YteagbdjohkfneaaGreatDoor
namespace Go.Proofs.YteagbdjohkfneaaGreatDoor.H
open an
theorem qy{α:Type}{l:List α}{i:Nat}(h:i<l.length):bh l (i:Int)=some l[i]:=by rw[cK];simp[h]
def sP(l:List cV)(a b:Nat):Prop:=(⟨(a:Int),(b:Int)⟩:cV)∈l
def Reach(l:List cV):Nat->Nat->Prop:=Relation.TransGen (sP l)
def Bx(n:Nat)(l:List cV):Prop:=∀p∈l,0<=p.A/\p.A<n/\0<=p.B/\p.B<n
structure o4(l:List cV)(n i:Nat)(row:List Bool)(todo:List Int)(cur:Option (Nat×Nat)):Prop where
 tS:row.length=n
 uE:∀b,row[b]?=some true->Reach l i b
 xe:∀t∈todo,∃k:Nat,t=(k:Int)/\k<n/\(k=i\/row[k]?=some true)
 ve:∀c:Nat,(c=i\/row[c]?=some true)->(c:Int)∈todo\/(∃k,cur=some (c,k))\/∀b,sP l c b->row[b]?=some true
 Kw:∀c k,cur=some (c,k)->(c=i\/row[c]?=some true)/\∀j,j<k->∀b:Nat,l[j]?=some ⟨(c:Int),(b:Int)⟩->row[b]?=some true
theorem Us{row:List Bool}{b:Nat}(h:row[b]?=some false):(row.set b true).count false+1=row.count false:=by
 obtain⟨a,f⟩:=dl h;have e:row=row.take b++false::row.drop (b+1):=by rw[<-f,<-jg a,eQ]
 have d:row.set b true=row.take b++true::row.drop (b+1):=by rw[yX,bE a]
 rw[d]
 conv=>rhs;rw[e]
 simp[List.count_append];omega
theorem Ud{l:List cV}{n i a:Nat}{M0:List (List Bool)}{o:List Bool}{g:List Int}(hl:Bx n l)(hi:i<M0.length)(hm:o.count false+g.length<=2^30)(h0:o4 l n i o g (some (a,0))):
 ∃row d,bC (wd l i (a:Int)) l.length 0 (g,M0.set i o)=some (d,M0.set i row)/\o4 l n i row d (some (a,l.length))/\row.count false+d.length=o.count false+g.length:=by
 refine Exists.elim (HK (body:=wd l i (a:Int)) (λj s=>∃row d,s=(d,M0.set i row)/\o4 l n i row d (some (a,j))/\row.count false+d.length=o.count false+g.length)
  l.length 0 (g,M0.set i o) ⟨o,g,X,h0,X⟩ ?_) ?_
 .rintro j s _ hj ⟨row,d,rfl,q,hc⟩;have x:j<l.length:=by omega
  obtain⟨q1,q2,q3,q4⟩:=hl l[j] (j6 x);have K:∀r:List Bool,bh (M0.set i r) (i:Int)=some r:=λr=>by rw[cK,fY hi]
  unfold wd;rw[qy x];simp only[ae];obtain⟨b,V⟩:=Cu q3;have S:b<n:=by omega
  have y:b<row.length:=by rw[q.tS];exact S
  have m:=q.Kw a j X;by_cases M:l[j].A=(a:Int)
  .have hp:l[j]=(⟨(a:Int),(b:Int)⟩:cV):=by
    cases hh:l[j]with
    |mk A B=>rw[hh]at M V;simp only at M V;subst M V;rfl
   have Q:(l[j].A==(a:Int))=true:=by simpa using M
   rw[Q,bG,K,ae,V,qy y];simp only[ae]
   cases H:row[b]with
   |true=>
    refine⟨_,X,row,d,X,⟨q.tS,q.uE,q.xe,λc h=>?_,λc k h=>?_⟩,hc⟩
    .rcases q.ve c h with h|⟨k,h⟩|h
     .exact .inl h
     .cases h;exact .inr (.inl ⟨_,X⟩)
     .exact .inr (.inr h)
    .cases h;refine⟨m.1,λL T C f=>?_⟩;by_cases e:L=j
     .subst e;rw[gG x,hp]at f;simp only[mi,cV.mk.injEq,mR,true_and]at f;subst f;simp[y,H]
     .exact m.2 L O C f
   |false=>
    have z:row[b]?=some false:=by simp[y,H]
    have p:∀c,row[c]?=some true->(row.set b true)[c]?=some true:=λc h=>by
     by_cases e:b=c
     .subst e;rw[z]at h;cases h
     .rw[iu e];exact h
    have F:(row.set b true)[b]?=some true:=fY y;have W:d.length<=2^30:=by omega
    simp only[lO,bG,K,ae,qy y,eg,cP,li];rw[dm (by simp;omega)];refine⟨_,X,row.set b true,d++[(b:Int)],X,⟨by simp[q.tS],λc h=>?_,λt P=>?_,λc h=>?_,λc k h=>?_⟩,?_⟩
    .by_cases e:b=c
     .subst e;have D:sP l a b:=by unfold sP;rw[<-hp];exact j6 x
      rcases m.1 with h|h
      .subst h;exact .single D
      .exact .tail (q.uE a h) D
     .rw[iu e]at h;exact q.uE c h
    .rcases fx.1 P with P|P
     .obtain⟨k,Q,e2,e3⟩:=q.xe t P;exact⟨k,Q,e2,e3.imp id (p k)⟩
     .simp at P;exact⟨b,P,S,.inr F⟩
    .by_cases e:b=c
     .subst e;exact .inl (by simp)
     .have h':c=i\/row[c]?=some true:=h.imp id λh=>by rw[iu e]at h;exact h
      rcases q.ve c h' with h|⟨k,h⟩|h
      .exact .inl (by simp[h])
      .cases h;exact .inr (.inl ⟨_,X⟩)
      .exact .inr (.inr λC f=>p C (h C f))
    .cases h;refine⟨m.1.imp id (p _),λL T C f=>?_⟩;by_cases e:L=j
     .subst e;rw[gG x,hp]at f;simp only[mi,cV.mk.injEq,mR,true_and]at f;subst f;exact F
     .exact p C (m.2 L O C f)
    .have:=Us z;simp;omega
  .have Q:(l[j].A==(a:Int))=false:=by simpa using M
   rw[Q,aS];simp only[ae,aS];refine⟨_,X,row,d,X,⟨q.tS,q.uE,q.xe,λc h=>?_,λc k h=>?_⟩,hc⟩
   .rcases q.ve c h with h|⟨k,h⟩|h
    .exact .inl h
    .cases h;exact .inr (.inl ⟨_,X⟩)
    .exact .inr (.inr h)
   .cases h;refine⟨m.1,λL T C f=>?_⟩;by_cases e:L=j
    .subst e;rw[gG x]at f;exact absurd (by rw[dp f]) M
    .exact m.2 L O C f
 .rintro s ⟨h1,row,d,rfl,h2,h3⟩;rw[gF]at h2;exact⟨row,d,h1,h2,h3⟩
theorem Km{l:List cV}{n i:Nat}{M0:List (List Bool)}(s:Bx n l)(hi:i<M0.length):∀(fu:Nat)(row:List Bool)(d:List Int),row.count false+d.length<fu->fu<=2^30->o4 l n i row d none->
 ∃a,cw (wc l i) fu (d,M0.set i row)=some (.inl ([],M0.set i a))/\o4 l n i a [] none
 |0,_,_,h,_,_=>by omega
 |fu+1,row,[],h,K,g=>⟨row,by unfold cw wc;rfl,g⟩
 |fu+1,row,t::rest,h,K,g=>by
  obtain⟨k,rfl,M,q⟩:=g.xe t (by simp)
  have C:o4 l n i row rest (some (k,0)):=⟨g.tS,g.uE,λt L=>g.xe t (by simp[L]),λc o=>by
   rcases g.ve c o with h|⟨_,h⟩|h
   .rcases fM.1 h with h|h
    .have:c=k:=by omega
     subst this;exact .inr (.inl ⟨0,X⟩)
    .exact .inl h
   .cases h
   .exact .inr (.inr h),λc j h=>by cases h;exact⟨q,λj p=>by omega⟩⟩
  simp only[eB]at h;obtain⟨f,e,x,m,o⟩:=Ud (M0:=M0) s hi O C
  have D:o4 l n i f e none:=⟨m.tS,m.uE,m.xe,λc o=>by
   rcases m.ve c o with h|⟨j,h⟩|h
   .exact .inl h
   .cases h;refine .inr (.inr λb H=>?_);obtain⟨j,p⟩:=ji H;exact(m.Kw _ l.length X).2 j (dl p).1 b p
   .exact .inr (.inr h),λc j h=>by cases h⟩
  obtain⟨a,y,F⟩:=Km s hi fu f e O O D;refine⟨a,?_,F⟩;unfold cw wc;have z:decide (((((k:Int)::rest:List Int).length:Int))>0)=true:=by simp
  have A:bh ((k:Int)::rest) (0:Int)=some (k:Int):=X;have B:bY ((k:Int)::rest) 1 ((((k:Int)::rest).length:Int))=some rest:=by unfold bY;rw[bE (by simp;omega)];simp
  simp only[z,bG,A,B,ae,x];exact y
theorem o4.all{l:List cV}{n i:Nat}{row:List Bool}(h:o4 l n i row [] none)(b:Nat):row[b]?=some true↔Reach l i b:=by
 have hd:∀c:Nat,(c=i\/row[c]?=some true)->∀b,sP l c b->row[b]?=some true:=λc d=>by
  rcases h.ve c d with h|⟨_,h⟩|h
  .simp at h
  .cases h
  .exact h
 constructor
 .exact h.uE b
 .intro e
  induction e with
  |single a=>exact hd i (.inl X) _ a
  |tail _ a f=>exact hd _ (.inr f) _ a
def Jf(l:List cV)(n:Nat)(M:List (List Bool)):Prop:=M.length=n/\∀(i:Nat)(row:List Bool),M[i]?=some row->row.length=n/\∀b,row[b]?=some true↔Reach l i b
theorem Ue{l:List cV}{n fu:Nat}(C:Bx n l)(F:n<=2^20)(B:n+2<=fu)(f:fu<=2^30):∃M,zG fu (n:Int) l=some M/\Jf l n M:=by
 have m:gP (n:Int)=some n:=by unfold gP;rw[bE O];rfl
 have s:iO (n:Int)=some n:=by unfold iO;rw[bE O];rfl
 unfold zG;simp only[m,s,ae]
 refine Exists.elim (HK (body:=zH fu (n:Int) l) (λi M=>M.length=n/\∀(j:Nat)(row:List Bool),j<i->M[j]?=some row->row.length=n/\∀b,row[b]?=some true↔Reach l j b)
  n 0 (List.replicate n []) ⟨by simp,λj row h=>by omega⟩ ?_) ?_
 .rintro i M _ hi ⟨p,q⟩;have d:i<M.length:=by omega
  have y:o4 l n i (List.replicate n false) [(i:Int)] none:=⟨by simp,λb h=>by
   have:=(dl h).2;simp at this,λt x=>by
   simp at x;exact⟨i,x,by omega,.inl X⟩,λc A=>by
   rcases A with rfl|h
   .exact .inl (by simp)
   .have:=(dl h).2;simp at this,λc k h=>by cases h⟩
  obtain⟨row,e,o⟩:=Km (M0:=M) C d fu (List.replicate n false) [(i:Int)] (by simp;omega) f y;refine⟨M.set i row,?_,by simp[p],λj r D a=>?_⟩
  .unfold zH;simp only[m,ae,qy d,eg,cP,e,jK]
  .by_cases g:i=j
   .subst g;rw[fY d]at a;obtain rfl:=dp a;exact⟨o.tS,o.all⟩
   .rw[iu g]at a;exact q j r O a
 .rintro M ⟨p,q,z⟩;refine⟨M,by rw[p];rfl,q,λi row o=>z i row ?_ o⟩;have:=(dl o).1;omega
def mv(x:aT):Prop:=0<=x.cb/\x.cb<=5/\0<=x.cq/\x.cq<=29
def l8(h:List aT)(i:Nat)(m:Int):Prop:=∀(j:Nat)y,j<i->h[j]?=some y->y.aX=2->y.cq≠m
def lF(h:List aT)(i:Nat)(m p:Int):Prop:=∃(j:Nat)(y:aT),j<i/\h[j]?=some y/\y.aX=2/\y.cq=m/\y.cb=p
def jH(h:List aT)(i:Nat)(x:aT):Prop:=∃j:Nat,j<i/\h[j]?=some x
def kindOk(h:List aT)(i:Nat)(x:aT):Prop:=
 (x.aX=1/\x.cq=0)\/(x.aX=2/\l8 h i x.cq)\/(x.aX=3/\(∃p,lF h i x.cq p/\p≠x.cb)/\¬jH h i x)
open Classical in
noncomputable def jY (h:List aT) (i:Nat):Int:=match h[i]? with
 |none=>0
 |some x=>if mv x then(if kindOk h i x then 0 else 4)else 1
def n7(h:List aT)(n:Nat):Prop:=∀i,i<n->jY h i=0
def rr(h:List aT):Prop:=h.length<=60/\n7 h h.length
theorem BT{h:List aT}{i:Nat}{x:aT}(d:h[i]?=some x)(a:jY h i=0):mv x/\kindOk h i x:=by
 unfold jY at a;rw[d]at a;simp only at a;split at a
 .split at a
  .exact⟨by assumption,by assumption⟩
  .cases a
 .cases a
theorem yj{h:List aT}{i:Nat}{x:aT}(e:h[i]?=some x)(a:mv x)(d:kindOk h i x):jY h i=0:=by unfold jY;rw[e];simp only[bE a,bE d]
theorem FG{h:List aT}{i:Nat}{x:aT}(e:h[i]?=some x)(a:mv x)(d:¬kindOk h i x):jY h i=4:=by unfold jY;rw[e];simp only[bE a,ca d]
theorem FF{h:List aT}{i:Nat}{x:aT}(d:h[i]?=some x)(a:¬mv x):jY h i=1:=by unfold jY;rw[d];simp only[ca a]
theorem n7.range{h:List aT}{n i:Nat}{x:aT}(a:n7 h n)(hi:i<n)(d:h[i]?=some x):mv x:=(BT d (a i hi)).1
theorem NU{h:List aT}{n:Nat}{m p q:Int}(B:n7 h n)(t:lF h n m p)(z:lF h n m q):p=q:=by
 obtain⟨i,x,g,d,l,o,L⟩:=t;obtain⟨j,y,s,b2,b3,b4,M⟩:=z;have a:∀(i j:Nat)(x y:aT),i<n->j<n->h[i]?=some x->h[j]?=some y->x.aX=2->y.aX=2->x.cq=m->y.cq=m->¬i<j:=by
  intro i j x y hi A C D F P H K f;rcases(BT D (B j A)).2 with⟨k,_⟩|⟨_,k⟩|⟨k,_⟩
  .omega
  .exact k i x f C F (H.trans K.symm)
  .omega
 have e:i=j:=by have:=a i j x y g s d b2 l b3 o b4;have:=a j i y x s g b2 d b3 l b4 o;omega
 subst e;rw[d]at b2;obtain rfl:=dp b2;omega
theorem l8.not{h:List aT}{n:Nat}{m p:Int}(e:l8 h n m):¬lF h n m p:=λ⟨j,y,a,b,c,d,_⟩=>e j y a b c d
theorem lF.step{h:List aT}{n:Nat}{m p:Int}{x:aT}(f:h[n]?=some x):lF h (n+1) m p↔lF h n m p\/(x.aX=2/\x.cq=m/\x.cb=p):=by
 constructor
 .rintro⟨j,y,a,b,c,d,e⟩;by_cases g:j=n
  .subst g;rw[f]at b;obtain rfl:=dp b;exact .inr ⟨c,d,e⟩
  .exact .inl ⟨j,y,by omega,b,c,d,e⟩
 .rintro(⟨j,y,a,b,c,d,e⟩|⟨c,d,e⟩)
  .exact⟨j,y,by omega,b,c,d,e⟩
  .exact⟨n,x,by omega,f,c,d,e⟩
theorem jH.step{h:List aT}{n:Nat}{x y:aT}(d:h[n]?=some x):jH h (n+1) y↔jH h n y\/x=y:=by
 constructor
 .rintro⟨j,a,b⟩;by_cases e:j=n
  .subst e;rw[d]at b;exact .inr (dp b)
  .exact .inl ⟨j,by omega,b⟩
 .rintro(⟨j,a,b⟩|rfl)
  .exact⟨j,by omega,b⟩
  .exact⟨n,by omega,d⟩
theorem l8.step{h:List aT}{n:Nat}{m:Int}{x:aT}(f:h[n]?=some x):l8 h (n+1) m↔l8 h n m/\¬(x.aX=2/\x.cq=m):=by
 constructor
 .intro k;exact⟨λj y g=>k j y O,λ⟨a,b⟩=>k n x O f a b⟩
 .rintro⟨i,l⟩ j y g d a b;by_cases e:j=n
  .subst e;rw[f]at d;obtain rfl:=dp d;exact l ⟨a,b⟩
  .exact i j y O d a b
def l0(h:List aT)(c:Int):Prop:=
 (60<h.length/\c=2)\/(h.length<=60/\n7 h h.length/\c=0)\/(h.length<=60/\∃i,i<h.length/\jY h i=c/\c≠0/\n7 h i)
theorem l0.one{h:List aT}{c d:Int}(k:l0 h c)(l:l0 h d):c=d:=by
 rcases k with⟨a,rfl⟩|⟨a,b,rfl⟩|⟨a,i,o,x,y,q⟩<;>rcases l with⟨f,rfl⟩|⟨f,g,rfl⟩|⟨f,j,s,z,A,t⟩<;>try omega
 .have:=b j s;omega
 .have:=g i o;omega
 .have:i=j:=by
   rcases qv i j with e|e|e
   .have:=t i e;omega
   .exact e
   .have:=q j e;omega
  subst this;omega
theorem l0.right{h:List aT}(d:l0 h 0):rr h:=by
 rcases d with⟨_,h⟩|⟨a,b,_⟩|⟨_,_,_,_,h,_⟩
 .cases h
 .exact⟨a,b⟩
 .exact absurd X h
theorem l0.Mw{h:List aT}{c:Int}(d:l0 h c)(a:rr h):c=0:=d.one (.inr (.inl ⟨a.1,a.2,X⟩))
theorem aa8{h:List aT}{i:Nat}{x:aT}(B:n7 h i)(hi:i<h.length):
 cc (bC (zL x (h.take i)) (h.take i).length 0 ((-1:Int),false)) λz=>((z.1= -1/\l8 h i x.cq)\/(0<=z.1/\lF h i x.cq z.1))/\(z.2=true↔jH h i x):=by
 have l:(h.take i).length=i:=by rw[fE];omega
 refine kU (λj z=>((z.1= -1/\l8 h j x.cq)\/(0<=z.1/\lF h j x.cq z.1))/\(z.2=true↔jH h j x)) ⟨.inl ⟨X,λj y k=>by omega⟩,by simp[jH]⟩ ?_ ?_
 .rintro j ⟨s,t⟩ _ k ⟨q,A⟩;rw[l]at k;have g:j<h.length:=by omega
  have d:h[j]?=some h[j]:=by simp[g]
  have f:=B.range O d;unfold zL;rw[dX,qH];refine⟨by omega,?_⟩;rw[List.getElem_take];generalize h[j]=y at d f;simp only[oi,ae,co,zg,GQ];refine⟨?_,?_⟩
  .simp only[l8.step d,lF.step d];by_cases e:y.aX=2/\y.cq=x.cq
   .right;simp only[e.1,e.2,mP,je,bG];exact⟨f.1,by simp⟩
   .have e':(y.aX==2&&y.cq==x.cq)=false:=by simpa using e
    simp only[e',aS];rcases q with⟨a,b⟩|⟨a,b⟩
    .exact .inl ⟨a,b,e⟩
    .exact .inr ⟨a,.inl b⟩
  .rw[jH.step d,mQ,A,eW]
 .intro z o;rw[l]at o;simpa using o
theorem aba(h:List aT):cc (wh h) (l0 h):=by
 unfold wh;rw[fc];refine⟨λB=>co.2 (.inl ⟨by have:=j5 B;omega,X⟩),λB=>?_⟩;have A:h.length<=60:=by have:=ln B;omega
 rw[mo];refine cc.cM (λi _=>n7 h i) (λi hi=>by omega) ?_ ?_
 .intro i _ _ hi l;have d:i<h.length:=by omega
  have o:h[i]?=some h[i]:=by simp[d]
  unfold CX;rw[dX,qH];refine⟨d,?_⟩;generalize h[i]=x at o;simp only[or_some,ae];rw[fc];have z:∀c:Int,jY h i=c->c≠0->l0 h c:=λc j g=>.inr (.inr ⟨A,i,d,j,g,l⟩);have good:jY h i=0->n7 h (i+1):=λj k M=>by
   by_cases e:k=i
   .subst e;exact j
   .exact l k O
  refine⟨λj=>co.2 (z 1 (FF o λg=>?_) ab),λj=>?_⟩
  .simp[mv]at j g;omega
  .have f:mv x:=by simp[mv]at j ⊢;omega
   rw[dX,vV];refine⟨by omega,?_⟩;rw[show((h.drop (0:Int).toNat).take ((i:Int).toNat-(0:Int).toNat))=h.take i by simp];rw[dX];refine(aa8 l d).mono ?_;rintro⟨s,t⟩ ⟨g,F⟩;simp only[iR,ae,fc];refine⟨λk=>co.2 (good (yj o f (.inl (by simpa using k)))),λH=>⟨λk=>co.2 (good (yj o f (.inr (.inl ?_)))),λK=>⟨λk=>co.2 (good (yj o f (.inr (.inr ?_)))),λL=>co.2 (z 4 (FG o f ?_) ab)⟩⟩⟩
   .simp only[eu,gO,eW]at k;rcases g with⟨_,b⟩|⟨a,_⟩
    .exact⟨k.1,b⟩
    .simp only at a;omega
   .simp only[eu,gO,eW,vB,ne_eq,rS]at k;rcases g with⟨a,_⟩|⟨_,b⟩
    .simp only at a;omega
    .refine⟨k.1.1.1,⟨s,b,k.1.2⟩,λC=>?_⟩;have:=F.2 C;simp only at this;rw[this]at k;simp at k
   .rintro(k|⟨a,b⟩|⟨a,⟨p,D,b2⟩,c⟩)
    .simp[k]at H
    .rcases g with⟨q,_⟩|⟨_,y⟩
     .simp only at q;simp[a,q]at K
     .exact b.not y
    .rcases g with⟨_,y⟩|⟨q,y⟩
     .exact y.not D
     .obtain rfl:=NU l D y;have C:t=false:=by
       cases t with
       |false=>rfl
       |true=>exact absurd (F.1 X) c
      simp only at q;simp[a,q,b2,C]at L
 .intro s l;rw[gF]at l;exact co.2 (.inr (.inl ⟨A,l,X⟩))
structure Ck(h:List aT)(j:Nat)(c:f7):Prop where
 jr:∀(m:Nat)(hm:m<30),(c.jr[m]=0/\l8 h j m)\/(∃p,0<=p/\lF h j m p/\c.jr[m]=p+1)
 jQ:∀(m:Nat)(hm:m<30)(p:Nat)(hp:p<6),c.jQ[m][p]=true↔jH h j ⟨(p:Int),3,(m:Int)⟩
theorem Xd(a b c:Int):w8 a b c=some (decide (a>=b)&&decide (a<=c)):=by unfold w8;rw[iR,ae]
theorem UY{h:List aT}{j:Nat}{c:f7}{x:aT}(hr:n7 h j)(s:h[j]?=some x)(t:Ck h j c):cc (AP c x) λr=>r.2=jY h j/\(jY h j=0->Ck h (j+1) r.1):=by
 unfold AP;simp only[Xd,ae,or_some];rw[fc];refine⟨λk=>co.2 ?_,λk=>?_⟩
 .have he:jY h j=1:=FF s λV=>by simp[mv]at k V;omega
  exact⟨he.symm,λL=>by omega⟩
 have z:mv x:=by simp[mv]at k ⊢;omega
 obtain⟨P,K,M⟩:=x;obtain⟨r1,r2,r3,r4⟩:=z;simp only at r1 r2 r3 r4;obtain⟨p,rfl⟩:=iq r1;obtain⟨m,rfl⟩:=iq r3;have hp:p<6:=by omega
 have y:m<30:=by omega
 have z:mv ⟨(p:Int),K,(m:Int)⟩:=⟨r1,r2,r3,r4⟩
 have T:ap ((p:Int)+1)=(p:Int)+1:=bT O O;have Q:¬kindOk h j ⟨(p:Int),K,(m:Int)⟩->jY h j=4:=FG s z;have L:kindOk h j ⟨(p:Int),K,(m:Int)⟩->jY h j=0:=yj s z;have l:=t.jr m y;have H:=t.jQ m y p hp;clear k;simp only[mo,fc,dX,t7,co,lU,qG,cc.Ce,T,cP,gO,ll,vB,ne_eq,bne_eq_false_iff_eq,eW,lm,forall_const,reduceCtorEq,false_implies,and_true];have same:∀c',(c=c')->∀(F:K≠2),K≠3->Ck h (j+1) c':=by
  rintro _ rfl F g;refine⟨λo f=>?_,λo f D i=>?_⟩
  .simp only[l8.step s,lF.step s];rcases t.jr o f with⟨a,b⟩|⟨q,a,b,d⟩
   .exact .inl ⟨a,b,λk=>F k.1⟩
   .exact .inr ⟨q,a,.inl b,d⟩
  .rw[jH.step s,t.jQ o f D i];exact⟨.inl,λk=>k.elim id λk=>by simp only[aT.mk.injEq]at k;exact absurd k.2.1 g⟩
 refine⟨λF=>⟨λhM=>?_,λhM=>?_⟩,λF=>⟨λC=>⟨y,λhs=>?_,λhs=>⟨y,?_⟩⟩,λC=>⟨λg=>⟨y,?_⟩,λg=>?_⟩⟩⟩
 .have:=Q (by rintro(k|⟨k,_⟩|⟨k,_⟩)<;>simp only at k<;>omega);exact⟨this.symm,λh=>by omega⟩
 .have:=L (.inl ⟨F,hM⟩);exact⟨this.symm,λ_=>same c X O O⟩
 .have:=Q (by
   rintro(k|⟨_,k⟩|⟨k,_⟩)
   .simp only at k;omega
   .rcases l with⟨a,_⟩|⟨q,_,a,_⟩
    .omega
    .exact k.not a
   .simp only at k;omega)
  exact⟨this.symm,λh=>by omega⟩
 .have rH:l8 h j m:=by
   rcases l with⟨_,b⟩|⟨q,a,b,d⟩
   .exact b
   .omega
  have:=L (.inr (.inl ⟨C,rH⟩));refine⟨this.symm,λ_=>⟨λo f=>?_,λo f D i=>?_⟩⟩
  .simp only[l8.step s,lF.step s];by_cases e:m=o
   .subst e;right;exact⟨p,by omega,.inr ⟨C,X,X⟩,by simp⟩
   .rw[mO f e];rcases t.jr o f with⟨a,b⟩|⟨q,a,b,d⟩
    .exact .inl ⟨a,b,λk=>e (by have:=k.2;omega)⟩
    .exact .inr ⟨q,a,.inl b,d⟩
  .rw[jH.step s,t.jQ o f D i];exact⟨.inl,λk=>k.elim id λk=>by simp only[aT.mk.injEq]at k;omega⟩
 .have B:¬kindOk h j ⟨(p:Int),K,(m:Int)⟩->(4:Int)=jY h j/\(jY h j=0->Ck h (j+1) c):=λW=>by
   have:=Q W;exact⟨this.symm,λh=>by omega⟩
  have no:∀q,lF h j m q->¬(q≠(p:Int)/\¬jH h j ⟨(p:Int),K,(m:Int)⟩)->¬kindOk h j ⟨(p:Int),K,(m:Int)⟩:=by
   rintro q h1 V (k|⟨k,_⟩|⟨_,⟨q',k1,k2⟩,k3⟩)
   .simp only at k;omega
   .simp only at k;omega
   .obtain rfl:=NU hr h1 k1;exact V ⟨k2,k3⟩
  refine⟨λhs=>B ?_,λhs=>⟨y,λqn=>B ?_,λqn=>⟨y,hp,λA=>B ?_,λA=>⟨y,hp,?_⟩⟩⟩⟩
  .rcases l with⟨_,b⟩|⟨q,a,b,d⟩
   .rintro(k|⟨k,_⟩|⟨_,⟨q',k1,k2⟩,k3⟩)
    .simp only at k;omega
    .simp only at k;omega
    .exact b.not k1
   .omega
  .rcases l with⟨a,_⟩|⟨q,a,b,d⟩
   .omega
   .exact no q b λk=>k.1 O
  .rcases l with⟨a,_⟩|⟨q,a,b,d⟩
   .omega
   .refine no q b λk=>k.2 ?_;rw[g];exact H.1 A
  .have W:kindOk h j ⟨(p:Int),K,(m:Int)⟩:=by
    rcases l with⟨a,_⟩|⟨q,a,b,d⟩
    .omega
    .refine .inr (.inr ⟨g,⟨q,b,by simp only;omega⟩,λht=>?_⟩);rw[g]at ht;rw[H.2 ht]at A;cases A
   refine⟨(L W).symm,λ_=>⟨λo f=>?_,λo f D i=>?_⟩⟩
   .simp only[l8.step s,lF.step s];rcases t.jr o f with⟨a,b⟩|⟨q,a,b,d⟩
    .exact .inl ⟨a,b,λk=>by have:=k.1;omega⟩
    .exact .inr ⟨q,a,.inl b,d⟩
   .rw[jH.step s];simp only[aT.mk.injEq];by_cases e:m=o
    .subst e;by_cases e2:p=D
     .subst e2;simp[g]
     .rw[pz,mO i e2,t.jQ m y D i];exact⟨.inl,λk=>k.elim id λk=>by omega⟩
    .rw[mO f e,t.jQ o f D i];exact⟨.inl,λk=>k.elim id λk=>by omega⟩
 .have:=Q (by rintro(k|⟨k,_⟩|⟨k,_⟩)<;>simp only at k<;>omega);exact⟨this.symm,λh=>by omega⟩
theorem Ck.zero{h:List aT}:Ck h 0 f7.zero:=by
 refine⟨λm a=>.inl ⟨?_,λj y d=>by omega⟩,λm a p hp=>?_⟩
 .simp[f7.zero]
 .simp[f7.zero,jH]
theorem oe(h:List aT):cc (w7 h) (l0 h):=by
 unfold w7;rw[fc];refine⟨λg=>co.2 (.inl ⟨by have:=j5 g;omega,X⟩),λg=>?_⟩;have f:h.length<=60:=by have:=ln g;omega
 rw[mo];refine cc.cM (λi c=>n7 h i/\Ck h i c) ⟨λi hi=>by omega,Ck.zero⟩ ?_ ?_
 .rintro i c _ hi ⟨d,q⟩;have a:i<h.length:=by omega
  have s:h[i]?=some h[i]:=by simp[a]
  unfold DV;rw[dX,qH];refine⟨a,?_⟩;rw[dX];refine(UY d s q).mono ?_;rintro⟨t,e⟩ ⟨j,l⟩;simp only at j l;simp only[fc,co,cc.HM,kT,cc.Ce,vB,ne_eq,bne_eq_false_iff_eq];refine⟨λo=>.inr (.inr ⟨f,i,a,j.symm,o,d⟩),λo=>⟨λk q=>?_,l O⟩⟩;by_cases e':k=i
  .subst e';omega
  .exact d k O
 .rintro c ⟨d,_⟩;rw[gF]at d;exact co.2 (.inr (.inl ⟨f,d,X⟩))
def kY(h:List aT)(i k:Nat):Prop:=i<k/\∃x y,h[i]?=some x/\h[k]?=some y/\(x.cb=y.cb\/(x.aX=2/\y.aX=3/\x.cq=y.cq))
def Hb(h:List aT):Nat->Nat->Prop:=Relation.TransGen (kY h)
def jv(h:List aT)(i k:Nat):Prop:=i=k\/Hb h i k
theorem Hb.lt{h:List aT}{i k:Nat}(d:Hb h i k):i<k:=by
 induction d with
 |single a=>exact a.1
 |tail _ a e=>exact Nat.lt_trans e a.1
theorem Hb.in{h:List aT}{i k:Nat}(e:Hb h i k):k<h.length:=by
 cases e with
 |single a=>obtain⟨_,x,y,_,d,_⟩:=a;exact(dl d).1
 |tail _ a=>obtain⟨_,x,y,_,d,_⟩:=a;exact(dl d).1
theorem jv.le{h:List aT}{i k:Nat}(a:jv h i k):i<=k:=by
 rcases a with rfl|a
 .exact dG _
 .exact Nat.le_of_lt a.lt
theorem Hb.trans{h:List aT}{i j k:Nat}(d:Hb h i j)(a:Hb h j k):Hb h i k:=by
 induction a with
 |single a=>exact .tail d a
 |tail _ a e=>exact .tail e a
theorem jv.trans{h:List aT}{i j k:Nat}(a:jv h i j)(d:jv h j k):jv h i k:=by
 rcases a with rfl|a
 .exact d
 .rcases d with rfl|d
  .exact .inr a
  .exact .inr (a.trans d)
theorem jv.step{h:List aT}{i k:Nat}:jv h i k↔i=k\/∃l,jv h i l/\kY h l k:=by
 constructor
 .rintro(rfl|e)
  .exact .inl X
  .cases e with
   |single a=>exact .inr ⟨i,.inl X,a⟩
   |tail d a=>exact .inr ⟨_,.inr d,a⟩
 .rintro(rfl|⟨l,rfl|d,a⟩)
  .exact .inl X
  .exact .inr (.single a)
  .exact .inr (.tail d a)
theorem kY.V2{h:List aT}{i k:Nat}(a:kY h i k):jv h i k:=.inr (.single a)
theorem NQ{h:List aT}{i k:Nat}{x y:aT}(d:i<=k)(e:h[i]?=some x)(f:h[k]?=some y)(hp:x.cb=y.cb):jv h i k:=by
 rcases pr i k with a|a
 .exact kY.V2 ⟨a,x,y,e,f,.inl hp⟩
 .exact .inl O
def ff(h:List aT)(p:Int)(j:Nat):Nat:=(h.take j).countP λx=>x.cb==p
theorem Fo{h:List aT}{p:Int}:ff h p 0=0:=by simp[ff]
theorem qb{h:List aT}{p:Int}{j:Nat}{x:aT}(a:h[j]?=some x):ff h p (j+1)=ff h p j+if x.cb=p then 1 else 0:=by unfold ff;rw[mN,a,List.countP_append];simp[List.countP_cons]
theorem Fl{h:List aT}{p:Int}{i j:Nat}(a:i<=j):ff h p i<=ff h p j:=by
 unfold ff;refine List.Sublist.countP_le ?_;have:h.take i=(h.take j).take i:=by rw[List.take_take,ir a]
 rw[this];exact List.take_sublist _ _
theorem Kp{h:List aT}{p:Int}{j:Nat}:ff h p j<=j:=by unfold ff;exact kC List.countP_le_length (by simp;omega)
theorem Ug{h:List aT}{p:Int}{j:Nat}:ff h p j<=h.length:=by unfold ff;exact kC List.countP_le_length (by simp;omega)
theorem Ko{h:List aT}{p:Int}{j:Nat}(a:h.length<=j):ff h p j=ff h p h.length:=by unfold ff;rw[gN a,vx]
theorem Uj{h:List aT}{i:Nat}{x:aT}(a:h[i]?=some x):1<=ff h x.cb (i+1):=by rw[qb a,bE X];omega
theorem Ui{h:List aT}{i j:Nat}{y:aT}(a:i<j)(d:h[j]?=some y):ff h y.cb (i+1)<ff h y.cb (j+1):=by have:=Fl (h:=h) (p:=y.cb) (show i+1<=j by omega);rw[qb d,bE X];omega
theorem Uh{h:List aT}{i j:Nat}{x y:aT}(f:h[i]?=some x)(d:h[j]?=some y)(hp:x.cb=y.cb):ff h y.cb (i+1)<=ff h y.cb (j+1)↔i<=j:=by
 constructor
 .intro e;rcases pr j i with a|a
  .have:=Ui a f;rw[hp]at this;omega
  .exact a
 .intro e;exact Fl O
theorem Kq{h:List aT}{p:Int}{n:Nat}(g:1<=n):∀j,n<=ff h p j->∃(i:Nat)(x:aT),i<j/\h[i]?=some x/\x.cb=p/\ff h p (i+1)=n
 |0,d=>by rw[Fo]at d;omega
 |j+1,d=>by
  by_cases f:n<=ff h p j
  .obtain⟨i,x,a,b⟩:=Kq g j f;exact⟨i,x,by omega,b⟩
  .cases e:h[j]? with
   |none=>have:h.length<=j:=GX.1 e;rw[Ko (show h.length<=j+1 by omega)]at d;rw[Ko this]at f;omega
   |some x=>
    rw[qb e]at d;split at d
    .rename_i hp;exact⟨j,x,by omega,e,hp,by rw[qb e,bE hp];omega⟩
    .omega
structure jT(h:List aT)(p:Int)(n:Int)(S:Nat->Prop):Prop where
 lo:0<=n
 hi:n<=ff h p h.length
 iff:∀(i:Nat)(x:aT),h[i]?=some x->x.cb=p->(S i↔(ff h p (i+1):Int)<=n)
namespace jT
variable {h:List aT}{p n m:Int}{S S':Nat->Prop}
theorem le(e:jT h p n S)(f:jT h p m S')(j:∀(i:Nat)(x:aT),h[i]?=some x->x.cb=p->S i->S' i):n<=m:=by
 rcases Int.lt_or_le m n with a|a
 .obtain⟨i,x,_,b,c,d⟩:=Kq (h:=h) (p:=p) (n:=n.toNat) (by have:=f.lo;omega) h.length (by have:=e.hi;omega);have g:=(e.iff i x b c).2 (by have:=e.lo;omega);have k:=(f.iff i x b c).1 (j i x b c g);have:=e.lo;omega
 .exact a
theorem one(d:jT h p n S)(e:jT h p m S')(f:∀(i:Nat)(x:aT),h[i]?=some x->x.cb=p->(S i↔S' i)):n=m:=by have:=d.le e λi x a b=>(f i x a b).1;have:=e.le d λi x a b=>(f i x a b).2;omega
theorem max(d:jT h p n S)(e:jT h p m S'):jT h p (max n m) λi=>S i\/S' i:=by refine⟨by have:=d.lo;omega,by have:=d.hi;have:=e.hi;omega,λi x a b=>?_⟩;rw[d.iff i x a b,e.iff i x a b];omega
theorem congr(d:jT h p n S)(e:∀(i:Nat)(x:aT),h[i]?=some x->x.cb=p->(S' i↔S i)):jT h p n S':=
 ⟨d.lo,d.hi,λi x a b=>(e i x a b).trans (d.iff i x a b)⟩
theorem zero(d:∀(i:Nat)(x:aT),h[i]?=some x->x.cb=p->¬S i):jT h p 0 S:=by refine⟨by omega,by omega,λi x a b=>⟨λk=>absurd k (d i x a b),λk=>?_⟩⟩;have:=Uj a;rw[b]at this;omega
theorem upto{k:Nat}{y:aT}(d:h[k]?=some y):jT h y.cb (ff h y.cb (k+1):Int) λi=>i<=k:=by have e:=(dl d).1;refine⟨by omega,by have:=Fl (h:=h) (p:=y.cb) (show k+1<=h.length by omega);omega,λi x a b=>?_⟩;rw[<-Uh a d b];omega
end jT
def Below(h:List aT)(v:Vector Int 6)(S:Nat->Prop):Prop:=∀(p:Nat)(hp:p<6),jT h p v[p] S
theorem Below.one{h:List aT}{v w:Vector Int 6}{S:Nat->Prop}(a:Below h v S)(d:Below h w S):v=w:=by apply rP;intro p hp;exact(a p hp).one (d p hp) λ_ _ _ _=>Iff.rfl
def xU(h:List aT)(l:List (Vector Int 6)):Prop:=l.length=h.length/\∀(k:Nat)v,l[k]?=some v->Below h v λi=>jv h i k
theorem xU.one{h:List aT}{l m:List (Vector Int 6)}(d:xU h l)(e:xU h m):l=m:=by
 apply pB;intro k;by_cases f:k<h.length
 .have a:l[k]?=some (l[k]'(by rw[d.1];exact f)):=by simp
  have b:m[k]?=some (m[k]'(by rw[e.1];exact f)):=by simp
  rw[a,b,(d.2 k _ a).one (e.2 k _ b)]
 .rw[jA (by rw[d.1];omega),jA (by rw[e.1];omega)]
theorem acO(a b:Vector Int 6):cc (xj a b) λw=>∀(p:Nat)(hp:p<6),w[p]=max a[p] b[p]:=by
 unfold xj;rw[dX];refine kU (λi w=>∀(p:Nat)(hp:p<6),w[p]=if p<i then max a[p] b[p]else a[p]) (λp hp=>by simp) ?_ ?_
 .intro i w _ hi g;have d:i<6:=by omega
  unfold D9;simp only[dX,t7,lU,co,cP];refine⟨d,d,d,λp hp=>?_⟩;by_cases e:i=p
  .subst e;rw[pz,g i d];simp
  .rw[mO hp e,g p hp];by_cases f:p<i
   .rw[bE f,bE O]
   .rw[ca f,ca O]
 .intro w j;rw[co];intro p hp;rw[j p hp,bE O]
def BB(h:List aT)(j:Nat)(p:Int)(i:Nat):Prop:=∃(l:Nat)(x:aT),l<j/\h[l]?=some x/\x.cb=p/\jv h i l
def uY(h:List aT)(j:Nat)(m:Int)(i:Nat):Prop:=∃(l:Nat)(x:aT),l<j/\h[l]?=some x/\x.aX=2/\x.cq=m/\jv h i l
theorem V3{h:List aT}{j i:Nat}{x:aT}(k:h[j]?=some x):jv h i j↔i=j\/BB h j x.cb i\/(x.aX=3/\uY h j x.cq i):=by
 rw[jv.step];constructor
 .rintro(d|⟨l,d,e,a,b,f,t,g⟩)
  .exact .inl d
  .rw[k]at t;obtain rfl:=dp t;rcases g with g|⟨o,q,s⟩
   .exact .inr (.inl ⟨l,a,e,f,g,d⟩)
   .exact .inr (.inr ⟨q,l,a,e,f,o,s,d⟩)
 .rintro(d|⟨l,a,e,f,g,d⟩|⟨q,l,a,e,f,o,s,d⟩)
  .exact .inl d
  .exact .inr ⟨l,d,e,a,x,f,k,.inl g⟩
  .exact .inr ⟨l,d,e,a,x,f,k,.inr ⟨o,q,s⟩⟩
structure E4(h:List aT)(j:Nat)(z:(Vector (Vector Int 6) 30)×(Vector (Vector Int 6) 6)×(Vector Int 6)×(List (Vector Int 6))):Prop where
 last:∀(p:Nat)(hp:p<6),z.2.2.1[p]=(ff h p j:Int)
 now:∀(p:Nat)(hp:p<6),Below h z.2.1[p] (BB h j p)
 abD:∀(m:Nat)(hm:m<30),Below h z.1[m] (uY h j m)
 out:z.2.2.2.length=j/\∀(k:Nat)v,z.2.2.2[k]?=some v->Below h v λi=>jv h i k
theorem acN{h:List aT}{j:Nat}{z:(Vector (Vector Int 6) 30)×(Vector (Vector Int 6) 6)×(Vector Int 6)×(List (Vector Int 6))}(C:rr h)(hj:j<h.length)(hI:E4 h j z):cc (AU h j z) (E4 h (j+1)):=by
 obtain⟨A,now,V,out⟩:=z;obtain⟨h1,W,h3,h4,h5⟩:=hI;simp only at h1 W h3 h4 h5;have B:h[j]?=some h[j]:=by simp[hj]
 unfold AU;rw[dX,qH];refine⟨hj,?_⟩;generalize h[j]=x at B;obtain⟨Gv,hk⟩:=BT B (C.2 j hj);obtain⟨P,K,M⟩:=x;obtain⟨r1,r2,r3,r4⟩:=Gv;simp only at r1 r2 r3 r4;obtain⟨p,rfl⟩:=iq r1;obtain⟨m,rfl⟩:=iq r3;have hp:p<6:=by omega
 have hm:m<30:=by omega
 have hlen:=C.1;have hb:ff h p (j+1)=ff h p j+1:=by rw[qb B,bE X]
 have hle:=Kp (h:=h) (p:=(p:Int)) (j:=j);have FA:ap (V[p]+1)=(ff h p (j+1):Int):=by rw[h1 p hp,hb];rw[bT O O];omega
 simp only;rw[dX,t7];refine⟨hp,?_⟩;rw[dX];have hv:cc (bif K==3 then(cI A (m:Int)).bind λx36=>(xj now[p] x36).bind λr39=>some r39 else some now[p]) λv=>∀(q:Nat)(g:q<6),jT h q v[q] λi=>BB h j p i\/(K=3/\uY h j m i):=by
  simp only[fc,dX,t7,co,gO,ll,ne_eq];refine⟨λH=>⟨hm,(acO _ _).mono λw hw q g=>?_⟩,λH q g=>(W p hp q g).congr λi y _ _=>?_⟩
  .rw[hw q g];exact((W p hp q g).max (h3 m hm q g)).congr λi y _ _=>by simp[H]
  .simp[H]
 refine hv.mono λv hv=>?_;simp only[dX,t7,lU,co,cP,pz,FA];refine⟨hp,hp,hp,hp,hp,?_⟩;have t:Below h (v.setIfInBounds p (ff h p (j+1):Int)) λi=>jv h i j:=by
  intro q g;by_cases e:p=q
  .subst e;rw[pz];exact(jT.upto B).congr λi y hy Q=>⟨λk=>k.le,λk=>NQ k hy B Q⟩
  .rw[mO g e];refine(hv q g).congr λi y hy Q=>?_;rw[V3 B];have L:i≠j:=by
    rintro rfl;rw[B]at hy;obtain rfl:=dp hy;simp only at Q;omega
   simp[L]
 generalize v.setIfInBounds p (ff h p (j+1):Int)=nv at t;have T:∀(q:Nat)(g:q<6),Below h (now.setIfInBounds p nv)[q] (BB h (j+1) q):=by
  intro q g;by_cases e:p=q
  .subst e;rw[pz];refine λr C=>(t r C).congr λi _ _ _=>⟨?_,λk=>⟨j,_,by omega,B,X,k⟩⟩
   rintro⟨l,y,a,b,c,d⟩;exact d.trans (NQ O b B c)
  .rw[mO g e];refine λr C=>(W q g r C).congr λi _ _ _=>⟨?_,λ⟨l,y,a,b⟩=>⟨l,y,by omega,b⟩⟩
   rintro⟨l,y,a,b,c,d⟩;by_cases el:l=j
   .subst el;rw[B]at b;obtain rfl:=dp b;simp only at c;omega
   .exact⟨l,y,by omega,b,c,d⟩
 have hs:cc (bif K==2 then(cI A (m:Int)).bind λx69=>Let (A.setIfInBounds m nv) λYA=>some YA else some A) λs=>∀(o:Nat)(D:o<30),Below h s[o] (uY h (j+1) o):=by
  simp only[fc,dX,t7,lU,co,gO,ll,ne_eq];have F:∀(o:Nat),(K=2->o≠m)->∀i,uY h (j+1) o i↔uY h j o i:=by
   intro o L i;refine⟨?_,λ⟨l,y,a,b⟩=>⟨l,y,by omega,b⟩⟩;rintro⟨l,y,a,b,c,d,e⟩;by_cases el:l=j
   .subst el;rw[B]at b;obtain rfl:=dp b;simp only at c d;have:=L c;omega
   .exact⟨l,y,by omega,b,c,d,e⟩
  refine⟨λH=>⟨hm,λo D=>?_⟩,λH o D r C=>(h3 o D r C).congr λi _ _ _=>F o (λk=>absurd k H) i⟩;by_cases e:m=o
  .subst e;rw[pz];refine λr C=>(t r C).congr λi _ _ _=>⟨?_,λk=>⟨j,_,by omega,B,H,X,k⟩⟩
   rintro⟨l,y,a,b,c,d,e⟩;by_cases el:l=j
   .subst el;exact e
   .rcases hk with⟨k,_⟩|⟨_,k⟩|⟨k,_⟩
    .simp only at k;omega
    .exact absurd d (k l y O b c)
    .simp only at k;omega
  .rw[mO D e];exact λr C=>(h3 o D r C).congr λi _ _ _=>F o (λ_ k=>e k.symm) i
 refine hs.mono λs hs=>?_;rw[cc.HO];refine⟨by simp;omega,?_,T,hs,by simp[h4],?_⟩
 .intro q g;simp only;by_cases e:p=q
  .subst e;rw[pz]
  .rw[mO g e,h1 q g,qb B,ca (by simp only;omega)];rfl
 .intro k w f;simp only at f;by_cases e:k<out.length
  .rw[it e]at f;exact h5 k w f
  .rw[lR O]at f;have Wu:k-out.length=0:=by
    rcases rM (k-out.length)with h0|h0
    .exact h0
    .rw[jA (by simp;omega)]at f;cases f
   rw[Wu]at f;obtain rfl:nv=w:=by simpa using f
   have:k=j:=by omega
   subst this;exact t
theorem acI{h:List aT}(e:rr h):cc (nS h) λr=>r.2=0/\xU h r.1:=by
 unfold nS;rw[dX];refine(oe h).mono λc f=>?_;obtain rfl:=f.Mw e;simp only[iW,aS];rw[dX];refine kU (E4 h) ⟨λp hp=>?_,λp hp=>?_,λm A=>?_,X,λk v g=>by simp at g⟩ (λj z _ t d=>acN e O d) ?_
 .simp[Fo]
 .simp only[qw];intro q o;rw[qw];exact jT.zero λi x _ _⟨l,y,a,_⟩=>by omega
 .simp only[qw];intro q o;rw[qw];exact jT.zero λi x _ _⟨l,y,a,_⟩=>by omega
 .rintro⟨s,n,l,out⟩ d;rw[gF]at d;exact co.2 ⟨X,d.out⟩
theorem acH{h:List aT}{c:Int}(e:l0 h c)(a:c≠0):nS h=some ([],c):=by refine oK ?_;unfold nS;rw[dX];refine(oe h).mono λd hd=>?_;obtain rfl:=e.one hd;rw[show(c !=0)=true by simpa using a];exact co.2 X
structure rf(h:List aT)(i k:Nat)(z:List cV):Prop where
 len:z.length<=60*i+k
 mem:∀q:cV,q∈z↔∃a b:Nat,q=⟨(a:Int),(b:Int)⟩/\kY h a b/\(a<i\/(a=i/\b<k))
theorem TQ{h:List aT}{i fu:Nat}{z:List cV}(hl:h.length<=60)(hi:i<h.length)(dL:100<=fu)(hz:rf h i 0 z):cc (zF fu h i z) (rf h (i+1) 0):=by
 have W:h[i]?=some h[i]:=by simp[hi]
 unfold zF;rw[dX,qH];refine⟨hi,?_⟩;generalize h[i]=x at W;rw[mo];have t:ap ((i:Int)+1)=((i+1:Nat):Int):=by rw[bT O O];rfl
 rw[t];refine lW (λs=>∃k:Nat,s.1=(k:Int)/\i<k/\k<=h.length/\rf h i k s.2) (λs=>61-s.1.toNat) ⟨i+1,X,by omega,by omega,by show z.length<=_;have:=hz.len;omega,?_⟩ (by show 61-((i+1:Nat):Int).toNat<fu;omega) ?_
 .intro q;rw[hz.mem];constructor
  .rintro⟨a,b,e,hp,d|⟨d,j⟩⟩
   .exact⟨a,b,e,hp,.inl d⟩
   .omega
  .rintro⟨a,b,e,hp,d|⟨d,j⟩⟩
   .exact⟨a,b,e,hp,.inl d⟩
   .have:=hp.1;omega
 .rintro⟨k',z⟩ ⟨k,H,Q,ql,o⟩;simp only at H o;subst H;unfold CW;simp only;rw[fc];refine⟨λP=>?_,λP=>?_⟩
  .have T:k<h.length:=by have:=j5 P;omega
   have hy:h[k]?=some h[k]:=by simp[T]
   rw[dX,qH];refine⟨T,?_⟩;generalize h[k]=y at hy;have t:ap ((k:Int)+1)=((k+1:Nat):Int):=by rw[bT O O];rfl
   simp only[iR,ae];have g:z.length+1<=2^40:=by have:=o.len;omega
   have D:kY h i k↔(x.cb=y.cb\/(x.aX=2/\y.aX=3/\x.cq=y.cq)):=by
    constructor
    .rintro⟨_,a,b,ha,L,F⟩;rw[W]at ha;rw[hy]at L;obtain rfl:=dp ha;obtain rfl:=dp L;exact F
    .exact λF=>⟨Q,x,y,W,hy,F⟩
   have old:∀q:cV,q∈z->∃a b:Nat,q=⟨(a:Int),(b:Int)⟩/\kY h a b/\(a<i\/(a=i/\b<k+1)):=λq V=>by obtain⟨a,b,e,hp,d⟩:=(o.mem q).1 V;exact⟨a,b,e,hp,by omega⟩
   have more:∀a b:Nat,kY h a b->(a<i\/(a=i/\b<k+1))->(⟨(a:Int),(b:Int)⟩:cV)∈z\/(a=i/\b=k):=λa b hp d=>by
    by_cases e:a=i/\b=k
    .exact .inr e
    .exact .inl ((o.mem _).2 ⟨a,b,X,hp,by omega⟩)
   have K:kY h i k->rf h i (k+1) (z++[({cV.zero with A:=(i:Int),B:=(k:Int)}:cV)]):=λhp=>by
    refine⟨by have:=o.len;simp;omega,λq=>?_⟩;rw[fx,ia];constructor
    .rintro(V|rfl)
     .exact old q V
     .exact⟨i,k,X,hp,.inr ⟨X,by omega⟩⟩
    .rintro⟨a,b,rfl,f,d⟩;rcases more a b f d with j|⟨rfl,rfl⟩
     .exact .inl j
     .exact .inr X
   have no:¬kY h i k->rf h i (k+1) z:=λhp=>by
    refine⟨by have:=o.len;omega,λq=>⟨old q,?_⟩⟩;rintro⟨a,b,rfl,f,d⟩;rcases more a b f d with j|⟨rfl,rfl⟩
    .exact j
    .exact absurd f hp
   simp only[fc,dX,cc.HO,co,kT,t,List.length_singleton];have C:∀z',rf h i (k+1) z'->(∃l:Nat,((k+1:Nat):Int)=(l:Int)/\i<l/\l<=h.length/\rf h i l z')/\61-(((k+1:Nat):Int)).toNat<61-((k:Nat):Int).toNat:=λz' W7=>⟨⟨k+1,X,by omega,by omega,W7⟩,by omega⟩
   refine⟨λd=>⟨g,C _ (K (D.2 (.inl (by simpa using d))))⟩,λd=>⟨λj=>⟨g,C _ (K (D.2 (.inr (by simpa[and_assoc]using j))))⟩,λj=>C _ (no λF=>?_)⟩⟩;rcases D.1 F with M|⟨M,h5,h6⟩
   .simp[M]at d
   .simp[M,h5,h6]at j
  .have T:k=h.length:=by have:=ln P;omega
   refine co.2 (co.2 ⟨by have:=o.len;simp only;omega,λq=>?_⟩);rw[o.mem];constructor
   .rintro⟨a,b,e,hp,d⟩;exact⟨a,b,e,hp,by omega⟩
   .rintro⟨a,b,e,hp,d⟩;have f:=hp;obtain⟨_,_,y,_,L,_⟩:=hp;have:=(dl L).1;exact⟨a,b,e,f,by omega⟩
def ER(h:List aT)(M:List (List Bool)):Prop:=M.length=h.length/\∀(i:Nat)(row:List Bool),M[i]?=some row->row.length=h.length/\∀k,row[k]?=some true↔Hb h i k
theorem Ka{h:List aT}{fu:Nat}(C:h.length<=60)(l:100<=fu)(f:fu<=2^30):cc (wb fu h) (ER h):=by
 unfold wb;rw[dX];refine kU (λi z=>rf h i 0 z) ⟨by simp,λq=>⟨λk=>by simp at k,λ⟨a,b,_,_,k⟩=>by omega⟩⟩ (λi z _ hi g=>TQ C O l g) ?_;intro z g;rw[gF]at g;have o:Bx h.length z:=by intro q D;obtain⟨a,b,rfl,⟨A,_,y,_,B,_⟩,_⟩:=(g.mem q).1 D;have:=(dl B).1;simp only;omega
 obtain⟨M,e,j⟩:=Ue (fu:=fu) o O O f;have d:Reach z=Hb h:=by
  have:sP z=kY h:=by
   funext a b;apply propext;unfold sP;rw[g.mem];constructor
   .rintro⟨F,H,e,s,_⟩;simp only[cV.mk.injEq,mR]at e;obtain⟨rfl,rfl⟩:=e;exact s
   .intro hp;refine⟨a,b,X,hp,.inl ?_⟩;obtain⟨_,x,_,t,_⟩:=hp;exact(dl t).1
  unfold Reach Hb;rw[this]
 rw[dX,e,co,co];unfold Jf at j;rw[d]at j;exact j
theorem ER.bh{h:List aT}{M:List (List Bool)}(g:ER h M){i k:Nat}{Q:Bool->Prop}(hi:i<h.length)(q:k<h.length)(j:∀b:Bool,(b=true↔Hb h i k)->Q b):cc ((bh M (i:Int)).bind λr=>bh r (k:Int)) Q:=by
 obtain⟨l,e⟩:=g;have a:i<M.length:=by omega
 obtain⟨o,f⟩:=e i M[i] (by simp[a]);rw[dX,qH];refine⟨a,?_⟩;rw[qH];have d:k<M[i].length:=by omega
 refine⟨d,j _ ?_⟩;rw[<-f k];simp[d]
theorem Fr{h:List aT}{p:Int}{n:Int}{S:Nat->Prop}{j:Nat}{x:aT}(e:jT h p n S)(a:h[j]?=some x):
 (x.cb=p->S j->min n (ff h p (j+1):Int)=min n (ff h p j:Int)+1)/\((x.cb≠p\/¬S j)->min n (ff h p (j+1):Int)=min n (ff h p j:Int)):=by
 rw[qb a];refine⟨λhp d=>?_,λf=>?_⟩
 .have:=(e.iff j x a hp).1 d;rw[qb a,bE hp]at this;rw[bE hp];omega
 .by_cases hp:x.cb=p
  .have d:¬S j:=f.resolve_left λk=>k hp;have:=mt (e.iff j x a hp).2 d;rw[qb a,bE hp]at this;rw[bE hp];omega
  .rw[ca hp];simp
theorem abf{h:List aT}{vs:List (Vector Int 6)}{fu:Nat}(hr:rr h)(dL:100<=fu)(F:fu<=2^30)(hv:xU h vs):ui fu h=some vs:=by
 refine oK ?_;have hl:=hr.1;unfold ui;rw[dX];refine(Ka hl dL F).mono λM hM=>?_;rw[dX,cc.Mn];refine⟨by omega,?_⟩;rw[cP,dX];refine kU (λk z=>z.length=h.length/\(∀j,j<k->z[j]?=vs[j]?)/\∀j,k<=j->j<h.length->z[j]?=some (Vector.replicate 6 0)) ⟨by simp,λj f=>by omega,λj _ f=>by simp[f]⟩ ?_ ?_
 .rintro k z _ hk ⟨h1,h2,h3⟩;have g:k<h.length:=by omega
  have t:vs[k]?=some (vs[k]'(by rw[hv.1];exact g)):=by simp
  have a:=hv.2 k _ t;generalize vs[k]'(by rw[hv.1];exact g)=v at t a;unfold C3;rw[dX];refine kU (λi s=>s.length=h.length/\(∀j,j≠k->s[j]?=z[j]?)/\∃w,s[k]?=some w/\∀(p:Nat)(hp:p<6),w[p]=min v[p] (ff h p i:Int)) ?_ ?_ ?_
  .refine⟨h1,λ_ _=>rfl,_,h3 k (dG _) g,λp hp=>?_⟩;have:=(a p hp).lo;rw[qw,Fo];omega
  .rintro i s _ hi ⟨V,C,w,W,A⟩;have d:i<h.length:=by omega
   have L:h[i]?=some h[i]:=by simp[d]
   unfold C4;simp only[or_some,ae]
   have D:=hM.bh (Q:=λx30=>cc (bif x30||((i:Int)==(k:Int))then
    (bh h (i:Int)).bind λy=>(bh s (k:Int)).bind λx42=>(cI x42 y.cb).bind λx45=>(bh s (k:Int)).bind λT=>(cI T y.cb).bind λx51=>
    Let (s.set (k:Int).toNat (T.setIfInBounds y.cb.toNat (ap (x45+(1:Int))))) λYz=>some Yz else some s)
    (λs=>s.length=h.length/\(∀j,j≠k->s[j]?=z[j]?)/\∃w,s[k]?=some w/\∀(p:Nat)(hp:p<6),w[p]=min v[p] (ff h p (i+1):Int))) d g ?_
   .rw[dX]at D;rw[dX];refine D.mono λrow H=>?_;rw[dX];exact H.mono λb hb=>hb
   .intro b hb;have hS:((b||((i:Int)==(k:Int)))=true)↔jv h i k:=by
     rw[mQ,hb];unfold jv;simp only[gO,mR];exact or_comm
    have o:k<s.length:=by omega
    have WV:s[k]=w:=by simpa[o]using W
    obtain⟨q1,q2,q3,q4⟩:=hr.2.range d L;simp only[qy d,qy o,ae,fc,dX,lU,co,WV,cP];generalize h[i]=x at L q1 q2 q3 q4 ⊢;obtain⟨P,K,Mm⟩:=x;obtain⟨p,rfl⟩:=iq q1;have hp:p<6:=by have MO:(p:Int)<=5:=q2;omega
    try dsimp only
    simp only[t7,cP];refine⟨λhc=>⟨hp,hp,by simp[V],λj f=>?_,_,fY o,λq B=>?_⟩,λhc=>⟨V,C,w,W,λq B=>?_⟩⟩
    .rw[iu (λe=>f e.symm)];exact C j f
    .have l:=hS.1 hc;by_cases e:p=q
     .subst e;have hle:=Kp (h:=h) (p:=(p:Int)) (j:=i);rw[pz,A p hp,((Fr (a p hp) L).1 X l),bT (by have:=(a p hp).lo;omega) O]
     .rw[mO B e,A q B,((Fr (a q B) L).2 (.inl (by simp only;omega)))]
    .have l:¬jv h i k:=λk=>by rw[hS.2 k]at hc;cases hc
     rw[A q B,((Fr (a q B) L).2 (.inr l))]
  .rintro s ⟨V,C,w,W,A⟩;rw[gF]at A;have hw:w=v:=by
    apply rP;intro p hp;have:=(a p hp).hi;rw[A p hp];omega
   subst hw;refine co.2 ⟨V,λj f=>?_,λj f Ws=>?_⟩
   .by_cases e:j=k
    .subst e;rw[W,t]
    .rw[C j e];exact h2 j O
   .rw[C j O];exact h3 j O Ws
 .rintro z ⟨h1,h2,_⟩;rw[gF]at h2;refine co.2 (pB λj=>?_);by_cases f:j<h.length
  .exact h2 j f
  .rw[jA O,jA (by rw[hv.1];omega)]
def Jg(a b:Vector Int 6):Prop:=∀(p:Nat)(hp:p<6),a[p]<=b[p]
theorem Jg.refl(a:Vector Int 6):Jg a a:=λ_ _=>jz _
structure nj(h:List aT)(n:Nat)(s:List Int):Prop where
 len:s.length=n
 lo:∀(k:Nat)t,s[k]?=some t->1<=t/\t<=k+1
 up:∀(i k:Nat)a t,s[i]?=some a->s[k]?=some t->Hb h i k->a<t
 at':∀(k:Nat)t,s[k]?=some t->t=1\/∃(i:Nat)(a:Int),s[i]?=some a/\Hb h i k/\t=a+1
theorem nj.one{h:List aT}{n:Nat}{s u:List Int}(d:nj h n s)(e:nj h n u):s=u:=by
 have t:∀k:Nat,k<n->s[k]?=u[k]?:=by
  intro k
  induction k using Nat.strongRecOn with
  |_ k q=>
   intro o;have f:s[k]?=some (s[k]'(by rw[d.len];exact o)):=by simp
   have g:u[k]?=some (u[k]'(by rw[e.len];exact o)):=by simp
   generalize s[k]'(by rw[d.len];exact o)=a at f;generalize u[k]'(by rw[e.len];exact o)=b at g;rw[f,g];have D:=d.lo k a f;have F:=e.lo k b g;congr 1;rcases d.at' k a f with B|⟨i,x,z,hi,B⟩<;>rcases e.at' k b g with C|⟨j,y,A,l,C⟩
   .omega
   .have:=d.up j k y a (by rw[q j l.lt (by have:=l.lt;omega)];exact A) f l;omega
   .have:=e.up i k x b (by rw[<-q i hi.lt (by have:=hi.lt;omega)];exact z) g hi;omega
   .have:=d.up j k y a (by rw[q j l.lt (by have:=l.lt;omega)];exact A) f l;have:=e.up i k x b (by rw[<-q i hi.lt (by have:=hi.lt;omega)];exact z) g hi;omega
 apply pB;intro k;by_cases o:k<n
 .exact t k o
 .rw[jA (by rw[d.len];omega),jA (by rw[e.len];omega)]
def km(s:List Int)(S:Nat->Prop)(m:Int):Prop:=0<=m/\(∀(l:Nat)a,s[l]?=some a->S l->a<=m)/\(m=0\/∃l,s[l]?=some m/\S l)
def IK(h:List aT)(p:Int)(l:Nat):Prop:=∃x,h[l]?=some x/\x.cb=p
def IJ(h:List aT)(m:Int)(l:Nat):Prop:=∃x,h[l]?=some x/\x.aX=2/\x.cq=m
theorem km.same{s:List Int}{S:Nat->Prop}{m t:Int}(j:km s S m)(k:¬S s.length):km (s++[t]) S m:=by
 obtain⟨a,b,c⟩:=j;refine⟨a,λl x e g=>?_,c.imp id λ⟨l,f,i⟩=>⟨l,by rw[it (dl f).1];exact f,i⟩⟩;rcases qv l s.length with d|d|d
 .rw[it d]at e;exact b l x e g
 .subst d;exact absurd g k
 .rw[jA (by simp;omega)]at e;cases e
theorem km.new{s:List Int}{S:Nat->Prop}{m t:Int}(g:km s S m)(j:S s.length)(i:m<=t):km (s++[t]) S t:=by
 obtain⟨a,b,c⟩:=g;refine⟨by omega,λl x d f=>?_,.inr ⟨s.length,by simp,j⟩⟩;rcases qv l s.length with e|e|e
 .rw[it e]at d;have:=b l x d f;omega
 .subst e;simp at d;omega
 .rw[jA (by simp;omega)]at d;cases d
theorem V1{h:List aT}{i k:Nat}(e:Hb h i k):kY h i k\/∃l,Hb h i l/\kY h l k:=by
 cases e with
 |single a=>exact .inl a
 |tail d a=>exact .inr ⟨_,d,a⟩
theorem acb{h:List aT}{j:Nat}{s:List Int}{x:aT}{m t:Int}(P:nj h j s)(hj:j<=60)(H:h[j]?=some x)
 (M:km s (λl=>kY h l j) m) (Q:t=m+1):nj h (j+1) (s++[t]):=by
 obtain⟨C,D,F,K⟩:=P;obtain⟨W,A,B⟩:=M;have get:∀(k:Nat)a,(s++[t])[k]?=some a->(k<j/\s[k]?=some a)\/(k=j/\a=t):=by
  intro k a d;rcases qv k j with e|e|e
  .rw[it O]at d;exact .inl ⟨e,d⟩
  .subst e;rw[<-C]at d;simp at d;exact .inr ⟨X,d.symm⟩
  .rw[jA (by simp;omega)]at d;cases d
 have f:∀(k:Nat)a,s[k]?=some a->(s++[t])[k]?=some a:=λk a d=>by rw[it (dl d).1];exact d
 refine⟨by simp[C],λk a d=>?_,λi k a b hi d o=>?_,λk a d=>?_⟩
 .rcases get k a d with⟨e,q⟩|⟨rfl,rfl⟩
  .exact D k a q
  .rcases B with rfl|⟨l,q,g⟩
   .omega
   .have:=D l m q;have:=g.1;omega
 .rcases get k b d with⟨e,q⟩|⟨rfl,rfl⟩
  .rcases get i a hi with⟨e',z⟩|⟨rfl,rfl⟩
   .exact F i k a b z q o
   .have:=o.lt;omega
  .rcases get i a hi with⟨e',z⟩|⟨rfl,rfl⟩
   .rcases V1 o with hp|⟨l,g,hp⟩
    .have:=A i a z hp;omega
    .have L:=hp.1;have el:s[l]?=some (s[l]'O):=by simp
     generalize s[l]'O=y at el;have:=F i l a y z el g;have:=A l y el hp;omega
   .have:=o.lt;omega
 .rcases get k a d with⟨e,q⟩|⟨rfl,rfl⟩
  .exact(K k a q).imp id λ⟨i,b,T,V⟩=>⟨i,b,f i b T,V⟩
  .rcases B with rfl|⟨l,q,g⟩
   .exact .inl O
   .exact .inr ⟨l,m,f l m q,.single g,Q⟩
structure E1(h:List aT)(j:Nat)(z:(Vector Int 30)×(Vector Int 6)×(List Int)):Prop where
 out:nj h j z.2.2
 last:∀(p:Nat)(hp:p<6),km z.2.2 (IK h p) z.2.1[p]
 abD:∀(m:Nat)(hm:m<30),km z.2.2 (IJ h m) z.1[m]
theorem km.zero{S:Nat->Prop}:km [] S 0:=⟨by omega,λl a d=>by simp at d,.inl X⟩
theorem km.le{s:List Int}{S:Nat->Prop}{m:Int}{h:List aT}{j:Nat}(a:nj h j s)(d:km s S m):m<=j:=by
 rcases d.2.2 with rfl|⟨l,q,_⟩
 .omega
 .have:=a.lo l m q;have:=(dl q).1;have:=a.len;omega
theorem abH{h:List aT}{j:Nat}{z:(Vector Int 30)×(Vector Int 6)×(List Int)}(hr:rr h)(hj:j<h.length)(hI:E1 h j z):cc (AO h j z) (E1 h (j+1)):=by
 obtain⟨d,f,out⟩:=z;obtain⟨W,h2,H⟩:=hI;simp only at W h2 H;have hlen:=hr.1;have i:h[j]?=some h[j]:=by simp[hj]
 unfold AO;rw[dX,qH];refine⟨hj,?_⟩;obtain⟨⟨r1,r2,r3,r4⟩,hk⟩:=BT i (hr.2 j hj);generalize h[j]=x at i r1 r2 r3 r4 hk;obtain⟨P,K,M⟩:=x;simp only at r1 r2 r3 r4;obtain⟨p,rfl⟩:=iq r1;obtain⟨m,rfl⟩:=iq r3;have hp:p<6:=by omega
 have Q:m<30:=by omega
 simp only;rw[uF _ hp,ae,dX];have o:=W.len;have V:cc (bif K==3 then(cI d (m:Int)).bind λx24=>some (max f[p] x24)else some f[p]) λv=>km out (λl=>kY h l j) v/\f[p]<=v/\(K=3->d[m]<=v):=by
  obtain⟨a1,a2,F⟩:=h2 p hp;obtain⟨b1,b2,b3⟩:=H m Q;have lt:∀(l:Nat)(a:Int),out[l]?=some a->l<j:=λl a L=>by have:=(dl L).1;omega
  rw[fc];refine⟨λk=>?_,λk=>?_⟩
  .have k:K=3:=by simpa using k
   subst k;rw[uF _ Q,ae,co];refine⟨⟨by omega,λl a L D=>?_,?_⟩,by omega,λ_=>by omega⟩
   .obtain⟨_,u,w,hu,g,B⟩:=D;rw[i]at g;obtain rfl:=dp g;rcases B with B|⟨c1,_,c2⟩
    .have:=a2 l a L ⟨u,hu,B⟩;omega
    .have:=b2 l a L ⟨u,hu,c1,c2⟩;omega
   .rcases Int.le_total f[p] d[m]with e|e
    .rw[Int.max_eq_right e];rcases b3 with b3|⟨l,q,w,g,c1,c2⟩
     .exact .inl b3
     .exact .inr ⟨l,q,lt l _ q,w,_,g,i,.inr ⟨c1,X,c2⟩⟩
    .rw[Int.max_eq_left e];rcases F with F|⟨l,q,w,g,c1⟩
     .exact .inl F
     .exact .inr ⟨l,q,lt l _ q,w,_,g,i,.inl c1⟩
  .have k:K≠3:=by simpa using k
   rw[co];refine⟨⟨by omega,λl a L D=>?_,?_⟩,by omega,λe=>absurd e k⟩
   .obtain⟨_,u,w,hu,g,B⟩:=D;rw[i]at g;obtain rfl:=dp g;rcases B with B|⟨_,c1,c2⟩
    .exact a2 l a L ⟨u,hu,B⟩
    .exact absurd c1 k
   .rcases F with F|⟨l,q,w,g,c1⟩
    .exact .inl F
    .exact .inr ⟨l,q,lt l _ q,w,_,g,i,.inl c1⟩
 refine V.mono λv⟨V,Gz,LJ⟩=>?_;have hvj:=V.le W;have hv0:=V.1;have FA:ap (v+1)=v+1:=bT O O;have T:=acb W O i V X;have C:∀(q:Nat)(t:q<6),km (out++[v+1]) (IK h q) (f.setIfInBounds p (v+1))[q]:=by
  intro q t;by_cases e:p=q
  .subst e;rw[pz];exact(h2 p hp).new (by rw[o];exact⟨_,i,X⟩) O
  .rw[mO t e];refine(h2 q t).same ?_;rw[o];rintro⟨y,A,c⟩;rw[i]at A;obtain rfl:=dp A;simp only at c;omega
 simp only[ae,lU,cP,FA];rw[dX];have hs:cc (bif K==2 then(cI d (m:Int)).bind λ_=>Let (d.setIfInBounds m (v+1)) λYy=>some Yy else some d) λs=>∀(q:Nat)(t:q<30),km (out++[v+1]) (IJ h q) s[q]:=by
  rw[fc];refine⟨λk=>?_,λk=>?_⟩
  .have k:K=2:=by simpa using k
   subst k;rw[uF _ Q,ae,lU,co];intro q t;by_cases e:m=q
   .subst e;rw[pz];refine(H m Q).new (by rw[o];exact⟨_,i,X,X⟩) ?_;rcases(H m Q).2.2 with e0|⟨l,q0,w,g,c1,c2⟩
    .omega
    .have hl:=(dl q0).1;rcases hk with⟨k,_⟩|⟨_,k⟩|⟨k,_⟩
     .simp only at k;omega
     .exact absurd c2 (k l w O g c1)
     .simp only at k;omega
   .rw[mO t e];refine(H q t).same ?_;rw[o];rintro⟨y,A,_,c⟩;rw[i]at A;obtain rfl:=dp A;simp only at c;omega
  .have k:K≠2:=by simpa using k
   rw[co];intro q t;refine(H q t).same ?_;rw[o];rintro⟨y,A,c,_⟩;rw[i]at A;obtain rfl:=dp A;exact k c
 refine hs.mono λs hs=>?_;rw[dX,cc.HO];refine⟨by simp;omega,?_⟩;rw[co];exact⟨T,C,hs⟩
theorem aca{h:List aT}(f:rr h):cc (oT h) λr=>r.2=0/\nj h h.length r.1:=by
 unfold oT;rw[dX];refine(oe h).mono λc g=>?_;obtain rfl:=g.Mw f;rw[iW,aS,dX];refine kU (E1 h) ⟨⟨X,λk t e=>by simp at e,λi k a t hi=>by simp at hi,λk t e=>by simp at e⟩,λp hp=>?_,λm q=>?_⟩ (λj z _ o d=>abH f O d) ?_
 .simp only[qw];exact km.zero
 .simp only[qw];exact km.zero
 .rintro⟨s,l,out⟩ d;rw[gF]at d;exact co.2 ⟨X,d.out⟩
theorem ab9{h:List aT}{c:Int}(e:l0 h c)(a:c≠0):oT h=some ([],c):=by refine oK ?_;unfold oT;rw[dX];refine(oe h).mono λd hd=>?_;obtain rfl:=e.one hd;rw[show(c !=0)=true by simpa using a];exact co.2 X
theorem acc{h:List aT}{j:Nat}{s:List Int}{t:Int}(F:nj h j s)(H:1<=t/\t<=j+1)(o:∀(i:Nat)a,s[i]?=some a->Hb h i j->a<t)(l:t=1\/∃(i:Nat)(a:Int),s[i]?=some a/\Hb h i j/\t=a+1):nj h (j+1) (s++[t]):=by
 obtain⟨A,B,C,D⟩:=F;have get:∀(k:Nat)a,(s++[t])[k]?=some a->(k<j/\s[k]?=some a)\/(k=j/\a=t):=by
  intro k a d;rcases qv k j with e|e|e
  .rw[it O]at d;exact .inl ⟨e,d⟩
  .subst e;rw[<-A]at d;simp at d;exact .inr ⟨X,d.symm⟩
  .rw[jA (by simp;omega)]at d;cases d
 have f:∀(k:Nat)a,s[k]?=some a->(s++[t])[k]?=some a:=λk a d=>by rw[it (dl d).1];exact d
 refine⟨by simp[A],λk a d=>?_,λi k a b hi d g=>?_,λk a d=>?_⟩
 .rcases get k a d with⟨e,q⟩|⟨rfl,rfl⟩
  .exact B k a q
  .exact H
 .rcases get k b d with⟨e,q⟩|⟨rfl,rfl⟩
  .rcases get i a hi with⟨e',x⟩|⟨rfl,rfl⟩
   .exact C i k a b x q g
   .have:=g.lt;omega
  .rcases get i a hi with⟨e',x⟩|⟨rfl,rfl⟩
   .exact o i a x g
   .have:=g.lt;omega
 .rcases get k a d with⟨e,q⟩|⟨rfl,rfl⟩
  .exact(D k a q).imp id λ⟨i,b,y,z⟩=>⟨i,b,f i b y,z⟩
  .exact l.imp id λ⟨i,b,y,z⟩=>⟨i,b,f i b y,z⟩
theorem abe{h:List aT}{fu:Nat}(V:rr h)(D:100<=fu)(j:fu<=2^30):cc (ug fu h) (nj h h.length):=by
 have T:=V.1;unfold ug;rw[dX];refine(Ka V.1 D j).mono λM hM=>?_;rw[dX,cc.Mn];refine⟨by omega,?_⟩;rw[cP,dX];refine kU (λk(z:List Int)=>z.length=h.length/\nj h k (z.take k)) ⟨by simp,X,λk t s=>by simp at s,λi k a t hi=>by simp at hi,λk t s=>by simp at s⟩ ?_ ?_
 .rintro k z _ s ⟨P,g⟩;have s:k<h.length:=by omega
  unfold C0;rw[qy O,ae,lU,cP,dX,cc.acB];refine⟨by omega,?_⟩;rw[cP,dX];have H:∀(i:Nat)a,i<k->(z[i]?=some a↔(z.take k)[i]?=some a):=λi a hi=>by rw[tL,bE hi]
  refine kU (λi(y:List Int)=>∃t:Int,y=z.set k t/\1<=t/\t<=k+1/\(∀(l:Nat)a,l<i->z[l]?=some a->Hb h l k->a<t)/\(t=1\/∃(l:Nat)(a:Int),l<k/\z[l]?=some a/\Hb h l k/\t=a+1)) ⟨1,X,by omega,by omega,λl a Q=>by omega,.inl X⟩ ?_ ?_
  .rintro i _ _ hi ⟨t,rfl,L,t2,A,C⟩;have hi:i<k:=by omega
   obtain⟨m1,m2⟩:=hM;have o:i<M.length:=by omega
   obtain⟨m3,m4⟩:=m2 i M[i] (by simp[o]);have x:k<M[i].length:=by omega
   unfold C1;rw[qy o,ae,qy x,ae];have K:=m4 k;rw[gG x,mi]at K;have F:i<z.length:=by omega
   have B:z[i]?=some z[i]:=by simp[F]
   rw[fc];refine⟨λq=>?_,λq=>?_⟩
   .have hh:=K.1 q;have W:bh (z.set k t) (k:Int)=some t:=by rw[cK,fY O]
    have e2:bh (z.set k t) (i:Int)=some z[i]:=by rw[cK,iu O,B]
    have lo:=g.lo i z[i] ((H i _ hi).1 B);rw[W,ae,e2,ae,ae,lU,co,bT O O,cP,li];refine⟨_,X,by omega,by omega,λl a Q f d=>?_,?_⟩
    .by_cases e:l=i
     .subst e;rw[B]at f;obtain rfl:=dp f;omega
     .have:=A l a O f d;omega
    .rcases Int.le_total t (z[i]+1)with e|e
     .rw[Int.max_eq_right e];exact .inr ⟨i,_,hi,B,hh,X⟩
     .rw[Int.max_eq_left e];exact C
   .rw[co];refine⟨t,X,L,t2,λl a Q f d=>?_,C⟩;by_cases e:l=i
    .subst e;rw[K.2 d]at q;cases q
    .exact A l a O f d
  .rintro _ ⟨t,rfl,L,t2,A,C⟩;rw[co];rw[gF]at A;refine⟨by simpa using P,?_⟩;have e:(z.set k t).take (k+1)=z.take k++[t]:=by
    rw[mN,List.take_set_of_le (dG _),fY O];rfl
   rw[e];exact acc g ⟨L,t2⟩ (λi a f d=>A i a d.lt ((H i a d.lt).2 f) d) (C.imp id λ⟨l,a,l1,l2,l3⟩=>⟨l,a,(H l a l1).1 l2,l3⟩)
 .rintro z ⟨P,g⟩;rw[co];rw[gF,gN O]at g;exact g
theorem l0.small{h:List aT}{c:Int}(g:l0 h c):0<=c/\c<=100:=by
 rcases g with⟨_,rfl⟩|⟨_,_,rfl⟩|⟨_,i,hi,e,j,_⟩
 .omega
 .omega
 .have d:h[i]?=some h[i]:=by simp[hi]
  by_cases a:mv h[i]
  .by_cases f:kindOk h i h[i]
   .rw[yj d a f]at e;omega
   .rw[FG d a f]at e;omega
  .rw[FF d a]at e;omega
theorem Wq(h:List aT){fu:Nat}(B:100<=fu)(a:fu<=2^30):∃c:Int,wh h=some c/\(0<=c/\c<=100)/\(c≠0->oT h=some ([],c)/\nS h=some ([],c))/\
 (c=0->∃s vs,oT h=some (s,0)/\ug fu h=some s/\s.length<=60/\(∀x∈s,0<=x/\x<1000000000)/\nS h=some (vs,0)/\ui fu h=some vs/\vs.length=h.length/\h.length<=60/\∀v∈vs,∀x∈v.toList,0<=x/\x<1000000000):=by
 obtain⟨c,A,l⟩:=aba h;refine⟨c,A,l.small,λy=>⟨ab9 l y,acH l y⟩,?_⟩;rintro rfl;have g:=l.right;have F:=g.1;obtain⟨⟨s,e⟩,K,C,i⟩:=aca g;obtain⟨⟨vs,d⟩,P,D,v3⟩:=acI g;obtain⟨u,L,M⟩:=abe g B a;simp only at C i D v3;subst C D;obtain rfl:=i.one M;refine⟨s,vs,K,L,by have:=i.len;omega,λx t=>?_,P,abf g B a v3,v3.1,F,λv H x t=>?_⟩
 .obtain⟨k,o⟩:=ji t;have:=i.lo k x o;have:=(dl o).1;have:=i.len;omega
 .obtain⟨k,o⟩:=ji H;obtain⟨p,hp⟩:=ji t;obtain⟨f,q⟩:=dl hp;have z:=v3.2 k v o p (by simpa using f);have:=z.lo;have:=z.hi;have A:=Ug (h:=h) (p:=(p:Int)) (j:=h.length);have e:x=v[p]'(by simpa using f):=by rw[<-q];simp
  omega
def eC:Nat->Nat->Nat
 |0,_=>0
 |f+1,m=>m%2+eC f (m/2)
theorem Ad:∀(a b m:Nat),eC (a+b) m=eC a (m%2^a)+eC b (m/2^a)
 |0,b,m=>by simp[eC]
 |a+1,b,m=>by
  rw[show a+1+b=(a+b)+1 by omega];show m%2+eC (a+b) (m/2)=(m%2^(a+1))%2+eC a (m%2^(a+1)/2)+eC b (m/2^(a+1));rw[Ad a b (m/2)];have d:m%2^(a+1)%2=m%2:=by rw[pu,vy,Nat.mod_mul_right_mod]
  have e:m%2^(a+1)/2=m/2%2^a:=by rw[pu,vy,Nat.mod_mul_right_div_self]
  have f:m/2/2^a=m/2^(a+1):=by rw[Nat.div_div_eq_div_mul,pu,vy]
  rw[d,e,f];omega
theorem uq:∀(a m:Nat),eC a m<=a
 |0,_=>dG _
 |a+1,m=>by have:=uq a (m/2);show m%2+eC a (m/2)<=a+1;omega
def pc(x:BitVec 16):Nat:=eC 16 x.toNat
theorem Hm(x:BitVec 16):pc x<=16:=uq _ _
def BN(x y:Int):Int:=if x<y then-1 else if x>y then 1 else 0
def MP(x y:BitVec 16):Int:=if BN (pc x) (pc y)≠0 then BN (pc x) (pc y)else BN x.toNat y.toNat
def ur(x y:BitVec 16):Bool:=decide (MP x y<0)
theorem wA{x y:BitVec 16}:ur x y=true↔pc x<pc y\/(pc x=pc y/\x.toNat<y.toNat):=by
 unfold ur MP BN;rw[eW]
 repeat' split
 all_goals omega
theorem Ho{x y:BitVec 16}:ur x y=false↔¬(pc x<pc y\/(pc x=pc y/\x.toNat<y.toNat)):=by rw[<-wA];cases ur x y<;>simp
