/-
  What the functions of the slices library compute.
-/
import Derived.Test.YtklkkoelldkncaaGreatDoorMwSp
set_option linter.unusedSimpArgs false
set_option linter.unusedVariables false
namespace Go.Proofs.YtklkkoelldkncaaGreatDoor
open an
theorem I7(l:List Y)(a:Y):vH l a=some (jV (a==·) l):=by
 unfold vH;refine EX _ λj x d=>?_;unfold B9;rw[cY,d,aj]
 try rw[MH]
 first|(cases (a==x)<;>rfl)|(by_cases e:a=x<;>simp[e];done)|(rw[show(a==x)=decide (a=x)from by(rw[eZ];simp)];cases decide (a=x)<;>rfl)
theorem Se{l m:List aK}(h:l.length+m.length<=2^30):yM [l,m]=some (l++m):=by
 have a:lH ((l.length+m.length:Nat):Int)=some (l.length+m.length):=by unfold lH;rw[ce O];rfl
 have e0:aq ((0:Int)-0)=0:=by rw[bO O O];rfl
 have f:yS ((l.length+m.length:Nat):Int)=some []:=by
  unfold yS;rw[show decide (((l.length+m.length:Nat):Int)<0)=false from cJ O,aW,e0,Int.sub_zero,bO O O,a]
  cases decide (((l.length+m.length:Nat):Int)>0)with
  |false=>rfl
  |true=>
   rw[bM,aj];have:∀q:List aK,co q 0 0=some []:=λq=>by unfold co;rw[ce O];rfl
   rw[this];rfl
 have d:aq ((0:Int)+(l.length:Int))=(l.length:Int):=by rw[bO O O];omega
 have e:aq ((l.length:Int)+(m.length:Int))=((l.length+m.length:Nat):Int):=by rw[bO O O];omega
 have g:bE (vF [l,m]) [l,m].length 0 (0:Int)=some ((l.length+m.length:Nat):Int):=by show bE (vF [l,m]) 2 0 0=_;simp only[bE];unfold vF;simp only[cY,pB,sQ,aj,d,e,show decide ((l.length:Int)<0)=false from cJ O,show decide (((l.length+m.length:Nat):Int)<0)=false from cJ O,aW,cb]
 have i:bE (vG [l,m]) [l,m].length 0 []=some (l++m):=by show bE (vG [l,m]) 2 0 []=_;simp only[bE];unfold vG;simp only[cY,pB,sQ,aj,cb,uD];rw[eu (by simp;omega),aj,aj,eu O];rfl
 unfold yM;rw[g,aj,f,aj,i];rfl
theorem Sf(l m:List Int):yQ l m=some (decide (l=m)):=by
 unfold yQ;exact I8 (λx y=>x !=y) (λx y=>by first|rfl|(rw[eZ];simp;done)|(rw[MI,eZ];simp)) (λj=>rfl)
theorem Sg(l m:List (Vector Int 10)):yR l m=some (decide (l=m)):=by
 unfold yR;exact I8 (λx y=>!(decide (x=y))) (λx y=>by first|rfl|(rw[eZ];simp;done)|(rw[MI,eZ];simp)) (λj=>rfl)
theorem MW(a b c:Int):rF a b c=some (decide (a>=b)&&decide (a<=c)):=by unfold rF;simp only[DS,aj,Bool.cond_false_right]
def jb(x:Int):Bool:=decide (x>=0)&&decide (x<=16777215)
theorem any_eq(l:List Int):yN l=some (l.any λx=>!jb x):=by
 unfold yN;have:yT l=some (jV (λx=>!jb x) l):=by unfold yT;refine EX _ λj x d=>?_;unfold B7 Cs tJ;rw[cY,d,aj,MW];simp only[aj];unfold jb;cases (!(decide (x>=0)&&decide (x<=16777215)))<;>rfl
 rw[this,aj];congr 1;rw[eZ,Bb,gL];rcases J4 (λx:Int=>!jb x) l with⟨h,a⟩|⟨i,y,h,a,e,_⟩
 .rw[h];exact⟨λk=>by omega,λ⟨x,d,k⟩=>by have:=a x d;rw[this]at k;cases k⟩
 .rw[h];exact⟨λ_=>⟨y,dj a,e⟩,λ_=>by omega⟩
structure oT(t:aK):Prop where
 kind:0<=t.ba/\t.ba<=255
 au:0<=t.aw/\t.aw<=5
 to:0<=t.To/\t.To<=5
 aD:0<=t.bh/\t.bh<=16777215
 seq:0<=t.ao/\t.ao<=16777215
 at_:∀x∈t.At.toList,0<=x/\x<=16777215
 text:t.aM.length<=200
theorem IG(t:aK):mV t=some (bif (!(decide (t.ba>=0)&&decide (t.ba<=255))||!(decide (t.aw>=0)&&decide (t.aw<=5))||!(decide (t.To>=0)&&decide (t.To<=5))||!jb t.bh||!jb t.ao)then 1 else bif t.At.toList.any (λx=>!jb x)then 1 else bif decide ((t.aM.length:Int)>200)then 2 else 0):=by unfold mV tJ;simp only[MW,any_eq,DS,aj,Bool.cond_true_left];rfl
theorem Aq(t:aK):∃c,mV t=some c/\(c=0↔oT t):=by
 rw[IG];refine⟨_,X,?_⟩
 cases a:(!(decide (t.ba>=0)&&decide (t.ba<=255))||!(decide (t.aw>=0)&&decide (t.aw<=5))||!(decide (t.To>=0)&&decide (t.To<=5))||!jb t.bh||!jb t.ao)with
 |true=>refine⟨λh=>(by cases h),λh=>?_⟩;obtain⟨k1,i,j,l,m,_,_⟩:=h;unfold jb at a;simp[k1,i,j,l,m]at a
 |false=>
  cases e:t.At.toList.any (λx=>!jb x)with
  |true=>refine⟨λh=>(by cases h),λh=>?_⟩;obtain⟨x,d,k⟩:=Bb.1 e;have:=h.at_ x d;unfold jb at k;simp[this]at k
  |false=>
   cases f:decide ((t.aM.length:Int)>200)with
   |true=>refine⟨λh=>(by cases h),λh=>?_⟩;have:=om f;have:=h.text;omega
   |false=>refine⟨λ_=>?_,λ_=>rfl⟩;have g:=E7 f;unfold jb at a;simp only[Bool.or_eq_false_iff,Bool.not_eq_false',eJ,gL]at a;refine⟨by omega,by omega,by omega,by omega,by omega,λx d=>?_,by omega⟩;have:=List.any_eq_false.1 e x d;unfold jb at this;simp at this;exact this
theorem IF{t:aK}(h:oT t):mV t=some 0:=by obtain⟨c,e,a⟩:=Aq t;rw[e,a.2 h]
theorem RO{t:aK}(h:¬oT t):∃c,mV t=some c/\(c !=0)=true:=by obtain⟨c,e,a⟩:=Aq t;exact⟨c,e,bne_iff_ne.2 λk=>h (a.1 k)⟩
theorem FR{σ:Type}{f:Nat->σ->Option σ}:∀(k i:Nat)(z:σ),(∀j z,i<=j->j<i+k->∃d,f j z=some d)->∃d,bE f k i z=some d
 |0,i,z,_=>⟨z,X⟩
 |k+1,i,z,h=>by obtain⟨l,e⟩:=h i z (dO _) O;obtain⟨m,g⟩:=FR k (i+1) l λj z a b=>h j z O O;exact⟨m,by unfold bE;rw[e,aj,g]⟩
theorem aaQ(s:Y)(h:s.length<=2^63-1):∃r,rE s=some r:=by
 unfold rE;rw[zb O,aj,de];obtain⟨z,e⟩:=FR (f:=zq s) s.length 0 (4294967295:BitVec 32) λj z _ i=>by
  have d:bf s (j:Int)=some (s[j]'O):=by rw[cY];simp[show j<s.length by omega]
  unfold zq;rw[d,aj];obtain⟨g,a⟩:=FR (f:=zr) 8 0 (z^^^(BitVec.ofInt 32 ((s[j]'O).toBitVec.toNat:Int))) λj z _ _=>by unfold zr;cases ((z&&&(1:BitVec 32)).toNat:Int)==((1:BitVec 32).toNat:Int)<;>exact⟨_,X⟩
  exact⟨g,by rw[a,aj]⟩
 rw[e];exact⟨_,X⟩
def vM(s:Y):BitVec 32:=(rE s).getD 0
theorem Mu(s:Y)(h:s.length<=2^63-1):rE s=some (vM s):=by obtain⟨r,e⟩:=aaQ s h;unfold vM;rw[e];rfl
def b3(n:Nat):List (BitVec 8):=[BitVec.ofNat 8 n,BitVec.ofNat 8 (n/256),BitVec.ofNat 8 (n/65536)]
def b4(r:BitVec 32):List (BitVec 8):=b3 r.toNat++[BitVec.ofNat 8 (r.toNat/16777216)]
theorem xY(n:Nat):BitVec.ofInt 8 (n:Int)=BitVec.ofNat 8 n:=BitVec.ofInt_natCast 8 n
theorem Mz(n:Nat):vV (n:Int)=some (b3 n):=by
 unfold vV b3;have a:((n:Int)).fdiv (2^(min 8 64))=((n/256:Nat):Int):=by rw[Int.fdiv_eq_ediv_of_nonneg _ ab];rfl
 have d:((n:Int)).fdiv (2^(min 16 64))=((n/65536:Nat):Int):=by rw[Int.fdiv_eq_ediv_of_nonneg _ ab];rfl
 rw[a,d,xY,xY,xY]
theorem Jp(r:BitVec 32):vU r=some (b4 r):=by unfold vU;rw[Mz,aj,eu (by simp[b3]),aj,xY,oq,oi];rfl
theorem KM{l:List Int}(e:∀x∈l,0<=x)(f:l.length<=100):∀(k i:Nat)(z:List (BitVec 8)),i+k=l.length->z.length<=10+3*i->bE (tL l) k i z=some (z++(l.drop i).flatMap λx=>b3 x.toNat)
 |0,i,z,h,_=>by rw[kp O];simp[bE]
 |k+1,i,z,h,m=>by
  have hi:i<l.length:=by omega
  obtain⟨n,a⟩:=kn (e _ (qX hi));have j:bf l (i:Int)=some (n:Int):=by rw[cY,je hi,a]
  have d:(b3 n).length=3:=X;have g:tL l i z=some (z++b3 n):=by unfold tL;rw[j,aj,Mz,aj,eu (by rw[d];omega),aj]
  unfold bE;rw[g,aj,KM e f k (i+1) (z++b3 n) O (by rw[cr,d];omega),jd hi,List.flatMap_cons,a,de,f9]
theorem Fs(l m:List (BitVec 8)):fx (l++m)=fx l++fx m:=by simp[fx]
theorem KC(s:Y):fx (Y.bytes s)=s:=by unfold fx Y.bytes;rw[List.map_map,show(UInt8.ofBitVec ∘ UInt8.toBitVec)=id from X,List.map_id]
theorem RJ(s:Y):(Y.bytes s).length=s.length:=by simp[Y.bytes]
theorem xZ(l:List (BitVec 8)):(fx l).length=l.length:=by simp[fx]
def ul(t:aK):List (BitVec 8):=[BitVec.ofInt 8 t.ba,BitVec.ofInt 8 t.aw,BitVec.ofInt 8 t.To]++([t.bh,t.ao]++t.At.toList).flatMap λx=>b3 x.toNat
theorem xd(t:aK):(ul t).length=27:=by
 have d:∀l:List Int,(l.flatMap λx=>b3 x.toNat).length=3*l.length:=λl=>by
  induction l with
  |nil=>rfl
  |cons a l e=>rw[List.flatMap_cons,cr,e,bN];have:(b3 a.toNat).length=3:=X;omega
 unfold ul;rw[cr,d];simp
def n5(t:aK):Y:=fx (ul t)++t.aM
def gu(t:aK):Y:=n5 t++fx (b4 (vM (n5 t)))
theorem DL(t:aK):(n5 t).length=27+t.aM.length:=by unfold n5;rw[cr,xZ,xd]
theorem WF(t:aK):(gu t).length=31+t.aM.length:=by unfold gu;rw[cr,DL,xZ];have:(b4 (vM (n5 t))).length=4:=X;omega
theorem WH{t:aK}(h:oT t):tK t=some (gu t,0):=by
 have e:t.At.toList.length=6:=by simp
 have d:([t.bh,t.ao]++t.At.toList).length=8:=by simp
 have l:∀x∈([t.bh,t.ao]++t.At.toList),0<=x:=by
  intro x a;rcases e9.1 a with a|a
  .rcases fB.1 a with rfl|a
   .exact h.aD.1
   .rw[iq]at a;subst a;exact h.seq.1
  .exact(h.at_ x a).1
 have g:=KM l O 8 0 [BitVec.ofInt 8 t.ba,BitVec.ofInt 8 t.aw,BitVec.ofInt 8 t.To] O (by simp);rw[eT]at g;have i:bE (tL ([t.bh,t.ao]++t.At.toList)) 8 0 [BitVec.ofInt 8 t.ba,BitVec.ofInt 8 t.aw,BitVec.ofInt 8 t.To]=some (ul t):=g;have n:=h.text;have j:=RJ t.aM;have k:=xd t;have f:∀r,(b4 r).length=4:=λ_=>rfl;have m:=DL t;unfold tK
 rw[IF h,aj,show((0:Int)!=0)=false from X,aW,eu (by rw[e];simp),aj,fb,zb O,aj,de,d,i,aj,eu O,aj,
  Fs,KC,show fx (ul t)++t.aM=n5 t from X,Mu _ O,aj,Jp,aj,eu (by rw[cr,f];omega),aj,Fs,Fs,KC]
 rfl
theorem WG{t:aK}(h:¬oT t):∃c,tK t=some (([]:Y),c)/\(c==0)=false:=by
 obtain⟨c,e,a⟩:=RO h;refine⟨c,?_,?_⟩
 .unfold tK;rw[e,aj,a,bM]
 .simpa using a
def oX(s:Y)(i:Nat):Nat:=(s[i]?.getD 0).toBitVec.toNat
theorem DM(s:Y)(i:Nat):oX s i<256:=(s[i]?.getD 0).toBitVec.isLt
theorem uT{s:Y}{i:Nat}(h:i<s.length):∃c:UInt8,bf s (i:Int)=some c/\c.toBitVec.toNat=oX s i:=⟨s[i],by rw[cY,je h],by simp[oX,h]⟩
def v3(s:Y)(b:Nat):Nat:=oX s b+256*oX s (b+1)+65536*oX s (b+2)
theorem KG{p q k:Nat}(hp:p<2^k):p|||(q*2^k)=p+q*2^k:=by have h:=Nat.shiftLeft_add_eq_or_of_lt hp q;rw[Nat.shiftLeft_eq]at h;rw[Nat.or_comm,<-h,nt]
theorem BE(n:Nat)(h:n<2^63):(BitVec.ofInt 64 (n:Int)).toNat=n:=by rw[BitVec.ofInt_natCast,uL,sL O]
theorem Zw{p q r:Nat}(hp:p<256)(e:q<256)(f:r<256):aq ((BitVec.ofInt 64 (aq ((BitVec.ofInt 64 (p:Int)|||BitVec.ofInt 64 (aq ((q:Int)*2^(min 8 64)))).toNat:Int))|||BitVec.ofInt 64 (aq ((r:Int)*2^(min 16 64)))).toNat:Int)=((p+256*q+65536*r:Nat):Int):=by
 have a:((q:Int)*2^(min 8 64))=((q*2^8:Nat):Int):=by rw[Int.natCast_mul];rfl
 have d:((r:Int)*2^(min 16 64))=((r*2^16:Nat):Int):=by rw[Int.natCast_mul];rfl
 rw[a,d,bO (x:=((q*2^8:Nat):Int)) O O,bO (x:=((r*2^16:Nat):Int)) O O];rw[BitVec.toNat_or,BitVec.toNat_or,BE p O,BE (q*2^8) O,KG (k:=8) O,bO (x:=((p+q*2^8:Nat):Int)) O O,BE _ O,BE (r*2^16) O,KG (k:=16) O,bO O O];omega
theorem abh{s:Y}{k:Nat}(x:s.length<=1000)(h:3*k+5<s.length):oM (k:Int) s=some ((v3 s (3+3*k):Nat):Int):=by
 have a:aq ((3:Int)*(k:Int))=((3*k:Nat):Int):=by rw[bO O O];omega
 have d:aq ((3:Int)+((3*k:Nat):Int))=((3+3*k:Nat):Int):=by rw[bO O O];omega
 have e:aq (((3+3*k:Nat):Int)+1)=((3+3*k+1:Nat):Int):=by rw[bO O O];omega
 have f:aq (((3+3*k:Nat):Int)+2)=((3+3*k+2:Nat):Int):=by rw[bO O O];omega
 obtain⟨p,m,g⟩:=uT (s:=s) (i:=3+3*k) O;obtain⟨q,n,j⟩:=uT (s:=s) (i:=3+3*k+1) O;obtain⟨t,o,l⟩:=uT (s:=s) (i:=3+3*k+2) O;unfold oM;rw[a,d,e,f,m,n,o];simp only[aj];rw[g,j,l,Zw (DM _ _) (DM _ _) (DM _ _)];rfl
theorem RI(l:List (BitVec 8))(u:Y)(i:Nat)(h:i<l.length):oX (fx l++u) i=(l[i]).toNat:=by unfold oX;rw[ou (by rw[xZ];exact h)];unfold fx;rw[kD,je h];rfl
theorem rj(n:Nat)(h:n<16777216):(BitVec.ofNat 8 n).toNat+256*(BitVec.ofNat 8 (n/256)).toNat+65536*(BitVec.ofNat 8 (n/65536)).toNat=n:=by simp only[uL];omega
theorem Fu{x:Int}(a:0<=x)(d:x<=255):((BitVec.ofInt 8 x).toNat:Int)=x:=by obtain⟨n,rfl⟩:=kn a;rw[xY,uL];omega
theorem ZA{t:aK}(h:oT t):zp (gu t)=some (t,0):=by
 have hL:=WF t;have hB:=DL t;have ht:=h.text;have hb4:(b4 (vM (n5 t))).length=4:=X;obtain⟨m,B⟩:∃m,m=n5 t:=⟨_,X⟩
 obtain⟨L,q⟩:∃L,(gu t).length=L:=⟨_,X⟩
 rw[q]at hL;have e0:aq ((L:Int)-4)=((L-4:Nat):Int):=by rw[bO O O];omega
 have c1:co (gu t) 0 ((L-4:Nat):Int)=some m:=by unfold co;rw[ce O];simp only[de,Int.toNat_zero,eT,qR];rw[B];unfold gu;rw[xt O]
 have c2:co (gu t) ((L-4:Nat):Int) (L:Int)=some (fx (b4 (vM (n5 t)))):=by unfold co;rw[ce O];simp only[de];unfold gu;rw[Bc O,iI (by rw[xZ];omega)]
 have xi:m.length=27+t.aM.length:=by rw[B,hB]
 have hA:decide ((L:Int)>231)=false:=cJ O;have V:decide ((L:Int)<31)=false:=cJ O;obtain⟨kd,C,to,o,sq,At,H⟩:=t;obtain⟨e,f,g,j,l,n,W⟩:∃e f g j l n,At=(#v[e,f,g,j,l,n]:Vector Int 6):=by
  refine⟨At[0],At[1],At[2],At[3],At[4],At[5],?_⟩;apply uK;intro i hi
  match i,hi with
  |0,_=>rfl
  |1,_=>rfl
  |2,_=>rfl
  |3,_=>rfl
  |4,_=>rfl
  |5,_=>rfl
 subst W;have p:=h.at_;have g0:=p e (by simp);have g1:=p f (by simp);have g2:=p g (by simp);have g3:=p j (by simp);have g4:=p l (by simp);have g5:=p n (by simp);have Q:=h.kind;have gf:=h.au;have gt:=h.to;have T:=h.aD;have S:=h.seq;simp only at Q gf gt T S ht xi;have a:∀(i:Nat)(hi:i<27),oX m i=((ul ⟨kd,C,to,o,sq,#v[e,f,g,j,l,n],H⟩)[i]'(by rw[xd];exact hi)).toNat:=λi hi=>by rw[B];exact RI _ _ i (by rw[xd];exact hi)
 have hv:∀(k:Nat)(x:Int)(A:k<8),0<=x->x<=16777215->([o,sq,e,f,g,j,l,n]:List Int)[k]?=some x->v3 m (3+3*k)=x.toNat:=λk x A D F d=>by
  unfold v3;rw[a _ O,a _ O,a _ O]
  match k,A with
  |0,_=>cases d;exact rj o.toNat O
  |1,_=>cases d;exact rj sq.toNat O
  |2,_=>cases d;exact rj e.toNat O
  |3,_=>cases d;exact rj f.toNat O
  |4,_=>cases d;exact rj g.toNat O
  |5,_=>cases d;exact rj j.toNat O
  |6,_=>cases d;exact rj l.toNat O
  |7,_=>cases d;exact rj n.toNat O
 have rd:∀(k:Nat)(x:Int)(A:k<8),0<=x->x<=16777215->([o,sq,e,f,g,j,l,n]:List Int)[k]?=some x->oM (k:Int) m=some x:=λk x A D F d=>by rw[abh O O,hv k x A D F d];congr 1;omega
 obtain⟨y0,f0,q0⟩:=uT (s:=m) (i:=0) O;obtain⟨y1,f1,q1⟩:=uT (s:=m) (i:=1) O;obtain⟨y2,f2,q2⟩:=uT (s:=m) (i:=2) O;rw[a 0 O]at q0;rw[a 1 O]at q1;rw[a 2 O]at q2;have z0:((y0.toBitVec.toNat:Nat):Int)=kd:=by rw[q0];exact Fu Q.1 Q.2
 have z1:((y1.toBitVec.toNat:Nat):Int)=C:=by rw[q1];exact Fu (x:=C) gf.1 O
 have z2:((y2.toBitVec.toNat:Nat):Int)=to:=by rw[q2];exact Fu (x:=to) gt.1 O
 have c4:co m (27:Int) (m.length:Int)=some H:=by
  unfold co;rw[ce O];have:m.drop 27=H:=by rw[B];unfold n5;exact Bc (by rw[xZ,xd])
  show some ((m.drop 27).take _)=_;rw[this,iI (by simp only[de];omega)]
 have step:∀(i:Nat)(x:Int)(hi:i<6)(y:aK),0<=x->x<=16777215->([o,sq,e,f,g,j,l,n]:List Int)[i+2]?=some x->vT m i y=some {y with At:=y.At.setIfInBounds i x}:=λi x hi y D F d=>by
  have e1:aq ((2:Int)+(i:Int))=((i+2:Nat):Int):=by rw[bO O O];omega
  unfold vT;rw[e1,rd (i+2) x O D F d,aj,Cp _ hi,aj,fb,de]
 have loop:∀y:aK,y.At=Vector.replicate 6 0->bE (vT m) 6 0 y=some {y with At:=#v[e,f,g,j,l,n]}:=λy hy=>by unfold bE;rw[step 0 e O _ g0.1 g0.2 X,aj];unfold bE;rw[step 1 f O _ g1.1 g1.2 X,aj];unfold bE;rw[step 2 g O _ g2.1 g2.2 X,aj];unfold bE;rw[step 3 j O _ g3.1 g3.2 X,aj];unfold bE;rw[step 4 l O _ g4.1 g4.2 X,aj];unfold bE;rw[step 5 n O _ g5.1 g5.2 X,aj];unfold bE;rw[hy];rfl
 have r0:oM (0:Int) m=some o:=rd 0 o O T.1 T.2 X;have r1:oM (1:Int) m=some sq:=rd 1 sq O S.1 S.2 X;have K:bf m (0:Int)=some y0:=f0;have M:bf m (1:Int)=some y1:=f1;have P:bf m (2:Int)=some y2:=f2;unfold zp;rw[q,hA,V,aW,aW,e0,c1,c2,aj,aj,Mu _ O,aj,Jp,aj,<-B,dA X];simp only[ii,aW];rw[K,M,P,aj,aj,aj,r0,r1,aj,aj,c4,aj,z0,z1,z2,loop _ X,aj];have mv:mV ({aK.zero with ba:=kd,aw:=C,To:=to,bh:=o,ao:=sq,aM:=H,At:=#v[e,f,g,j,l,n]}:aK)=some 0:=IF h;rw[mv];rfl
theorem VV{i j:Nat}(h:i+j<=2^40):aq (((BitVec.ofInt 64 (aq ((i:Int)+(j:Int))))>>>1).toNat:Int)=(((i+j)/2:Nat):Int):=by
 rw[bO (x:=(i:Int)+(j:Int)) O O,oq,lG,oi];have:(((i:Int)+(j:Int))%((2^64:Nat):Int)).toNat=i+j:=by omega
 rw[this];exact bO O O
theorem xG(a b c:Int):sU a b c=some (decide (a>=b)&&decide (a<=c)):=by unfold sU;rw[ls,aj]
def iB(x y:aP):Prop:=x.ao<y.ao
structure lR(r:To):Prop where
 lo:0<=r.Next
 hi:r.Next<=16777215
 len:r.bg.length<=16
 inc:r.bg.Pairwise iB
 fE:∀x∈r.bg,r.Next<x.ao/\x.ao<=r.Next+15
 jz:∀x∈r.bg,x.aM.length<=200
theorem qL{l:List aP}(h:l.Pairwise iB){i j:Nat}{x y:aP}(a:i<j)(f:l[i]?=some x)(g:l[j]?=some y):x.ao<y.ao:=by obtain⟨d,rfl⟩:=ed f;obtain⟨e,rfl⟩:=ed g;exact List.pairwise_iff_getElem.1 h i j d e a
theorem aaX{α:Type}{l:List α}{i:Nat}{x:α}(a:l[i]?=some x):l.take (i+1)=l.take i++[x]:=by rw[uF,a];rfl
theorem Kn(t:Y):oz t=some (decide ((t.length:Int)>200)):=X
theorem MC{r:To}(h:lR r):∀(k i:Nat)(z:Int),i+k=r.bg.length->r.Next<=z->(∀x,r.bg[i]?=some x->z<x.ao)->∃y,dT (uR r) k i z=some (.inl y)
 |0,i,z,_,_,_=>⟨z,X⟩
 |k+1,i,z,n,q,l=>by
  have hi:i<r.bg.length:=by omega
  have a:r.bg[i]?=some r.bg[i]:=by simp[hi]
  generalize r.bg[i]=x at a;have j:=l x a;have o:=h.fE x (dj a);have p:=h.jz x (dj a);have g:=h.lo;have f:=h.hi;obtain⟨y,m⟩:=MC h k (i+1) x.ao O O λs d=>qL h.inc (A3 i) a d;refine⟨y,?_⟩;have e:uR r i z=some (.go x.ao):=by unfold uR;rw[cY,a,aj,bO (show-9223372036854775808<=r.Next+16 by omega) O,Kn,cJ (show ¬x.ao<=z by omega),cJ (show ¬x.ao>=r.Next+16 by omega),cJ (show ¬(x.aM.length:Int)>200 by omega)];rfl
  unfold dT;rw[e,aj];exact m
theorem Gq{r:To}(h:lR r):xB r=some 0:=by have e:=h.lo;have f:=h.hi;have g:=h.len;obtain⟨y,d⟩:=MC h r.bg.length 0 r.Next O (jY _) λx a=>(h.fE x (dj a)).1;unfold xB;rw[xG,aj,dA (show r.Next>=0 by omega),dA (show r.Next<=16777215 by omega),cJ (show ¬(r.bg.length:Int)>16 by omega)];simp only[jG,ii,aW];rw[d];rfl
def nU(f:Int->Option Y)(a:Int)(l:List aP):Prop:=∀s t,(⟨s,t⟩:aP)∈l↔a<=s/\f s=some t
theorem AS:∀{l m:List aP},l.Pairwise iB->m.Pairwise iB->(∀s t,(⟨s,t⟩:aP)∈l↔(⟨s,t⟩:aP)∈m)->l=m
 |[],[],_,_,_=>rfl
 |[],y::m,_,_,h=>by have:=(h y.ao y.aM).2 (by simp);cases this
 |x::l,[],_,_,h=>by have:=(h x.ao x.aM).1 (by simp);cases this
 |x::l,y::m,j,k,h=>by
  have a:=AZ.1 j;have d:=AZ.1 k;have i:x=y:=by
   rcases fB.1 ((h x.ao x.aM).1 (by simp))with e|e
   .exact e
   .rcases fB.1 ((h y.ao y.aM).2 (by simp))with e'|e'
    .exact e'.symm
    .have f:y.ao<x.ao:=d.1 _ e;have n:x.ao<y.ao:=a.1 _ e';omega
  subst i;congr 1;refine AS a.2 d.2 λs t=>?_;constructor
  .intro g;rcases fB.1 ((h s t).1 (nw _ g))with e|e
   .have f:x.ao<s:=a.1 _ g;rw[<-e]at f;simp at f
   .exact e
  .intro g;rcases fB.1 ((h s t).2 (nw _ g))with e|e
   .have f:x.ao<s:=d.1 _ g;rw[<-e]at f;simp at f
   .exact e
theorem Ki{l:List aP}{t:Int}(d:l.Pairwise iB)(H:l.length<=100)(K:∀x∈l,-1000000000<=x.ao/\x.ao<=1000000000)(P:-1000000000<=t/\t<=1000000000){fu:Nat}(M:110<fu):
 ∃(k:Nat)(b:Bool),yJ fu l t=some ((k:Int),b)/\k<=l.length/\(∀(j:Nat)x,j<k->l[j]?=some x->x.ao<t)/\(∀(j:Nat)x,k<=j->l[j]?=some x->t<=x.ao)/\(b=true↔∃x∈l,x.ao=t):=by
 have C:cV (df (yK l t) fu ((0:Int),(l.length:Int))) λo=>∃(k:Nat)(j:Int),o=.inl ((k:Int),j)/\k<=l.length/\(∀(j:Nat)x,j<k->l[j]?=some x->x.ao<t)/\(∀(j:Nat)x,k<=j->l[j]?=some x->t<=x.ao):=by
  refine pM (λz=>∃i j:Nat,z=((i:Int),(j:Int))/\i<=j/\j<=l.length/\(∀(k:Nat)x,k<i->l[k]?=some x->x.ao<t)/\∀(k:Nat)x,j<=k->l[k]?=some x->t<=x.ao) (λz=>(z.2-z.1).toNat)
   ⟨0,l.length,X,by omega,dO _,λk x h=>by omega,λk x h a=>by have:=(ed a).1;omega⟩ (by simp only;omega) ?_
  rintro _ ⟨i,j,rfl,s,g,p,F⟩;unfold yK;simp only;rw[nD];refine⟨λq=>?_,λq=>?_⟩
  .have q:i<j:=by simpa using q
   have L:(i+j)/2<l.length:=by omega
   have a:l[(i+j)/2]?=some l[(i+j)/2]:=by simp[L]
   generalize l[(i+j)/2]=x at a;have B:=K x (dj a);rw[VV O,cY,a,aj];unfold uS;rw[aj,bO (show-9223372036854775808<=x.ao-t by omega) O,nD];refine⟨λc=>?_,λc=>?_⟩
   .have c:x.ao-t<0:=by simpa using c
    rw[fa];have D:aq ((((i+j)/2:Nat):Int)+1)=(((i+j)/2+1:Nat):Int):=by rw[bO O O];rfl
    refine oH.2 ⟨⟨(i+j)/2+1,j,by rw[D],by omega,g,λk y A f=>?_,F⟩,by rw[D];simp only;omega⟩;by_cases e:k=(i+j)/2
    .subst e;rw[a]at f;rw[<-dF f];omega
    .have:=qL d (show k<(i+j)/2 by omega) f a;omega
   .have c:¬x.ao-t<0:=by simpa using c
    rw[fa];refine oH.2 ⟨⟨i,(i+j)/2,X,by omega,by omega,p,λk y A f=>?_⟩,by simp only;omega⟩;by_cases e:k=(i+j)/2
    .subst e;rw[a]at f;rw[<-dF f];omega
    .have:=qL d (show(i+j)/2<k by omega) a f;omega
  .have q:¬i<j:=by simpa using q
   have:i=j:=by omega
   subst this;rw[fa];exact nC.2 ⟨i,_,X,g,p,F⟩
 obtain⟨o,e,k,j,rfl,s,g,p⟩:=C;unfold yJ;rw[e,kX];simp only;by_cases A:k<l.length
 .have a:l[k]?=some l[k]:=by simp[A]
  generalize l[k]=x at a;have B:=K x (dj a);rw[dA (show(k:Int)<l.length by omega),bM,cY,a,aj];unfold uS;rw[aj,aj,bO (show-9223372036854775808<=x.ao-t by omega) O];refine⟨k,x.ao-t==0,X,s,g,p,?_⟩;rw[jW];constructor
  .intro q;exact⟨x,dj a,by omega⟩
  .rintro⟨y,f,q⟩;obtain⟨m,n⟩:=kE f;rcases Nat.lt_trichotomy m k with c|c|c
   .have:=g m y c n;omega
   .subst c;rw[a]at n;rw[dF n];omega
   .have:=qL d c a n;have:=p k x (dO _) a;omega
 .rw[cJ (show ¬(k:Int)<l.length by omega),aW];refine⟨k,false,X,s,g,p,?_⟩;constructor
  .intro q;cases q
  .rintro⟨y,f,q⟩;obtain⟨m,n⟩:=kE f;have:=(ed n).1;have:=g m y O n;omega
def tl(f:Int->Option Y)(a:Int)(k:Nat):List Y:=(List.range k).map λj:Nat=>(f (a+j)).getD []
theorem MB{f:Int->Option Y}{a:Int}{k:Nat}:tl f a (k+1)=tl f a k++[(f (a+k)).getD []]:=by unfold tl;rw[A0,kG];rfl
theorem rz{f:Int->Option Y}{a:Int}{k:Nat}:(tl f a k).length=k:=by simp[tl]
theorem IJ{f:Int->Option Y}{N:Int}{E:List aP}{fu:Nat}(W:0<=N/\N<=1000000000)(Q:E.Pairwise iB)(S:nU f (N+1) E)(H:E.length<=16)(P:(f N).isSome=true)(hf:40<fu):
 ∃(k:Nat)(d:List aP),df q9 fu ((⟨N+1,E⟩:To),tl f N 1,E)=some (.inl ((⟨N+k,d⟩:To),tl f N k,d))/\(∀j:Nat,j<k->(f (N+j)).isSome=true)/\f (N+k)=none/\d.Pairwise iB/\nU f (N+k) d/\d.length<=16/\k<=17/\∀x∈d,x∈E:=by
 have C:cV (df q9 fu ((⟨N+1,E⟩:To),tl f N 1,E)) λo=>∃(k:Nat)(d:List aP),o=.inl ((⟨N+k,d⟩:To),tl f N k,d)/\(∀j:Nat,j<k->(f (N+j)).isSome=true)/\f (N+k)=none/\d.Pairwise iB/\nU f (N+k) d/\d.length<=16/\k<=17/\∀x∈d,x∈E:=by
  refine pM (λz=>∃(k:Nat)(d:List aP)(y:List aP),z=((⟨N+k,y⟩:To),tl f N k,d)/\(∀j:Nat,j<k->(f (N+j)).isSome=true)/\d.Pairwise iB/\nU f (N+k) d/\(d.length+k<=E.length+1/\1<=k)/\∀x∈d,x∈E) (λz=>z.2.2.length)
   ⟨1,E,E,X,λj T=>?_,Q,S,⟨dO _,dO _⟩,λx h=>h⟩ (by simp only;omega) ?_
  .have:j=0:=by omega
   subst this;simpa using P
  .rintro _ ⟨k,d,y,rfl,q,D,l,A,F⟩;unfold q9;simp only
   have stop:f (N+k)=none->cV (some (d6.fZ (({(⟨N+k,y⟩:To)with bg:=d}:To),tl f N k,d)):Option (d6 (To×List Y×List aP) (To×List Y×Int))) (cV.wi (λK=>(∃(k:Nat)(d:List aP)(y:List aP),K=((⟨N+k,y⟩:To),tl f N k,d)/\(∀j:Nat,j<k->(f (N+j)).isSome=true)/\d.Pairwise iB/\nU f (N+k) d/\(d.length+k<=E.length+1/\1<=k)/\∀x∈d,x∈E)/\K.2.2.length<d.length)
    (λs=>∃(k:Nat)(d:List aP),(Sum.inl s:(To×List Y×List aP) ⊕ (To×List Y×Int))=.inl ((⟨N+k,d⟩:To),tl f N k,d)/\(∀j:Nat,j<k->(f (N+j)).isSome=true)/\f (N+k)=none/\d.Pairwise iB/\nU f (N+k) d/\d.length<=16/\k<=17/\∀x∈d,x∈E)
    (λt=>∃(k:Nat)(d:List aP),(Sum.inr t:(To×List Y×List aP) ⊕ (To×List Y×Int))=.inl ((⟨N+k,d⟩:To),tl f N k,d)/\(∀j:Nat,j<k->(f (N+j)).isSome=true)/\f (N+k)=none/\d.Pairwise iB/\nU f (N+k) d/\d.length<=16/\k<=17/\∀x∈d,x∈E)):=λB=>fa.2 (nC.2 ⟨k,d,X,q,B,D,l,by omega,by omega,F⟩)
   cases d with
   |nil=>
    rw[show decide ((([]:List aP).length:Int)>0)=false from X,aW,aj,aW];refine stop ?_
    cases m:f (N+k)with
    |none=>rfl
    |some t=>have:=(l _ _).2 ⟨jY _,m⟩;cases this
   |cons x g=>
    have i:=AZ.1 D;have hx:(x::g)[0]?=some x:=X;have el:bf (x::g) (0:Int)=some x:=cY (x::g) 0;rw[dA (show((x::g).length:Int)>0 by simp only[bN];omega),bM,el,aj,aj,nD];have p:=(l x.ao x.aM).1 (by simp);refine⟨λc=>?_,λc=>?_⟩
    .have c:x.ao=N+k:=by simpa using c
     have m:f (N+k)=some x.aM:=by rw[<-c];exact p.2
     have M:co (x::g) 1 ((x::g).length:Int)=some g:=by unfold co;rw[ce (by simp;omega)];simp
     rw[aj,eu (by have:=A.1;rw[rz];simp at this ⊢;omega),aj,M,aj,u4,fa,bO (show-9223372036854775808<=N+(k:Int)+1 by omega) (by have:=A.1;simp at this;omega)];refine oH.2 ⟨⟨k+1,g,g,?_,λj T=>?_,i.2,λs t=>?_,⟨by have:=A.1;simp at this;omega,by omega⟩,λz V=>F z (nw _ V)⟩,by simp⟩
     .rw[MB,m];simp;omega
     .by_cases e:j=k
      .subst e;rw[m];rfl
      .exact q j O
     .constructor
      .intro n;have L:x.ao<s:=i.1 _ n;exact⟨by push_cast;omega,((l s t).1 (nw _ n)).2⟩
      .rintro⟨a,b⟩;have n:=(l s t).2 ⟨by push_cast at a;omega,b⟩;rcases fB.1 n with e|e
       .rw[<-e]at c;simp only at c;push_cast at a;omega
       .exact e
    .have c:¬x.ao=N+k:=by simpa using c
     refine stop ?_
     cases m:f (N+k)with
     |none=>rfl
     |some t=>
      have n:=(l _ _).2 ⟨jY _,m⟩;rcases fB.1 n with e|e
      .rw[<-e]at c;exact absurd X c
      .have L:x.ao<N+k:=i.1 _ e;have:=p.1;omega
 obtain⟨o,e,k,d,rfl,q⟩:=C;exact⟨k,d,e,q⟩
theorem J7{l:List aP}{p:aP}{k:Nat}(h:l.Pairwise iB)(n:k<=l.length)(i:∀(j:Nat)x,j<k->l[j]?=some x->x.ao<p.ao)(m:∀(j:Nat)x,k<=j->l[j]?=some x->p.ao<x.ao):
 (l.take k++[p]++l.drop k).Pairwise iB/\∀x,x∈l.take k++[p]++l.drop k↔x∈l\/x=p:=by
 have hd:(l.take k++l.drop k).Pairwise iB:=by rw[eD];exact h
 have hd:=E0.1 hd;refine⟨?_,λx=>?_⟩
 .rw[f9,E0];refine⟨hd.1,?_,λa g b d=>?_⟩
  .rw[E2,AZ];refine⟨λb d=>?_,hd.2.1⟩;obtain⟨j,e⟩:=kE d;rw[qV]at e;exact m _ b O e
  .rcases e9.1 d with d|d
   .rw[iq.1 d];obtain⟨j,e⟩:=kE g;have f:j<k:=by have:=(ed e).1;simp at this;omega
    rw[Bg,ce f]at e;exact i j a f e
   .exact hd.2.2 a g b d
 .have:x∈l↔x∈l.take k\/x∈l.drop k:=by
   conv=>lhs;rw[<-eD k l]
   exact e9
  rw[this,e9,e9,iq];constructor
  .rintro((a|a)|a)
   .exact .inl (.inl a)
   .exact .inr a
   .exact .inl (.inr a)
  .rintro((a|a)|a)
   .exact .inl (.inl a)
   .exact .inr a
   .exact .inl (.inr a)
theorem D5{f:Int->Option Y}{N:Int}{k k':Nat}(e:∀j:Nat,j<k->(f (N+j)).isSome=true)(g:f (N+k)=none)(a:∀j:Nat,j<k'->(f (N+j)).isSome=true)(d:f (N+k')=none):k=k':=by
 rcases Nat.lt_trichotomy k k' with c|c|c
 .have:=a k c;rw[g]at this;cases this
 .exact c
 .have:=e k' c;rw[d]at this;cases this
structure wz(r:To)(p:aP)(o:To)(ts:List Y):Prop where
 next:o.Next=r.Next+ts.length
 inc:o.bg.Pairwise iB
 fE:∀x∈o.bg,o.Next<x.ao/\x.ao<=r.Next+15/\(x∈r.bg\/x=p)
 jz:∀x∈o.bg,x.aM.length<=200
 len:o.bg.length<=16
 au:∀(i:Nat)t,ts[i]?=some t->(⟨r.Next+i,t⟩:aP)∈r.bg\/(⟨r.Next+i,t⟩:aP)=p
theorem MA{f:Int->Option Y}{a:Int}{k i:Nat}{t:Y}(h:(tl f a k)[i]?=some t)(d:∀j:Nat,j<k->(f (a+j)).isSome=true):f (a+i)=some t:=by
 have hi:i<k:=by have:=(ed h).1;rwa[rz]at this
 unfold tl at h;rw[kD,List.getElem?_range hi]at h;simp only[mB,gU]at h;have:=d i hi
 cases e:f (a+i)with
 |none=>rw[e]at this;cases this
 |some u=>rw[e]at h;simp at h;rw[h]
def D7(l:List aP)(s:Int):Option Y:=(l.find? λx=>x.ao==s).map (·.aM)
theorem Sz{l:List aP}(h:l.Pairwise iB)(s:Int)(t:Y):D7 l s=some t↔(⟨s,t⟩:aP)∈l:=by
 unfold D7;constructor
 .intro q;obtain⟨y,a,rfl⟩:=pw.1 q;have:=List.find?_some a;have e:y.ao=s:=by simpa using this
  subst e;exact List.mem_of_find?_eq_some a
 .intro g
  cases a:l.find? λx=>x.ao==s with
  |none=>have:=List.find?_eq_none.1 a _ g;simp at this
  |some y=>
   have e:y.ao=s:=by simpa using List.find?_some a
   have f:=List.mem_of_find?_eq_some a;obtain⟨i,hi⟩:=kE g;obtain⟨j,d⟩:=kE f;rcases Nat.lt_trichotomy i j with c|c|c
   .have:=qL h c hi d;simp only at this;omega
   .subst c;rw[hi]at d;rw[<-dF d];rfl
   .have:=qL h c d hi;simp only at this;omega
theorem Vh{l:List aP}{a:Int}(h:l.Pairwise iB)(g:∀x∈l,a<x.ao/\x.ao<=a+15):l.length<=15:=by
 have f:∀(i:Nat)x,l[i]?=some x->a+1+i<=x.ao:=by
  intro i
  induction i with
  |zero=>intro x e;have:=g x (dj e);push_cast;omega
  |succ i j=>
   intro x e;have hi:i<l.length:=by have:=(ed e).1;omega
   have d:l[i]?=some l[i]:=by simp[hi]
   have:=j _ d;have:=qL h (A3 i) d e
   push_cast;omega
 rcases pu 15 l.length with c|c
 .have d:l[15]?=some l[15]:=by simp[c]
  have:=f 15 _ d;have:=g _ (dj d);omega
 .exact c
theorem Ar{l:List aP}(h:l.length<=2^40):vE l=some l:=by unfold vE;rw[eu (by simpa using h)];rfl
theorem aaT{r:To}{p:aP}{fu:Nat}(pi:200<fu)(h:lR r)(hp:0<=p.ao/\p.ao<=16777214)(ht:p.aM.length<=200):
 ∃o ts,mF fu r p=some (o,ts,0)/\wz r p o ts/\(p.ao=r.Next->1<=ts.length)/\ts.length<=17:=by
 have hN:0<=r.Next/\r.Next<=1000000000:=by have:=h.lo;have:=h.hi;omega
 have S7:=h.hi;have V:aq (r.Next+16)=r.Next+16:=bO O O;have g:=h.len;obtain⟨k,b,eb,hk,P,Q,M⟩:=Ki (t:=p.ao) (fu:=fu) h.inc O (λx d=>by have:=h.fE x d;omega) O O;unfold mF;rw[Gq h,aj];simp only[kC,aW];rw[xG,aj,dA (show p.ao>=0 by omega),dA (show p.ao<=16777214 by omega)];unfold oz;simp only[jG,ii,aW,aj];rw[cJ (show ¬(p.aM.length:Int)>200 by omega),aW,Ar O,aj];simp only[Let];rw[eb,aj,or_some,aj,or_some,aj,V];by_cases m:r.Next<=p.ao/\p.ao<r.Next+16/\b=false
 .obtain⟨i1,i2,rfl⟩:=m;rw[cJ (show ¬p.ao<r.Next by omega),cJ (show ¬p.ao>=r.Next+16 by omega)];simp only[qT,aW];have S:∀t,(⟨p.ao,t⟩:aP) ∉ r.bg:=λt q=>by
   have:=M.2 ⟨_,q,X⟩;cases this
  by_cases c:p.ao>r.Next
  .rw[dA c,bM];have ei:tE r.bg (k:Int) [p]=some (r.bg.take k++[p]++r.bg.drop k):=by
    unfold tE;have L:∃x,co r.bg (k:Int) (r.bg.length:Int)=some x:=⟨_,by unfold co;rw[ce O]⟩
    obtain⟨x,L⟩:=L;rw[L,aj,eu (by simp;omega),aj,de]
   obtain⟨n1,T⟩:=J7 (p:=p) h.inc hk P (λj x hj d=>by
    have:=Q j x hj d;have mt:x.ao≠p.ao:=λe=>by have:=M.2 ⟨x,dj d,e⟩;cases this
    omega)
   rw[ei,aj];have A:∀x∈r.bg.take k++[p]++r.bg.drop k,r.Next<x.ao/\x.ao<=r.Next+15:=λx d=>by
    rcases(T x).1 d with y|y
    .exact h.fE x y
    .subst y;omega
   refine⟨⟨r.Next,r.bg.take k++[p]++r.bg.drop k⟩,[],X,⟨by simp,n1,λx d=>⟨(A x d).1,(A x d).2,(T x).1 d⟩,λx d=>?_,?_,λi t hi=>by simp at hi⟩,λe=>by omega,by simp⟩
   .rcases(T x).1 d with y|y
    .exact h.jz x y
    .subst y;exact ht
   .have:=Vh n1 A;simp only;omega
  .have n:p.ao=r.Next:=by omega
   rw[cJ c,aW,bO (show-9223372036854775808<=r.Next+1 by omega) O];obtain⟨f,hf⟩:∃f:Int->Option Y,f=λs=>if s=p.ao then some p.aM else D7 r.bg s:=⟨_,X⟩
   have C:∀s t,f s=some t↔(⟨s,t⟩:aP)∈r.bg\/(⟨s,t⟩:aP)=p:=λs t=>by
    rw[hf];simp only;by_cases e:s=p.ao
    .subst e;rw[ce X];constructor
     .intro q;right;rw[<-dF q]
     .rintro(q|q)
      .exact absurd q (S t)
      .rw[<-q]
    .rw[ck e,Sz h.inc];constructor
     .exact .inl
     .rintro(q|q)
      .exact q
      .rw[<-q]at e;exact absurd X e
   have l:f r.Next=some p.aM:=by rw[hf];simp only;rw[ce n.symm]
   obtain⟨B,D,W,c2,c3,c4,c5,c6,c7,H⟩:=IJ (f:=f) (N:=r.Next) (E:=r.bg) (fu:=fu) hN h.inc (λs t=>by
    rw[C s t];constructor
    .intro x;have:=h.fE _ x;simp only at this;exact⟨by omega,.inl x⟩
    .rintro⟨a,x|x⟩
     .exact x
     .rw[<-x]at n;simp only at n;omega) g (by rw[l];rfl) O
   have K:tl f r.Next 1=[p.aM]:=by simp[tl,l]
   rw[K]at W;have F:df q9 fu (({To.zero with Next:=r.Next+1,bg:=r.bg}:To),([p.aM]:List Y),r.bg)=some (.inl ((⟨r.Next+B,D⟩:To),tl f r.Next B,D)):=W;rw[F,kX];simp only;rw[Ar O,aj];have hq:1<=B:=by
    rcases pr B with e|e
    .subst e;simp[l]at c3
    .exact e
   refine⟨⟨r.Next+B,D⟩,tl f r.Next B,X,⟨by rw[rz],c4,λx d=>?_,λx d=>h.jz x (H x d),c6,λi t hi=>(C _ _).1 (MA hi c2)⟩,λ_=>by rw[rz];exact hq,by rw[rz];exact c7⟩;have a1:=(c5 x.ao x.aM).1 d;have a2:=h.fE x (H x d);have a3:x.ao≠r.Next+B:=λy=>by have:=a1.2;rw[y,c3]at this;cases this
   exact⟨by simp only;omega,a2.2,.inl (H x d)⟩
 .have K:((decide (p.ao<r.Next)||decide (p.ao>=r.Next+16))||b)=true:=by
   cases b
   .simp only[Bool.or_false,py,gL];have:¬(r.Next<=p.ao/\p.ao<r.Next+16):=λx=>m ⟨x.1,x.2,X⟩;omega
   .simp
  rw[K,bM];refine⟨⟨r.Next,r.bg⟩,[],X,⟨by simp,h.inc,λx d=>?_,h.jz,g,λi t hi=>by simp at hi⟩,λe=>?_,by simp⟩
  .have:=h.fE x d;exact⟨this.1,this.2,.inl d⟩
  .cases b with
   |false=>exact absurd ⟨by omega,by omega,X⟩ m
   |true=>obtain⟨x,d,q⟩:=M.1 X;have:=h.fE x d;omega
def gm(c:UInt8):Bool:=decide (48<=c.toNat)&&decide (c.toNat<=57)
theorem qM{c:UInt8}:gm c=true↔48<=c.toNat/\c.toNat<=57:=by unfold gm;simp
def ne:Int->Y->Int
 |z,[]=>z
 |z,c::t=>ne (z*10+c.toNat-48) t
theorem IW:∀(t:Y)(z:Int)(k:Nat),0<=z->z<10^k->t.all gm=true->0<=ne z t/\ne z t<10^(k+t.length)
 |[],z,k,a,d,_=>⟨a,d⟩
 |c::t,z,k,a,d,h=>by
  rw[ot,eJ,qM]at h;have e:(10:Int)^(k+1)=10^k*10:=by rw[Int.pow_succ]
  have:=IW t (z*10+c.toNat-48) (k+1) O (by rw[e];omega) h.2;rw[show k+1+t.length=k+(c::t).length by simp;omega]at this;exact this
theorem Iy{t:Y}{i:Nat}{c:UInt8}(h:t[i]?=some c):bf (Y.bytes t) (i:Int)=some c.toBitVec:=by rw[cY];unfold Y.bytes;rw[kD,h];rfl
theorem Av{α:Type}{t:List α}{i:Nat}{c:α}(h:t[i]?=some c):t.drop i=c::t.drop (i+1):=by obtain⟨a,rfl⟩:=ed h;exact jd a
theorem aaP{c:UInt8}(h:gm c=true):((c.toBitVec-(48:BitVec 8)).toNat:Int)=(c.toNat:Int)-48:=by have h:=qM.1 h;have e:c.toBitVec.toNat=c.toNat:=X;rw[BitVec.toNat_sub,e];have:=c.toNat_lt;have a:(48:BitVec 8).toNat=48:=X;rw[a];omega
theorem DR{t:Y}:∀(k i:Nat)(z:Int)(b:Nat),i+k=t.length->i<=b->0<=z->z<10^b->b+k<=12->(t.drop i).all gm=true->
 dT (xp t) k i z=some (.inl (ne z (t.drop i)))
 |0,i,z,b,h,_,_,_,_,_=>by rw[kp O];rfl
 |k+1,i,z,b,h,m,g,j,l,a=>by
  have hi:i<t.length:=by omega
  have d:t[i]?=some t[i]:=by simp[hi]
  generalize t[i]=c at d;rw[Av d,ot,eJ]at a;rw[Av d];have n:(10:Int)^b<=10^11:=by
   have:(10:Nat)^b<=10^11:=uH O O
   exact_mod_cast this
  have e:(10:Int)^(b+1)=10^b*10:=by rw[Int.pow_succ]
  unfold dT xp;rw[Iy d,aj,aaP a.1,show((9:BitVec 8).toNat:Int)=9 from X];have f:=qM.1 a.1;rw[cJ (show ¬(c.toNat:Int)-48>9 by omega),aW,bO (show-9223372036854775808<=z*10 by omega) O,bO (show-9223372036854775808<=z*10+((c.toNat:Int)-48) by omega) O];rw[show z*10+((c.toNat:Int)-48)=z*10+(c.toNat:Int)-48 by omega];exact DR k (i+1) _ (b+1) O O O (by rw[e];omega) O a.2
theorem Rt{s:Y}(j:1<=s.length)(m:s.length<=9)(f:s.all gm=true):lP s=some (ne 0 s,()):=by
 obtain⟨c,a,rfl⟩:∃c a,s=c::a:=by
  cases s with
  |nil=>simp at j
  |cons c a=>exact⟨c,a,X⟩
 have k:gm c=true:=by rw[ot,eJ]at f;exact f.1
 have l:=qM.1 k;have i:c.toBitVec.toNat=c.toNat:=X;have el:bf (c::a) (0:Int)=some c:=cY (c::a) 0;have d:((c.toBitVec.toNat:Int)==((45:BitVec 8).toNat:Int))=false:=by rw[i,show((45:BitVec 8).toNat:Int)=45 from X];simp;omega
 have e:((c.toBitVec.toNat:Int)==((43:BitVec 8).toNat:Int))=false:=by rw[i,show((43:BitVec 8).toNat:Int)=43 from X];simp;omega
 have g:(Y.bytes (c::a)).length=(c::a).length:=by simp[Y.bytes]
 have h:=DR (t:=c::a) (c::a).length 0 0 0 O O O O O (by simpa using f);rw[eT]at h;unfold lP xo;rw[dA (show(0:Int)<((c::a).length:Int) by omega),bM,dA (show((c::a).length:Int)<19 by omega),aj,bM,el,aj,d,aW,aj,e,aj,aW,kX,eu (by simp only[bV];omega),aj,g,h,kX,aj,d,aW,aj,aj]
theorem IV:∀(a b:Y)(z:Int),ne z (a++b)=ne (ne z a) b
 |[],b,z=>rfl
 |c::a,b,z=>by rw[qU];exact IV a b _
theorem IS{u:Nat}(h:u<10):gm (UInt8.ofNat (48+u))=true:=by rw[qM];simp;omega
theorem IT{u:Nat}(h:u<10):((UInt8.ofNat (48+u)).toNat:Int)=48+u:=by simp;omega
theorem IP:∀(k n:Nat),n<10^k->1<=k->1<=(Lib.decDigits n).length/\(Lib.decDigits n).length<=k/\(Lib.decDigits n).all gm=true/\ne 0 (Lib.decDigits n)=n
 |0,n,h,i=>by omega
 |k+1,n,h,i=>by
  rw[Lib.decDigits];split
  .rename_i d;refine⟨by simp,by simp,?_,?_⟩
   .rw[ot,IS d];rfl
   .show 0*10+((UInt8.ofNat (48+n)).toNat:Int)-48=n;rw[IT d];omega
  .rename_i d;have a:1<=k:=by
    rcases pr k with e|e
    .subst e;simp at h;omega
    .exact e
   obtain⟨j,l,f,g⟩:=IP k (n/10) (by rw[uI]at h;omega) a;have hd:n%10<10:=uG _ O;refine⟨by rw[cr];simp,by rw[cr];simp only[bN,bV];omega,?_,?_⟩
   .rw[jc,f,ot,IS hd];rfl
   .rw[IV,g];show((n/10:Nat):Int)*10+((UInt8.ofNat (48+n%10)).toNat:Int)-48=n;rw[IT hd];omega
def ig(n:Int):Y:=Lib.itoa n
theorem qN{n:Int}(h:0<=n)(i:n<1000000000):tF n=some (ig n)/\1<=(ig n).length/\(ig n).length<=9/\(ig n).all gm=true/\lP (ig n)=some (n,()):=by
 obtain⟨m,rfl⟩:=kn h;have e:ig (m:Int)=Lib.decDigits m:=by unfold ig Lib.itoa;rw[ck O];simp
 obtain⟨a,d,f,g⟩:=IP 9 m O O;refine⟨?_,by rw[e];exact a,by rw[e];exact d,by rw[e];exact f,?_⟩
 .unfold tF uB;rw[ce O];rfl
 .rw[e,Rt a d f,g]
theorem J6:∀(d t:Y),d.all gm=true->Lib.indexByte (d++58::t) 58=(d.length:Int)
 |[],t,_=>by show Lib.indexByte (58::t) 58=0;unfold Lib.indexByte;rw[ce ab]
 |c::d,t,h=>by
  rw[ot,eJ]at h;have g:=qM.1 h.1;have a:¬(c==58)=true:=λq=>by
   have:c=58:=by simpa using q
   subst this;have:(58:UInt8).toNat=58:=X;omega
  have f:=J6 d t h.2;rw[qU];unfold Lib.indexByte;rw[ck a,f];have e:¬((d.length:Int)==-1)=true:=λq=>by have:=jW.1 q;omega
  rw[ck e,bN];omega
theorem IN{d t:Y}(m:1<=d.length)(hd:d.all gm=true)(n:(d++58::t).length<=2^40):mh (d++58::t) ([58]:Y)=some (d,t,true):=by
 have e:¬(([58]:Y)=d++58::t):=λq=>by have:=congrArg List.length q;simp at this;omega
 have h:((([58]:Y).length:Int)==0)=false:=X;have i:((([58]:Y).length:Int)==1)=true:=X;have j:bf ([58]:Y) 0=some 58:=X;have hi:Gb (d++58::t) ((58:UInt8).toBitVec)=(d.length:Int):=J6 d t hd;have a:(d++58::t).length=d.length+1+t.length:=by simp;omega
 have l:sI (d++58::t) ([58]:Y)=some (d.length:Int):=by unfold sI xq;rw[h,aW,aj,cJ e,aW,i,bM,j,aj,aj,hi]
 have f:co (d++58::t) 0 (d.length:Int)=some d:=by unfold co;rw[ce O];simp
 have g:co (d++58::t) ((d.length+1:Nat):Int) ((d++58::t).length:Int)=some t:=by unfold co;rw[ce O];simp only[de];rw[a,show d++58::t=(d++[58])++t by simp,Bc (by simp),iI O]
 have k:(([58]:Y).length:Int)=1:=X;unfold mh AT;rw[l,aj,dA (show(d.length:Int)>=0 by omega),bM,f,aj,k,bO (show-9223372036854775808<=(d.length:Int)+1 by omega) O,show(d.length:Int)+1=((d.length+1:Nat):Int) by rfl,g,aj,aj]
structure AW where
 aD:bh
 ps:List bm
 ord:List (Int×Int×Y)
 ah:List aK
def cU(m:Int×Int×Y):Y:=(((ig m.1++([58]:Y))++ig m.2.1)++([58]:Y))++m.2.2
def AW.w(a:AW):bi:=⟨a.aD,a.ps,a.ord.map cU,a.ah.map gu⟩
def G3(m:Int×Int×Y):Prop:=(0<=m.1/\m.1<=5)/\(0<=m.2.1/\m.2.1<=16777300)/\m.2.2.length<=150
theorem Ax{m:Int×Int×Y}(h:G3 m):(cU m).length<=170:=by obtain⟨_,_,a,_⟩:=qN h.1.1 (show m.1<1000000000 by have:=h.1.2;omega);obtain⟨_,_,d,_⟩:=qN h.2.1.1 (show m.2.1<1000000000 by have:=h.2.1.2;omega);have:=h.2.2;unfold cU;simp only[cr,bN,bV];omega
structure GP(B:Nat)(x:bm):Prop where
 bd:x.bd.length<=B
 jz:∀s∈x.bd,s.aM.length<=150
 base:0<=x.au.Base/\x.au.Base+x.au.aJ.length<=16777215
 late:x.au.aJ.length<=16/\∀t∈x.au.aJ,t.length<=150
 to:lR x.to/\∀p∈x.to.bg,p.ao<=16777214/\∃m,G3 m/\p.aM=cU m
 iw:lR x.bw/\∀p∈x.bw.bg,p.ao<=16777214/\p.aM.length<=150
def GN(n:aK):Prop:=oT n/\(n.ba=1->n.aM.length<=150)/\(n.ba=2->∃m,G3 m/\n.aM=cU m)
structure GA(B:Nat)(a:AW):Prop where
 n:1<=a.ps.length/\a.ps.length<=6
 ps:∀x∈a.ps,GP B x
 ord:a.ord.length<=B/\∀m∈a.ord,G3 m
 ah:a.ah.length<=60/\∀n∈a.ah,GN n
 num:0<=a.aD.bS/\a.aD.bS<=16777215
theorem GP.mono{B C:Nat}{x:bm}(h:GP B x)(a:B<=C):GP C x:=⟨iU h.bd a,h.jz,h.base,h.late,h.to,h.iw⟩
theorem GA.mono{B C:Nat}{a:AW}(h:GA B a)(d:B<=C):GA C a:=⟨h.n,λx e=>(h.ps x e).mono d,⟨iU h.ord.1 d,h.ord.2⟩,h.ah,h.num⟩
theorem GA.set{B:Nat}{a:AW}(h:GA B a)(i:Nat){x:bm}(d:GP B x):GA B {a with ps:=a.ps.set i x}:=by
 refine⟨by simpa using h.n,λy e=>?_,h.ord,h.ah,h.num⟩;rcases kH e with q|q
 .exact h.ps y q
 .exact q▸d
theorem vR(a b c:Int):oN a b c=some (decide (a>=b)&&decide (a<=c)):=by unfold oN;rw[ls,aj]
def dq(a:AW)(p:Int):Bool:=decide (p>=0)&&decide (p<=(a.ps.length:Int)-1)
theorem fP{a:AW}{p:Int}:dq a p=true↔∃i:Nat,p=(i:Int)/\i<a.ps.length:=by
 unfold dq;rw[eJ,gL,gL];constructor
 .rintro⟨d,e⟩;obtain⟨i,rfl⟩:=kn d;exact⟨i,X,by omega⟩
 .rintro⟨i,rfl,h⟩;exact⟨by omega,by omega⟩
def eR(m:BitVec 8)(i:Nat):Bool:=(((m>>>i)&&&(1:BitVec 8)).toNat:Int)==((1:BitVec 8).toNat:Int)
def act(a:AW)(p:Int):Bool:=dq a p&&eR a.aD.bx p.toNat&&(match a.ps[p.toNat]? with|some x=>!x.ea|none=>false)
def gZ(a:AW)(p:Int):Int:=bif !dq a p then 1 else bif !act a p then 11 else 0
theorem Bh{a:AW}(f:1<=a.ps.length/\a.ps.length<=6)(p:Int):rI a.w p=some (bif !dq a p then 1 else 0):=by unfold rI;have e:a.w.all=a.ps:=X;rw[e,vR,aj,bO O O];have d:(decide (p>=0)&&decide (p<=(a.ps.length:Int)-1))=dq a p:=X;rw[d];cases dq a p<;>rfl
theorem qv(i:Nat):cnt (i:Int)=some i:=by unfold cnt;rw[ce O];rfl
theorem wH{a:AW}(j:1<=a.ps.length/\a.ps.length<=6)(p:Int):qe a.w p=some (act a p):=by
 unfold qe;have e:a.w.all=a.ps:=X;rw[e,vR,aj,bO O O];have f:(decide (p>=0)&&decide (p<=(a.ps.length:Int)-1))=dq a p:=X;rw[f];unfold act
 cases g:dq a p with
 |false=>rfl
 |true=>
  obtain⟨i,rfl,hi⟩:=fP.1 g;have h:a.ps[i]?=some a.ps[i]:=by simp[hi]
  rw[bM,qv,aj,aj,cY,de,h];have d:((((a.w.aD.bx>>>i)&&&(1:BitVec 8)).toNat:Int)==((1:BitVec 8).toNat:Int))=eR a.aD.bx i:=X;rw[d];cases eR a.aD.bx i<;>rfl
theorem M5{a:AW}(d:1<=a.ps.length/\a.ps.length<=6)(p:Int):wa a.w p=some (gZ a p):=by
 unfold wa;rw[Bh d,aj,wH d];unfold gZ;cases dq a p
 .rfl
 .cases act a p<;>rfl
theorem nO{a:AW}{p:Int}(h:(gZ a p !=0)=false):∃(i:Nat)(x:bm),p=(i:Int)/\a.ps[i]?=some x/\act a p=true:=by
 unfold gZ at h
 cases d:dq a p with
 |false=>rw[d]at h;cases h
 |true=>
  rw[d]at h;obtain⟨i,rfl,hi⟩:=fP.1 d
  cases e:act a (i:Int)with
  |false=>rw[e]at h;cases h
  |true=>exact⟨i,a.ps[i],X,by simp[hi],X⟩
def sq(v:bh):Int:=((qb v).getD ((0:Int),(0:Int))).1
theorem MP(v:bh):∃c,rA v=some c:=by unfold rA rC;rw[or_some,aj,or_some,aj,aj,or_some,aj];cases (((decide (v.bS<0)||decide (v.bS>16777215))||((v.bx.toNat:Int)==((0:BitVec 8).toNat:Int)))||(((v.bx>>>6).toNat:Int)!=((0:BitVec 8).toNat:Int)))<;>exact⟨_,X⟩
theorem xF{α:Type}{l:List α}{i:Nat}(h:i<l.length):bf l (i:Int)=some l[i]:=by rw[cY];simp[h]
set_option maxRecDepth 20000 in
theorem Sv(v:bh):∃r,qb v=some r:=by
 unfold qb;obtain⟨c,e⟩:=MP v;rw[e,aj]
 cases (c !=0)with
 |true=>exact⟨_,X⟩
 |false=>unfold uX;rw[aW,xF (by have:=v.bx.isLt;exact this),aj,aj];exact⟨_,X⟩
theorem yI(w:bi):qh w=some (sq w.aD):=by unfold qh sq;obtain⟨r,e⟩:=Sv w.aD;rw[e,aj];rfl
def lM(t:aK):Bool:=match mV t with|some c=>c==0|none=>false
theorem Fv{t:aK}:lM t=true↔oT t:=by obtain⟨c,e,a⟩:=Aq t;unfold lM;rw[e,jW];exact a
def ji(v:bh)(k f t s:Int)(x:Y):aK:={aK.zero with ba:=k,aw:=f,To:=t,bh:=v.bS,ao:=s,aM:=x}
def dD(a:AW)(k f t s:Int)(x:Y):AW:=bif lM (ji a.aD k f t s x)&&decide (a.ah.length<60)then{a with ah:=a.ah++[ji a.aD k f t s x]}else a
theorem yH{a:AW}(h:a.ah.length<=60)(k f t s:Int)(x:Y):qf a.w k f t s x=some ((dD a k f t s x).w.ah,(dD a k f t s x).w):=by
 unfold qf;have e:({aK.zero with ba:=k,aw:=f,To:=t,bh:=a.w.aD.bS,ao:=s,aM:=x}:aK)=ji a.aD k f t s x:=X;have el:(a.w.ah.length:Int)=(a.ah.length:Int):=by show((a.ah.map gu).length:Int)=_;rw[kF]
 rw[e,el];unfold dD;by_cases d:oT (ji a.aD k f t s x)
 .rw[WH d,aj,Fv.2 d];simp only[mC,bM,aj,l7];by_cases i:a.ah.length<60
  .rw[dA (show(a.ah.length:Int)<60 by omega),dA i,bM,bM,eu (by show(a.ah.map gu).length+1<=_;rw[kF];omega),aj];refine congrArg some ?_;have g:(a.ah++[ji a.aD k f t s x]).map gu=a.w.ah++[gu (ji a.aD k f t s x)]:=by rw[kG];rfl
   refine f8 g.symm ?_;show(⟨a.aD,a.ps,a.ord.map cU,a.w.ah++[gu (ji a.aD k f t s x)]⟩:bi)=⟨a.aD,a.ps,a.ord.map cU,(a.ah++[ji a.aD k f t s x]).map gu⟩
   rw[g]
  .rw[cJ (show ¬(a.ah.length:Int)<60 by omega),cJ i,aW,aW]
 .obtain⟨c,j,l⟩:=WG d;have:lM (ji a.aD k f t s x)=false:=by rw[uN];exact λq=>d (Fv.1 q)
  rw[j,aj,this,l];rfl
theorem Gd(a:AW)(k f t s:Int)(x:Y):(dD a k f t s x).aD=a.aD:=by unfold dD;cases (lM (ji a.aD k f t s x)&&decide (a.ah.length<60))<;>rfl
theorem yG(a:AW)(k f t s:Int)(x:Y):(dD a k f t s x).ps=a.ps:=by unfold dD;cases (lM (ji a.aD k f t s x)&&decide (a.ah.length<60))<;>rfl
theorem ru(a:AW)(k f t s:Int)(x:Y):(dD a k f t s x).ord=a.ord:=by unfold dD;cases (lM (ji a.aD k f t s x)&&decide (a.ah.length<60))<;>rfl
theorem Z0(a:AW)(k f t s:Int)(x:Y):∀n∈(dD a k f t s x).ah,n∈a.ah\/n=ji a.aD k f t s x:=λn d=>by
 unfold dD at d
 cases e:(lM (ji a.aD k f t s x)&&decide (a.ah.length<60))with
 |false=>rw[e]at d;exact .inl d
 |true=>
  rw[e]at d;rcases e9.1 d with q|q
  .exact .inl q
  .exact .inr (iq.1 q)
theorem GA.send{B:Nat}{a:AW}(h:GA B a){k f t s:Int}{x:Y}(e:k=1->x.length<=150)(g:k=2->∃m,G3 m/\x=cU m):GA B (dD a k f t s x):=by
 unfold dD
 cases d:(lM (ji a.aD k f t s x)&&decide (a.ah.length<60))with
 |false=>exact h
 |true=>
  rw[eJ,gL]at d;refine⟨h.n,h.ps,h.ord,⟨by show(a.ah++[_]).length<=60;rw[cr];simp;omega,λn i=>?_⟩,h.num⟩;rcases e9.1 i with q|q
  .exact h.ah.2 n q
  .rw[iq.1 q];exact⟨Fv.1 d.1,e,g⟩
def foldI{a α:Type}(f:a->Nat->α->a):Nat->List α->a->a
 |_,[],b=>b
 |i,x::l,b=>foldI f (i+1) l (f b i x)
theorem mR{σ d α:Type}{body:Nat->σ->Option σ}(e:d->σ)(f:d->Nat->α->d)(a:Nat->d->Prop){l:List α}(h:∀(i:Nat)x b,l[i]?=some x->a i b->body i (e b)=some (e (f b i x))/\a (i+1) (f b i x)):
 ∀(k i:Nat)(b:d),i+k=l.length->a i b->bE body k i (e b)=some (e (foldI f i (l.drop i) b))/\a l.length (foldI f i (l.drop i) b)
 |0,i,b,j,g=>by rw[kp O];exact⟨X,by rw[<-j];exact g⟩
 |k+1,i,b,j,g=>by
  have hi:i<l.length:=by omega
  have q:l[i]?=some l[i]:=by simp[hi]
  obtain⟨m,n⟩:=h i _ b q g;obtain⟨o,p⟩:=mR e f a h k (i+1) _ O n;rw[jd hi];refine⟨?_,p⟩;unfold bE;rw[m,aj,o];rfl
theorem nh{d α:Type}{f:d->Nat->α->d}(a:d->Prop):∀(l:List α)(i:Nat)(b:d),(∀b j x,x∈l->a b->a (f b j x))->a b->a (foldI f i l b)
 |[],_,_,_,e=>e
 |x::l,i,b,h,e=>nh a l (i+1) _ (λb j y g=>h b j y (nw _ g)) (h b i x (by simp) e)
theorem VJ(l:List Y):yO l=some (l.any λx=>decide ((x.length:Int)>200)):=by
 unfold yO;have:yU l=some (jV (λx=>decide ((x.length:Int)>200)) l):=by unfold yU;refine EX _ λj x d=>?_;unfold B8 oz;rw[cY,d,aj,aj];cases decide ((x.length:Int)>200)<;>rfl
 rw[this,aj];congr 1;rw[eZ,Bb,gL];rcases J4 (λx:Y=>decide ((x.length:Int)>200)) l with⟨h,a⟩|⟨i,y,h,a,e,_⟩
 .rw[h];exact⟨λk=>by omega,λ⟨x,d,k⟩=>by have:=a x d;rw[this]at k;cases k⟩
 .rw[h];exact⟨λ_=>⟨y,dj a,e⟩,λ_=>by omega⟩
structure GF(f:aw):Prop where
 base:0<=f.Base/\f.Base+f.aJ.length<=16777215
 late:f.aJ.length<=16/\∀t∈f.aJ,t.length<=150
theorem GP.gf{B:Nat}{x:bm}(h:GP B x):GF x.au:=⟨h.base,h.late⟩
theorem Eb{f:aw}(h:GF f):sT f=some 0:=by
 have g:=h.base;have a:=h.late;have d:(f.aJ.any λx=>decide ((x.length:Int)>200))=false:=by rw[List.any_eq_false];intro x e;have:=a.2 x e;simp;omega
 unfold sT;rw[xG,aj,dA (show f.Base>=0 by omega),dA (show f.Base<=16777215 by omega),cJ (show ¬(f.aJ.length:Int)>16 by omega),VJ,d];rfl
theorem As{l:List Y}(h:l.length<=2^40):rx l=some l:=by unfold rx;rw[eu (by simpa using h)];rfl
theorem DP{l:List ay}(h:l.length<=2^40):tD l=some l:=by unfold tD;rw[eu (by simpa using h)];rfl
def jU(f:aw):Bool:=decide (f.aJ.length=16)||decide (f.Base+f.aJ.length>=16777215)
theorem W8{f:aw}{t:Y}(h:GF f)(g:t.length<=150):xD f t=some (bif jU f then((⟨0,[]⟩:aw),8)else((⟨f.Base,f.aJ++[t]⟩:aw),0)):=by
 have a:=h.base;have d:=h.late;unfold xD;rw[Eb h,aj,Kn,aj,cJ (show ¬(t.length:Int)>200 by omega),or_some,aj,bO (show-9223372036854775808<=f.Base+(f.aJ.length:Int) by omega) O,As O,aj,eu (by simp;omega),aj,fb];have e:(((f.aJ.length:Int)==16)||decide (f.Base+(f.aJ.length:Int)>=16777215))=jU f:=by unfold jU;congr 1;rw[eZ];simp;omega
 rw[e];cases jU f<;>rfl
def lb(f:aw)(k:Int):aw:=bif decide (k>f.Base+f.aJ.length)then f else⟨f.Base+max (k-f.Base) 0,f.aJ.drop (max (k-f.Base) 0).toNat⟩
theorem TJ{f:aw}{k:Int}(h:GF f)(l:-1000000000<=k/\k<=1000000000):∃g c,xC f k=some (g,c)/\(bif c==0 then g else f)=lb f k:=by
 have i:=h.base;have j:=h.late;unfold xC lb;rw[Eb h,aj];simp only[kC,aW];rw[bO (show-9223372036854775808<=f.Base+(f.aJ.length:Int) by omega) O];by_cases c:k>f.Base+f.aJ.length
 .rw[dA c];exact⟨_,_,X,X⟩
 .rw[cJ c,aW,aW,bO (show-9223372036854775808<=k-f.Base by omega) O];obtain⟨n,d⟩:∃n:Nat,max (k-f.Base) 0=(n:Int):=kn O;rw[d];have e:n<=f.aJ.length:=by omega
  have a:co f.aJ (n:Int) (f.aJ.length:Int)=some (f.aJ.drop n):=by unfold co;rw[ce O];simp only[de];rw[iI (by simp)]
  rw[a,aj,As (by simp;omega),aj,fb,bO (show-9223372036854775808<=f.Base+(n:Int) by omega) O];exact⟨_,_,X,X⟩
theorem Ez{f:aw}{k:Int}(h:GF f):GF (lb f k):=by
 have e:=h.base;have a:=h.late;unfold lb;by_cases c:k>f.Base+f.aJ.length
 .rw[dA c];exact h
 .rw[cJ c,aW];refine⟨⟨by simp only;omega,?_⟩,?_,λt d=>a.2 t (oy d)⟩
  .simp only[gM];omega
  .simp only[gM];omega
def iN(a:AW)(p:Int)(t:Y):AW×Int:=
 bif gZ a p !=0 then(a,gZ a p)else
 bif decide (t.length>150)then(a,2)else
 bif decide (a.ah.length=60)then(a,8)else
 match a.ps[p.toNat]? with
 |none=>(a,0)
 |some x=>bif jU x.au then(a,8)else
  (dD {a with ps:=a.ps.set p.toNat {x with au:=⟨x.au.Base,x.au.aJ++[t]⟩}} 1 p (sq a.aD) (x.au.Base+x.au.aJ.length) t,0)
theorem ZX{B:Nat}{a:AW}(h:GA B a)(p:Int)(t:Y):zA a.w p t=some ((iN a p t).1.w.all,(iN a p t).1.w.ah,(iN a p t).1.w,(iN a p t).2):=by
 unfold zA iN;rw[M5 h.n,aj]
 cases y:(gZ a p !=0)with
 |true=>rfl
 |false=>
  obtain⟨i,x,rfl,l,C⟩:=nO y;rw[aW,aW];by_cases k:t.length>150
  .rw[dA k,dA (show(t.length:Int)>150 by omega)];rfl
  .rw[cJ k,cJ (show ¬(t.length:Int)>150 by omega),aW,aW];have s:(((a.w.ah).length:Int)==60)=decide (a.ah.length=60):=by
    have:a.w.ah.length=a.ah.length:=kF _;rw[this,eZ];simp;omega
   rw[s];by_cases g:a.ah.length=60
   .rw[dA g];rfl
   .have e:a.w.all=a.ps:=X;have j:=(h.ps x (dj l)).gf;have d:=j.base;rw[cJ g,aW,aW,e,cY,de,l,aj,W8 j O,aj];simp only
    cases D:jU x.au with
    |true=>rfl
    |false=>
     simp only[aW,kC,aj,fb];have q:({a.w with all:=a.ps.set i ({x with au:=(⟨x.au.Base,x.au.aJ++[t]⟩:aw)}:bm)}:bi)=({a with ps:=a.ps.set i {x with au:=⟨x.au.Base,x.au.aJ++[t]⟩}}:AW).w:=X;have o:aq ((aq (x.au.Base+((x.au.aJ++[t]).length:Int)))-1)=x.au.Base+x.au.aJ.length:=by
      have f:((x.au.aJ++[t]).length:Int)=(x.au.aJ.length:Int)+1:=by simp
      rw[f,bO (x:=x.au.Base+((x.au.aJ.length:Int)+1)) O O,bO O O];omega
     have A:(({a with ps:=a.ps.set i {x with au:=⟨x.au.Base,x.au.aJ++[t]⟩}}:AW).w).aD=a.aD:=X;rw[q,yI,aj,o,A,yH (a:={a with ps:=a.ps.set i {x with au:=⟨x.au.Base,x.au.aJ++[t]⟩}}) h.ah.1,aj];refine congrArg some ?_;generalize d:dD ({a with ps:=a.ps.set i {x with au:=⟨x.au.Base,x.au.aJ++[t]⟩}}:AW) 1 (i:Int) (sq a.aD) (x.au.Base+x.au.aJ.length) t=b;have m:b.ps=a.ps.set i {x with au:=⟨x.au.Base,x.au.aJ++[t]⟩}:=by rw[<-d,yG]
     have n:b.ord=a.ord:=by rw[<-d,ru]
     show(a.ps.set i _,b.w.ah,({b.w with all:=a.ps.set i _,aQ:=a.w.aQ,ah:=b.w.ah}:bi),(0:Int))=(b.w.all,b.w.ah,b.w,0)
     rw[<-m];unfold AW.w;simp only;rw[n]
theorem GA.yF{B:Nat}{a:AW}(h:GA B a)(p:Int)(t:Y):GA B (iN a p t).1:=by
 unfold iN
 cases n:(gZ a p !=0)with
 |true=>exact h
 |false=>
  obtain⟨i,x,rfl,g,o⟩:=nO n;rw[aW];by_cases f:t.length>150
  .rw[dA f];exact h
  .rw[cJ f,aW];by_cases d:a.ah.length=60
   .rw[dA d];exact h
   .rw[cJ d,aW,de,g];simp only;have hp:=h.ps x (dj g)
    cases e:jU x.au with
    |true=>exact h
    |false=>
     rw[aW];unfold jU at e;simp only[Bool.or_eq_false_iff,px]at e;have j:=hp.base;have l:=hp.late;refine GA.send (k:=1) (x:=t) (h.set i (x:={x with au:=⟨x.au.Base,x.au.aJ++[t]⟩}) ⟨hp.bd,hp.jz,⟨j.1,?_⟩,⟨?_,λu m=>?_⟩,hp.to,hp.iw⟩) (λ_=>by omega) (λq=>absurd q ab)
     .simp only[cr,bN,bV];omega
     .simp only[cr,bN,bV];omega
     .rcases e9.1 m with q|q
      .exact l.2 u q
      .rw[iq.1 q];omega
def gB(a:AW)(p:Int):AW×Int:=
 bif !dq a p then(a,1)else
 match a.ps[p.toNat]? with
 |none=>(a,0)
 |some x=>({a with ps:=a.ps.set p.toNat {x with ea:=true}},0)
theorem Sr{B:Nat}{a:AW}(h:GA B a)(p:Int):zx a.w p=some ((gB a p).1.w.all,(gB a p).1.w,(gB a p).2):=by
 unfold zx gB;rw[Bh h.n,aj]
 cases f:dq a p with
 |false=>rfl
 |true=>
  obtain⟨i,rfl,hi⟩:=fP.1 f;have d:a.ps[i]?=some a.ps[i]:=by simp[hi]
  generalize a.ps[i]=x at d;have e:a.w.all=a.ps:=X;simp only[ii,aW,kC];rw[e,cY,de,d,aj,fb];rfl
theorem GA.wQ{B:Nat}{a:AW}(h:GA B a)(p:Int):GA B (gB a p).1:=by
 unfold gB
 cases e:dq a p with
 |false=>exact h
 |true=>
  obtain⟨i,rfl,hi⟩:=fP.1 e;have d:a.ps[i]?=some a.ps[i]:=by simp[hi]
  generalize a.ps[i]=x at d;rw[de,d];simp only[ii,aW];have hp:=h.ps x (dj d);exact h.set i ⟨hp.bd,hp.jz,hp.base,hp.late,hp.to,hp.iw⟩
def ix(b:Int):Nat->List Y->List aP
 |_,[]=>[]
 |i,t::l=>if i<4 then⟨b+i,t⟩::ix b (i+1) l else ix b (i+1) l
theorem Ge{f:aw}(h:GF f):∀(k i:Nat)(z:List aP),i+k=f.aJ.length->z.length<=i->bE (q8 f 4) k i z=some (z++ix f.Base i (f.aJ.drop i))
 |0,i,z,e,_=>by rw[kp O];show some z=some (z++[]);rw[jH]
 |k+1,i,z,e,l=>by
  have hi:i<f.aJ.length:=by omega
  have d:f.aJ[i]?=some f.aJ[i]:=by simp[hi]
  have g:=h.base;have j:=h.late.1;rw[jd hi];generalize f.aJ[i]=t at d;unfold bE;by_cases c:i<4
  .have a:q8 f 4 i z=some (z++[⟨f.Base+i,t⟩]):=by
    unfold q8;rw[cY,d,aj,dA (show(i:Int)<4 by omega),bM,bO (show-9223372036854775808<=f.Base+(i:Int) by omega) O,eu (by simp;omega),aj]
   rw[a,aj,Ge h k (i+1) _ O (by simp;omega)]
   conv=>rhs;unfold ix
   rw[ce c,f9];rfl
  .have a:q8 f 4 i z=some z:=by
    unfold q8;rw[cY,d,aj,cJ (show ¬(i:Int)<4 by omega),aW]
   rw[a,aj,Ge h k (i+1) _ O O]
   conv=>rhs;unfold ix
   rw[ck c]
theorem Z1{f:aw}(h:GF f):xE f 4=some (ix f.Base 0 f.aJ,0):=by unfold xE;rw[Eb h,aj];simp only[kC,aW];rw[Ge h f.aJ.length 0 [] O (by simp),aj];rfl
theorem Cc{b:Int}:∀{i:Nat}{l:List Y}{q:aP},q∈ix b i l->q.aM∈l
 |_,[],_,h=>by simp[ix]at h
 |i,t::l,q,h=>by
  unfold ix at h;split at h
  .rcases fB.1 h with e|e
   .rw[e];simp
   .exact nw _ (Cc e)
  .exact nw _ (Cc h)
def jT(a:AW)(p:Int):AW×Int:=
 bif gZ a p !=0 then(a,gZ a p)else
 match a.ps[p.toNat]? with
 |none=>(a,0)
 |some x=>(dD (foldI (λb _(q:aP)=>dD b 1 p (sq a.aD) q.ao q.aM) 0 (ix x.au.Base 0 x.au.aJ) a) 3 p (sq a.aD) x.to.Next [],0)
structure hQ(a b:AW):Prop where
 aD:b.aD=a.aD
 ps:b.ps=a.ps
 ord:b.ord=a.ord
theorem hQ.w{a b:AW}(h:hQ a b):({b.w with all:=a.w.all,aQ:=a.w.aQ,ah:=b.w.ah}:bi)=b.w:=by unfold AW.w;simp only;rw[h.ps,h.ord]
theorem hQ.send{a b:AW}(h:hQ a b)(k f t s:Int)(x:Y):hQ a (dD b k f t s x):=⟨(Gd ..).trans h.aD,(yG ..).trans h.ps,(ru ..).trans h.ord⟩
theorem Q6{B:Nat}{a:AW}(h:GA B a)(p:Int):zv a.w p=some ((jT a p).1.w.ah,(jT a p).1.w,(jT a p).2):=by
 unfold zv jT;rw[M5 h.n,aj]
 cases C:(gZ a p !=0)with
 |true=>rfl
 |false=>
  obtain⟨i,x,rfl,A,D⟩:=nO C;have e:a.w.all=a.ps:=X;have hp:=h.ps x (dj A);rw[aW,aW,e,cY,de,A,aj,Z1 hp.gf,aj];simp only
  obtain⟨n,s⟩:=mR (body:=vW a.w (i:Int) (ix x.au.Base 0 x.au.aJ,0)) (λb:AW=>(b.w,b.w.ah)) (λb _(q:aP)=>dD b 1 (i:Int) (sq a.aD) q.ao q.aM) (λ_ b=>hQ a b/\GA B b) (l:=ix x.au.Base 0 x.au.aJ) (λj q b y t=>by
   obtain⟨f,k⟩:=t;unfold vW;simp only;rw[cY,y,aj,f.w,yI,aj,show b.w.aD=a.aD from f.aD,yH k.ah.1,aj];have d:=f.send 1 (i:Int) (sq a.aD) q.ao q.aM
   exact⟨by rw[d.w],d,k.send (λ_=>hp.late.2 _ (Cc (dj y))) (λc=>absurd c ab)⟩) (ix x.au.Base 0 x.au.aJ).length 0 a O ⟨⟨X,X,X⟩,h⟩
  rw[eT]at n s;generalize t:foldI (λb _(q:aP)=>dD b 1 (i:Int) (sq a.aD) q.ao q.aM) 0 (ix x.au.Base 0 x.au.aJ) a=b at n s;have o:bE (vW a.w (i:Int) (ix x.au.Base 0 x.au.aJ,0)) (ix x.au.Base 0 x.au.aJ).length 0 (a.w,a.w.ah)=some (b.w,b.w.ah):=n;obtain⟨f,k⟩:=s;rw[o,aj];simp only;have m:({b.w with all:=a.ps,aQ:=a.w.aQ,ah:=b.w.ah}:bi)=b.w:=f.w;rw[m,yI,aj,show b.w.aD=a.aD from f.aD,aj,yH k.ah.1,aj];have d:=f.send 3 (i:Int) (sq a.aD) x.to.Next [];have g:({(dD b 3 (i:Int) (sq a.aD) x.to.Next []).w with all:=a.ps,aQ:=a.w.aQ,ah:=(dD b 3 (i:Int) (sq a.aD) x.to.Next []).w.ah}:bi)=(dD b 3 (i:Int) (sq a.aD) x.to.Next []).w:=d.w;simp only;rw[g]
theorem GA.again{B:Nat}{a:AW}(h:GA B a)(p:Int):GA B (jT a p).1:=by
 unfold jT
 cases g:(gZ a p !=0)with
 |true=>exact h
 |false=>obtain⟨i,x,rfl,d,k⟩:=nO g;rw[aW,de,d];simp only;have hp:=h.ps x (dj d);refine GA.send (nh (GA B) _ 0 a (λb j q f e=>e.send (λ_=>hp.late.2 _ (Cc f)) (λc=>absurd c ab)) h) (λc=>absurd c ab) (λc=>absurd c ab)
def iY(fu:Nat)(r:To)(p:aP):To×List Y:=
 match mF fu r p with
 |some (o,ts,_)=>(o,ts)
 |none=>(r,[])
theorem vN{r:To}{p:aP}{fu:Nat}(a:200<fu)(h:lR r)(hp:0<=p.ao/\p.ao<=16777214)(i:p.aM.length<=200):
 mF fu r p=some ((iY fu r p).1,(iY fu r p).2,0)/\wz r p (iY fu r p).1 (iY fu r p).2/\(p.ao=r.Next->1<=(iY fu r p).2.length)/\(iY fu r p).2.length<=17:=by
 obtain⟨o,ts,e,d,f,g⟩:=aaT a h hp i;have:iY fu r p=(o,ts):=by unfold iY;rw[e]
 rw[this];exact⟨e,d,f,g⟩
theorem Mw{r:To}{p:aP}{fu:Nat}(h:lR r)(hp:p.ao>16777214):∃o,mF fu r p=some (o,[],1):=by unfold mF;rw[Gq h,aj];simp only[kC,aW];rw[xG,aj,cJ (show ¬p.ao<=16777214 by omega),A8,uO,bM];exact⟨_,X⟩
theorem Cn{r:To}{p:aP}{o:To}{ts:List Y}(h:lR r)(j:∀x∈r.bg,x.ao<=16777214)(hp:p.ao<=16777214)(a:wz r p o ts):lR o:=by
 have k:=a.next;have i:=h.lo;have g:=h.hi;refine⟨by omega,?_,a.len,a.inc,λx d=>⟨(a.fE x d).1,by have:=(a.fE x d).2.1;omega⟩,a.jz⟩;rcases pr ts.length with e|e
 .omega
 .have f:ts[ts.length-1]?=some (ts[ts.length-1]'O):=by simp
  rcases a.au _ _ f with q|q
  .have:=j _ q;simp only at this;omega
  .rw[<-q]at hp;simp only at hp;omega
def fp(b:AW)(p q:Int)(t:Y):AW:=
 foldI (λ(c:AW)j(_:bm)=>bif act c (j:Int)then dD c 2 (sq b.aD) (j:Int) (b.ord.length:Int) (cU (p,q,t))else c) 0 b.ps {b with ord:=b.ord++[(p,q,t)]}
theorem pT(b:AW)(p q:Int)(t:Y):hQ {b with ord:=b.ord++[(p,q,t)]} (fp b p q t):=by
 unfold fp;refine nh (hQ {b with ord:=b.ord++[(p,q,t)]}) _ 0 _ (λc j x _ a=>?_) ⟨X,X,X⟩;cases act c (j:Int)
 .exact a
 .exact a.send ..
theorem GA.fp{B:Nat}{b:AW}(h:GA B b){p q:Int}{t:Y}(d:G3 (p,q,t)):GA (B+1) (fp b p q t):=by
 have f:GA (B+1) {b with ord:=b.ord++[(p,q,t)]}:=by
  refine⟨h.n,λx i=>(h.ps x i).mono O,⟨?_,λm g=>?_⟩,h.ah,h.num⟩
  .have:=h.ord.1;simp only[cr,bN,bV];omega
  .rcases e9.1 g with e|e
   .exact h.ord.2 m e
   .rw[iq.1 e];exact d
 unfold Go.Proofs.YtklkkoelldkncaaGreatDoor.fp;refine nh (GA (B+1)) _ 0 _ (λc j x _ a=>?_) f;cases act c (j:Int)
 .exact a
 .exact a.send (λe=>absurd e ab) (λ_=>⟨_,d,X⟩)
def jN(fu:Nat)(a:AW)(n:aK):AW:=
 match a.ps[n.aw.toNat]? with
 |none=>a
 |some x=>bif decide (n.ao>16777214)then a else
  foldI (λb i t=>fp b n.aw (x.bw.Next+(i:Int)) t) 0 (iY fu x.bw ⟨n.ao,n.aM⟩).2 {a with ps:=a.ps.set n.aw.toNat {x with bw:=(iY fu x.bw ⟨n.ao,n.aM⟩).1}}
theorem Wz{B:Nat}{b:AW}{n:aK}{a:bm}{l:List Y}{i:Nat}{t:Y}(h:GA B b)(hB:B<=2^35)(hl:l[i]?=some t)(hg:G3 (n.aw,a.bw.Next+(i:Int),t)):
 rJ n a l b.ps i (b.w,b.w.aQ,b.w.ah)=some ((fp b n.aw (a.bw.Next+(i:Int)) t).w,(fp b n.aw (a.bw.Next+(i:Int)) t).w.aQ,(fp b n.aw (a.bw.Next+(i:Int)) t).w.ah):=by
 obtain⟨Q,S,V⟩:=hg;simp only at Q S V;obtain⟨i1,_,i2,_⟩:=qN Q.1 (show n.aw<1000000000 by omega);obtain⟨j1,_,j2,_⟩:=qN S.1 (show a.bw.Next+(i:Int)<1000000000 by omega);have L:b.w.aQ.length=b.ord.length:=kF _;have ho:=h.ord.1;unfold rJ;simp only;rw[cY,hl,aj,i1,aj,eu (by simp;omega),aj];by_cases hx:True
 .have hw:aq (a.bw.Next+(i:Int))=a.bw.Next+(i:Int):=bO O O
  rw[hw,j1,aj,eu (by simp only[cr,bN,bV];omega),aj,eu (by simp only[cr,bN,bV];omega),aj,
   eu (by simp only[cr,bN,bV];omega),aj,eu (by simp only[bN,bV];omega),aj]
  obtain⟨f,e⟩:∃f:AW,f={b with ord:=b.ord++[(n.aw,a.bw.Next+(i:Int),t)]}:=⟨_,X⟩
  have T:(((ig n.aw++([58]:Y))++ig (a.bw.Next+(i:Int)))++([58]:Y))++t=cU (n.aw,a.bw.Next+(i:Int),t):=X;rw[T];have m:f.w=({b.w with all:=b.ps,aQ:=b.w.aQ++[cU (n.aw,a.bw.Next+(i:Int),t)],ah:=b.w.ah}:bi):=by rw[e];unfold AW.w;simp only[kG,ow,List.map_nil]
  have k:f.w.aQ=b.w.aQ++[cU (n.aw,a.bw.Next+(i:Int),t)]:=by rw[m]
  have H:f.ah.length<=60:=by rw[e];exact h.ah.1
  have hn:1<=f.ps.length/\f.ps.length<=6:=by rw[e];exact h.n
  obtain⟨C,A⟩:=mR (body:=vZ b.ps b.w.aQ t (ig n.aw) (ig (a.bw.Next+(i:Int)))) (λc:AW=>(c.w,c.w.ah))
   (λ(c:AW)j(_:bm)=>bif act c (j:Int)then dD c 2 (sq b.aD) (j:Int) (b.ord.length:Int) (cU (n.aw,a.bw.Next+(i:Int),t))else c) (λ_ c=>hQ f c/\c.ah.length<=60) (l:=b.ps) (λj y c _ hc=>by
    obtain⟨g,p⟩:=hc;have D:({c.w with all:=b.ps,aQ:=b.w.aQ++[cU (n.aw,a.bw.Next+(i:Int),t)],ah:=c.w.ah}:bi)=c.w:=by have:=g.w;rw[k,show f.w.all=b.ps by rw[e];rfl]at this;exact this
    unfold vZ;simp only;rw[T,D,wH (by rw[g.ps];exact hn),aj]
    cases W:act c (j:Int)with
    |false=>exact⟨X,g,p⟩
    |true=>
     have M:aq (((b.w.aQ++[cU (n.aw,a.bw.Next+(i:Int),t)]).length:Int)-1)=(b.ord.length:Int):=by
      have K:((b.w.aQ++[cU (n.aw,a.bw.Next+(i:Int),t)]).length:Int)=(b.ord.length:Int)+1:=by rw[cr,L];rfl
      rw[K,bO O O];omega
     have hv:c.w.aD=b.aD:=by show c.aD=b.aD;rw[g.aD,e]
     rw[bM,bM,yI,aj,hv,M,yH p,aj];have x:=g.send 2 (sq b.aD) (j:Int) (b.ord.length:Int) (cU (n.aw,a.bw.Next+(i:Int),t));have o:=x.w;rw[k,show f.w.all=b.ps by rw[e];rfl]at o;refine⟨by simp only;rw[o],x,?_⟩;unfold dD
     cases hq:(lM (ji c.aD 2 (sq b.aD) (j:Int) (b.ord.length:Int) (cU (n.aw,a.bw.Next+(i:Int),t)))&&decide (c.ah.length<60))with
     |false=>exact p
     |true=>
      rw[eJ,gL]at hq;show(c.ah++[_]).length<=60
      rw[cr];simp;omega) b.ps.length 0 f O ⟨⟨X,X,X⟩,H⟩
  rw[eT]at C A;have q:foldI (λ(c:AW)j(_:bm)=>bif act c (j:Int)then dD c 2 (sq b.aD) (j:Int) (b.ord.length:Int) (cU (n.aw,a.bw.Next+(i:Int),t))else c) 0 b.ps f=fp b n.aw (a.bw.Next+(i:Int)) t:=by rw[e];rfl
  rw[q]at C A;generalize fp b n.aw (a.bw.Next+(i:Int)) t=d at C A;have P:bE (vZ b.ps b.w.aQ t (ig n.aw) (ig (a.bw.Next+(i:Int)))) b.ps.length 0 (({b.w with all:=b.ps,aQ:=b.w.aQ++[cU (n.aw,a.bw.Next+(i:Int),t)],ah:=b.w.ah}:bi),b.w.ah)=some (d.w,d.w.ah):=by
   rw[<-m];have:f.w.ah=b.w.ah:=by rw[e];rfl
   rw[<-this];exact C
  rw[P,aj];simp only;have s:=A.1.w;rw[k,show f.w.all=b.ps by rw[e];rfl]at s;have F:d.w.aQ=b.w.aQ++[cU (n.aw,a.bw.Next+(i:Int),t)]:=by rw[<-k];show d.ord.map cU=_;rw[A.1.ord];rfl
  rw[s,F]
 .exact absurd bo hx
theorem Wx{B fu:Nat}{a:AW}{n:aK}(H:200<fu)(h:GA B a)(hB:B<=2^34)(Q:GN n)(hk:n.ba=1)(P:dq a n.aw=true):
 zE fu a.w n=some ((jN fu a n).w.all,(jN fu a n).w.aQ,(jN fu a n).w.ah,(jN fu a n).w)/\GA (B+17) (jN fu a n):=by
 obtain⟨i,hi,L⟩:=fP.1 P;have C:a.ps[i]?=some a.ps[i]:=by simp[L]
 generalize a.ps[i]=x at C;have hp:=h.ps x (dj C);have e:a.w.all=a.ps:=X;have V:=Q.1.seq;have F:=Q.1.au;have ht:=Q.2.1 hk;unfold zE jN;rw[e,hi,cY,C,aj,de,C];simp only;have ep:({aP.zero with ao:=n.ao,aM:=n.aM}:aP)=⟨n.ao,n.aM⟩:=X;rw[ep];by_cases T:n.ao>16777214
 .obtain⟨o,ho⟩:=Mw (fu:=fu) (p:=⟨n.ao,n.aM⟩) hp.iw.1 T;rw[ho,dA T];exact⟨X,h.mono O⟩
 .have g:n.ao<=16777214:=by omega
  obtain⟨t1,t2,_,t4⟩:=vN (r:=x.bw) (p:=⟨n.ao,n.aM⟩) H hp.iw.1 ⟨V.1,g⟩ (by simp only;omega);have f:=Cn hp.iw.1 (λy W=>(hp.iw.2 y W).1) g t2;have mu:=hp.iw.1.hi;have Uj:=hp.iw.1.lo;rw[t1,cJ T];generalize iY fu x.bw ⟨n.ao,n.aM⟩=r at t2 t4 f;obtain⟨o,ts⟩:=r;simp only at t2 t4 f;simp only[aj,fb,kC,aW]
  have S:GP B {x with bw:=o}:=⟨hp.bd,hp.jz,hp.base,hp.late,hp.to,f,λy W=>by
   rcases(t2.fE y W).2.2 with q|q
   .exact hp.iw.2 y q
   .rw[q];exact⟨g,ht⟩⟩
  have K:=h.set i S
  obtain⟨l1,D⟩:=mR (body:=rJ n x ts (a.ps.set i {x with bw:=o})) (λb:AW=>(b.w,b.w.aQ,b.w.ah)) (λb j t=>fp b (i:Int) (x.bw.Next+(j:Int)) t)
   (λj b=>b.ps=a.ps.set i {x with bw:=o}/\GA (B+j) b) (l:=ts) (λj t b M hb=>by
    obtain⟨k,m⟩:=hb;have xg:=(ed M).1;have hg:G3 (n.aw,x.bw.Next+(j:Int),t):=by
     refine⟨F,⟨by simp only;omega,by simp only;omega⟩,?_⟩;rcases t2.au j t M with q|q
     .exact(hp.iw.2 _ q).2
     .have:t=n.aM:=by injection q
      rw[this];exact ht
    have s:=Wz (l:=ts) m O M hg;rw[k]at s;refine⟨by rw[<-hi];exact s,?_,?_⟩
    .rw[(pT ..).ps];exact k
    .rw[<-hi];exact m.fp hg) ts.length 0 {a with ps:=a.ps.set i {x with bw:=o}} O ⟨X,K⟩
  rw[eT]at l1 D;generalize foldI (λ(b:AW)j t=>fp b (i:Int) (x.bw.Next+(j:Int)) t) 0 ts {a with ps:=a.ps.set i {x with bw:=o}}=d at l1 D;have xA:bE (rJ n x ts (a.ps.set i ({x with bw:=o}:bm))) ts.length 0 (({a.w with all:=a.ps.set i ({x with bw:=o}:bm)}:bi),a.w.aQ,a.w.ah)=some (d.w,d.w.aQ,d.w.ah):=l1;have A:bE (rJ n x ts (a.ps.set i ({x with bw:=({o with bg:=o.bg}:To)}:bm))) ts.length 0 (({a.w with all:=a.ps.set i ({x with bw:=({o with bg:=o.bg}:To)}:bm)}:bi),a.w.aQ,a.w.ah)=some (d.w,d.w.aQ,d.w.ah):=xA;refine⟨?_,D.2.mono O⟩;rw[A,aj];show some (a.ps.set i ({x with bw:=o}:bm),d.w.aQ,d.w.ah,({d.w with all:=a.ps.set i ({x with bw:=o}:bm),aQ:=d.w.aQ,ah:=d.w.ah}:bi))=_;rw[<-D.1];rfl
def rq(t:Y):Int×Int×Y:=
 (((lP ((mh t ([58]:Y)).getD (([]:Y),([]:Y),false)).1).getD ((0:Int),())).1,
  ((lP ((mh ((mh t ([58]:Y)).getD (([]:Y),([]:Y),false)).2.1 ([58]:Y)).getD (([]:Y),([]:Y),false)).1).getD ((0:Int),())).1,
  ((mh ((mh t ([58]:Y)).getD (([]:Y),([]:Y),false)).2.1 ([58]:Y)).getD (([]:Y),([]:Y),false)).2.1)
theorem IZ{m:Int×Int×Y}(h:G3 m):mh (cU m) ([58]:Y)=some (ig m.1,ig m.2.1++58::m.2.2,true)/\mh (ig m.2.1++58::m.2.2) ([58]:Y)=some (ig m.2.1,m.2.2,true)/\lP (ig m.1)=some (m.1,())/\lP (ig m.2.1)=some (m.2.1,()):=by
 obtain⟨_,a,i,d,f⟩:=qN h.1.1 (show m.1<1000000000 by have:=h.1.2;omega);obtain⟨_,g,j,b3,b4⟩:=qN h.2.1.1 (show m.2.1<1000000000 by have:=h.2.1.2;omega);have k:=h.2.2;have e:cU m=ig m.1++58::(ig m.2.1++58::m.2.2):=by unfold cU;simp
 refine⟨?_,IN g b3 (by simp;omega),f,b4⟩;rw[e];exact IN a d (by simp;omega)
theorem vv{m:Int×Int×Y}(h:G3 m):rq (cU m)=m:=by obtain⟨a,d,e,f⟩:=IZ h;unfold rq;rw[a];simp only[f7];rw[d];simp only[f7];rw[e,f];rfl
def gJ(b:AW)(p:Int)(t:Y):AW:=
 match b.ps[p.toNat]? with
 |none=>b
 |some x=>{b with ps:=b.ps.set p.toNat {x with bd:=x.bd++[⟨(rq t).1,(rq t).2.2⟩],au:=bif (rq t).1==p then lb x.au ((rq t).2.1+1)else x.au}}
def jO(fu:Nat)(a:AW)(n:aK):AW:=
 match a.ps[n.To.toNat]? with
 |none=>a
 |some x=>bif decide (n.ao>16777214)then a else
  foldI (λb _ t=>gJ b n.To t) 0 (iY fu x.to ⟨n.ao,n.aM⟩).2 {a with ps:=a.ps.set n.To.toNat {x with to:=(iY fu x.to ⟨n.ao,n.aM⟩).1}}
structure rV(a b:AW):Prop where
 aD:b.aD=a.aD
 ord:b.ord=a.ord
 ah:b.ah=a.ah
 len:b.ps.length=a.ps.length
theorem TH{B:Nat}{a b:AW}{n:aK}{l:List Y}{i j:Nat}{m:Int×Int×Y}(h:GA B b)(V:B<=2^35)(e:rV a b)(hi:n.To=(i:Int))(o:i<b.ps.length)(Q:l[j]?=some (cU m))(f:G3 m):
 tN a.w n l j (b.w,b.ps)=some ((gJ b n.To (cU m)).w,(gJ b n.To (cU m)).ps)/\GA (B+1) (gJ b n.To (cU m))/\rV a (gJ b n.To (cU m)):=by
 obtain⟨F,H,K,L⟩:=IZ f;have A:b.ps[i]?=some b.ps[i]:=by simp[o]
 generalize b.ps[i]=x at A;have hp:=h.ps x (dj A);have D:=hp.bd;have hq:=f.2.1;have t:aq (m.2.1+1)=m.2.1+1:=bO O O;have d:∀ps,({b.w with all:=ps,aQ:=a.w.aQ,ah:=a.w.ah}:bi)=({b with ps:=ps}:AW).w:=λps=>by unfold AW.w;simp only;rw[e.ord,e.ah]
 have C:i<b.ps.length:=o;have p:∀y:bm,(b.ps.set i y)[i]?=some y:=λy=>by rw[ir C]
 refine⟨?_,?_,?_⟩
 .unfold tN gJ;rw[cY,Q,aj,F,aj];simp only;rw[H,aj,K,aj,hi,cY,de,A,aj,eu (by simp;omega),aj,aj,fb,vv f];simp only;have es:({ay.zero with aw:=m.1,aM:=m.2.2}:ay)=⟨m.1,m.2.2⟩:=X;rw[es]
  cases hm:(m.1==(i:Int))with
  |false=>simp only[aW];rw[d]
  |true=>
   obtain⟨g,c,P,T⟩:=TJ (k:=m.2.1+1) hp.gf O;simp only[bM];rw[L,aj,cY,p,aj];simp only;rw[t,P,aj];simp only;rw[<-T]
   cases W:(c==0)with
   |false=>simp only[aW];rw[d]
   |true=>simp only[bM];rw[aj,fb,l0,d]
 .unfold gJ;rw[hi,de,A];simp only;have M:=h.mono (show B<=B+1 by omega);refine M.set i ⟨?_,λs S=>?_,?_,?_,hp.to,hp.iw⟩
  .simp only[cr,bN,bV];omega
  .rcases e9.1 S with q|q
   .exact hp.jz s q
   .rw[iq.1 q,vv f];exact f.2.2
  .cases ((rq (cU m)).1==(i:Int))
   .exact hp.base
   .exact(Ez hp.gf).base
  .cases ((rq (cU m)).1==(i:Int))
   .exact hp.late
   .exact(Ez hp.gf).late
 .unfold gJ;rw[hi,de,A];exact⟨e.aD,e.ord,e.ah,by simp only[pD];exact e.len⟩
theorem aaV{B fu:Nat}{a:AW}{n:aK}(P:200<fu)(h:GA B a)(hB:B<=2^34)(hn:GN n)(hk:n.ba=2)(S:dq a n.To=true):
 zH fu a.w n=some ((jO fu a n).w.all,(jO fu a n).w)/\GA (B+17) (jO fu a n)/\rV a (jO fu a n):=by
 obtain⟨i,hi,A⟩:=fP.1 S;have H:a.ps[i]?=some a.ps[i]:=by simp[A]
 generalize a.ps[i]=x at H;have hp:=h.ps x (dj H);have e:a.w.all=a.ps:=X;have xm:=hn.1.seq;obtain⟨m,T,k⟩:=hn.2.2 hk;have xi:=Ax T;unfold zH jO;rw[e,hi,cY,H,aj,de,H];simp only;have ep:({aP.zero with ao:=n.ao,aM:=n.aM}:aP)=⟨n.ao,n.aM⟩:=X;rw[ep];by_cases W:n.ao>16777214
 .obtain⟨o,ho⟩:=Mw (fu:=fu) (p:=⟨n.ao,n.aM⟩) hp.to.1 W;rw[ho,dA W];exact⟨X,h.mono O,X,X,X,X⟩
 .have g:n.ao<=16777214:=by omega
  obtain⟨t1,t2,_,t4⟩:=vN (r:=x.to) (p:=⟨n.ao,n.aM⟩) P hp.to.1 ⟨xm.1,g⟩ (by simp only;rw[k];omega);have f:=Cn hp.to.1 (λy hy=>(hp.to.2 y hy).1) g t2;rw[t1,cJ W];generalize iY fu x.to ⟨n.ao,n.aM⟩=r at t2 t4 f;obtain⟨o,ts⟩:=r;simp only at t2 t4 f;simp only[aj,fb,kC,aW]
  have V:GP B {x with to:=o}:=⟨hp.bd,hp.jz,hp.base,hp.late,⟨f,λy hy=>by
   rcases(t2.fE y hy).2.2 with q|q
   .exact hp.to.2 y q
   .rw[q];exact⟨g,m,T,k⟩⟩,hp.iw⟩
  have Q:=h.set i V;have D:∀(j:Nat)t,ts[j]?=some t->∃m,G3 m/\t=cU m:=λj t C=>by
   rcases t2.au j t C with q|q
   .exact(hp.to.2 _ q).2
   .have:t=n.aM:=by injection q
    rw[this];exact⟨m,T,k⟩
  obtain⟨K,s⟩:=mR (body:=tN a.w n ts) (λb:AW=>(b.w,b.ps)) (λb _ t=>gJ b n.To t)
   (λj b=>GA (B+j) b/\rV a b) (l:=ts) (λj t b C L=>by
    obtain⟨m',g',rfl⟩:=D j t C;have xg:=(ed C).1;have M:GA (B+j) b:=L.1
    exact TH (B:=B+j) M (show B+j<=2^35 by omega) L.2 hi (by rw[L.2.len];exact A) C g') ts.length 0 {a with ps:=a.ps.set i {x with to:=o}} O ⟨Q,X,X,X,by simp⟩
  rw[eT]at K s;rw[hi]at K s;generalize foldI (λ(b:AW)(_:Nat)t=>gJ b (i:Int) t) 0 ts {a with ps:=a.ps.set i {x with to:=o}}=d at K s;have F:bE (tN a.w n ts) ts.length 0 (({a.w with all:=a.ps.set i ({x with to:=({o with bg:=o.bg}:To)}:bm)}:bi),a.ps.set i ({x with to:=({o with bg:=o.bg}:To)}:bm))=some (d.w,d.ps):=K;refine⟨?_,s.1.mono O,s.2⟩;rw[F,aj];show some (d.ps,({d.w with all:=d.ps,aQ:=a.w.aQ,ah:=a.w.ah}:bi))=_;have:({d.w with all:=d.ps,aQ:=a.w.aQ,ah:=a.w.ah}:bi)=d.w:=by unfold AW.w;simp only;rw[s.2.ord,s.2.ah]
  rw[this];rfl
def fd(s f:Int):Nat->Nat->AW->AW
 |0,_,b=>b
 |k+1,i,b=>match b.ord[i]? with
  |none=>b
  |some m=>fd s f k (i+1) (dD b 2 s f (i:Int) (cU m))
def oW(a:AW)(n:aK):AW:=fd (sq a.aD) n.aw 4 n.ao.toNat a
theorem Rq{B:Nat}{a:AW}{n:aK}(P:0<=n.ao/\n.ao<=16777215):∀(k i:Nat)(b:AW)(fu:Nat),k<fu->(i:Int)+k=n.ao+4->hQ a b->GA B b->
 ∃j,df (rH a.w n) fu ((i:Int),b.w,b.w.ah)=some (.inl (j,(fd (sq a.aD) n.aw k i b).w,(fd (sq a.aD) n.aw k i b).w.ah))/\hQ a (fd (sq a.aD) n.aw k i b)/\GA B (fd (sq a.aD) n.aw k i b):=by
 have stop:∀(i:Nat)(b:AW)(fu:Nat),0<fu->hQ a b->((i:Int)<a.ord.length->¬(i:Int)<n.ao+4)->∃j,df (rH a.w n) fu ((i:Int),b.w,b.w.ah)=some (.inl (j,b.w,b.w.ah)):=λi b fu q d L=>by
  obtain⟨fu,rfl⟩:∃g,fu=g+1:=⟨fu-1,by omega⟩
  refine⟨i,?_⟩;have h:(a.w.aQ.length:Int)=a.ord.length:=by show((a.ord.map cU).length:Int)=_;rw[kF]
  unfold df rH;simp only;rw[h,bO (show-9223372036854775808<=n.ao+4 by omega) O,ls,aj,d.w];by_cases c:(i:Int)<a.ord.length
  .rw[dA c,cJ (L c)];rfl
  .rw[cJ c];rfl
 intro k
 induction k with
 |zero=>intro i b fu q hi d f;obtain⟨j,y⟩:=stop i b fu q d (λ_=>by omega);exact⟨j,y,d,f⟩
 |succ k M=>
  intro i b fu q hi d f
  cases l:b.ord[i]? with
  |none=>have p:b.ord.length<=i:=Bf.1 l;obtain⟨j,y⟩:=stop i b fu O d (λc=>by rw[d.ord]at p;omega);unfold fd;rw[l];exact⟨j,y,d,f⟩
  |some m=>
   have x:i<b.ord.length:=(ed l).1;have C:i<a.ord.length:=by rw[<-d.ord];exact x
   have t:=f.ord.2 m (dj l);obtain⟨fu,rfl⟩:∃g,fu=g+1:=⟨fu-1,by omega⟩
   have o:=d.send 2 (sq a.aD) n.aw (i:Int) (cU m);have s:GA B (dD b 2 (sq a.aD) n.aw (i:Int) (cU m)):=f.send (λe=>absurd e ab) (λ_=>⟨m,t,X⟩);obtain⟨j,D,F,H⟩:=M (i+1) _ fu O (by push_cast;omega) o s;unfold fd;rw[l];refine⟨j,?_,F,H⟩;have h:(a.w.aQ.length:Int)=a.ord.length:=by show((a.ord.map cU).length:Int)=_;rw[kF]
   have A:bf a.w.aQ (i:Int)=some (cU m):=by rw[cY];show(a.ord.map cU)[i]?=_;rw[kD,<-d.ord,l];rfl
   have K:rH a.w n ((i:Int),b.w,b.w.ah)=some (.go (((i+1:Nat):Int),(dD b 2 (sq a.aD) n.aw (i:Int) (cU m)).w,(dD b 2 (sq a.aD) n.aw (i:Int) (cU m)).w.ah)):=by
    unfold rH;simp only
    rw[h,bO (show-9223372036854775808<=n.ao+4 by omega) O,ls,aj,d.w,dA (show(i:Int)<a.ord.length by omega),dA (show(i:Int)<n.ao+4 by omega),jG,bM,yI,aj,A,aj,
     show b.w.aD=a.aD from d.aD,yH f.ah.1,aj]
    simp only;have:=f.ord.1;rw[o.w,bO O O];rfl
   unfold df;rw[K,aj];exact D
def iQ(fu:Nat)(a:AW)(n:aK):AW:=
 bif !dq a n.aw then a else
 bif n.ba==1 then jN fu a n else
 bif n.ba==3 then oW a n else
 bif n.ba==2 then jO fu a n else a
theorem R5{B fu:Nat}{a:AW}{n:aK}(g:200<fu)(h:GA B a)(t:B<=2^34)(p:GN n)(o:dq a n.To=true):
 zD fu a.w n=some ((iQ fu a n).w.all,(iQ fu a n).w.aQ,(iQ fu a n).w.ah,(iQ fu a n).w)/\GA (B+17) (iQ fu a n):=by
 unfold zD iQ;rw[Bh h.n,aj]
 cases m:dq a n.aw with
 |false=>exact⟨X,h.mono O⟩
 |true=>
  simp only[ii,aW,kC];by_cases k1:n.ba=1
  .obtain⟨f,e⟩:=Wx g h t p k1 m;rw[k1];simp only[mC,bM];rw[f,aj];exact⟨X,e⟩
  .rw[show(n.ba==1)=false by simpa using k1];simp only[aW];by_cases y:n.ba=3
   .have x:=p.1.seq;obtain⟨s,i⟩:=kn x.1;obtain⟨j,D,k,A⟩:=Rq (a:=a) (n:=n) x 4 s a fu O O ⟨X,X,X⟩ h;have C:oW a n=fd (sq a.aD) n.aw 4 s a:=by unfold oW;rw[i];rfl
    rw[y,C];simp only[mC,bM];rw[i,D,kX];simp only;rw[k.w];generalize fd (sq a.aD) n.aw 4 s a=d at k A;refine⟨?_,A.mono O⟩;have f:a.w.all=d.w.all:=k.ps.symm;have e:a.w.aQ=d.w.aQ:=by show a.ord.map cU=d.ord.map cU;rw[k.ord]
    rw[f,e]
   .rw[show(n.ba==3)=false by simpa using y];simp only[aW];by_cases q:n.ba=2
    .obtain⟨f,e,l⟩:=aaV g h t p q o;rw[q];simp only[mC,bM];rw[f,aj];generalize jO fu a n=d at e l;refine⟨?_,e⟩;have f:a.w.aQ=d.w.aQ:=by show a.ord.map cU=d.ord.map cU;rw[l.ord]
     have e:a.w.ah=d.w.ah:=by show a.ah.map gu=d.ah.map gu;rw[l.ah]
     rw[f,e]
    .rw[show(n.ba==2)=false by simpa using q];exact⟨X,h.mono O⟩
def iW(fu:Nat)(a:AW)(k d:Int):AW×Int:=
 bif !(decide (d>=1)&&decide (d<=3))then(a,1)else
 bif !(decide (k>=0)&&decide (k<=(a.ah.length:Int)-1))then(a,6)else
 bif (d==3)&&decide (a.ah.length=60)then(a,8)else
 match a.ah[k.toNat]? with
 |none=>(a,0)
 |some n=>bif d==3 then({a with ah:=a.ah++[n]},0)else
  (bif ((d==1)&&(n.bh==a.aD.bS))&&act a n.To then iQ fu {a with ah:=a.ah.take k.toNat++a.ah.drop (k.toNat+1)} n else{a with ah:=a.ah.take k.toNat++a.ah.drop (k.toNat+1)},0)
theorem RZ{l:List Y}{i:Nat}(h:i<l.length)(k:l.length<=2^40):yP l (i:Int) ((i+1:Nat):Int)=some (l.take i++l.drop (i+1)):=by
 unfold yP;have a:∃x,co l (i:Int) ((i+1:Nat):Int)=some x:=⟨_,by unfold co;rw[ce O]⟩
 have d:∃x,co l 0 (i:Int)=some x:=⟨_,by unfold co;rw[ce O]⟩
 have e:∃x,co l ((i+1:Nat):Int) (l.length:Int)=some x:=⟨_,by unfold co;rw[ce O]⟩
 obtain⟨m,f⟩:=a;obtain⟨n,g⟩:=d;obtain⟨o,j⟩:=e;rw[f,aj,show((i:Int)==((i+1:Nat):Int))=false by simp;omega,aW,g,aj,j,aj];rfl
theorem GA.Bq{B:Nat}{a:AW}(h:GA B a)(i:Nat):GA B {a with ah:=a.ah.take i++a.ah.drop (i+1)}:=by
 refine⟨h.n,h.ps,h.ord,⟨?_,λn d=>?_⟩,h.num⟩
 .have:=h.ah.1;simp only[cr,gn,gM];omega
 .rcases e9.1 d with q|q
  .exact h.ah.2 n (qZ q)
  .exact h.ah.2 n (oy q)
theorem V6{B fu:Nat}{a:AW}(y:200<fu)(h:GA B a)(P:B<=2^34)(k d:Int):
 zz fu a.w k d=some ((iW fu a k d).1.w.all,(iW fu a k d).1.w.aQ,(iW fu a k d).1.w,(iW fu a k d).2)/\GA (B+17) (iW fu a k d).1:=by
 unfold zz iW;have C:(a.w.ah.length:Int)=(a.ah.length:Int):=by show((a.ah.map gu).length:Int)=_;rw[kF]
 have H:=h.ah.1;rw[vR,aj]
 cases T:(decide (d>=1)&&decide (d<=3))with
 |false=>exact⟨X,h.mono O⟩
 |true=>
  simp only[ii,aW];rw[C,bO (show-9223372036854775808<=(a.ah.length:Int)-1 by omega) O,vR,aj]
  cases D:(decide (k>=0)&&decide (k<=(a.ah.length:Int)-1))with
  |false=>exact⟨X,h.mono O⟩
  |true=>
   rw[eJ,gL,gL]at D;obtain⟨i,rfl⟩:=kn D.1;have t:i<a.ah.length:=by omega
   simp only[ii,aW];have K:((a.ah.length:Int)==60)=decide (a.ah.length=60):=by rw[eZ];simp;omega
   rw[K,ls,aj]
   cases M:((d==3)&&decide (a.ah.length=60))with
   |true=>exact⟨X,h.mono O⟩
   |false=>
    have o:a.ah[i]?=some a.ah[i]:=by simp[t]
    generalize a.ah[i]=n at o;have l:=h.ah.2 n (dj o);have Q:bf a.w.ah (i:Int)=some (gu n):=by rw[cY];show(a.ah.map gu)[i]?=_;rw[kD,o];rfl
    simp only[aW];rw[Q,aj,de,o];simp only
    cases L:(d==3)with
    |true=>
     rw[L,l7,px]at M;have f:a.w.ah.length=a.ah.length:=kF _;rw[bM,eu (by simp;omega),aj];refine⟨?_,?_⟩
     .have:(a.ah++[n]).map gu=a.w.ah++[gu n]:=by rw[kG];rfl
      unfold AW.w at this ⊢;simp only at this ⊢;simp only[bM];rw[this]
     .show GA (B+17) {a with ah:=a.ah++[n]};refine⟨h.n,λx o=>(h.ps x o).mono O,⟨by have:=h.ord.1;simp only;omega,h.ord.2⟩,⟨?_,λm S=>?_⟩,h.num⟩
      .simp only[cr,bN,bV];omega
      .rcases e9.1 S with q|q
       .exact h.ah.2 m q
       .rw[iq.1 q];exact l
    |false=>
     simp only[aW];obtain⟨b,p⟩:∃b:AW,b={a with ah:=a.ah.take i++a.ah.drop (i+1)}:=⟨_,X⟩
     have j:GA B b:=by rw[p];exact h.Bq i
     have s:({a.w with ah:=(a.w.ah.take i++a.w.ah.drop (i+1))}:bi)=b.w:=by rw[p];unfold AW.w;simp only[kG,List.map_take,List.map_drop]
     have g:a.w.ah.take i++a.w.ah.drop (i+1)=b.w.ah:=by rw[<-s]
     have e:act b n.To=act a n.To:=by rw[p];rfl
     have f:a.w.ah.length=a.ah.length:=kF _;rw[bO (show-9223372036854775808<=(i:Int)+1 by omega) O,show(i:Int)+1=((i+1:Nat):Int) by rfl,RZ (by rw[f];exact t) O,aj,ZA l.1,aj];simp only[mC];rw[ls,aj,Bool.and_true,ls,aj,s,wH j.n,e,aj,ls,aj,g,<-p];have ev:(n.bh==a.w.aD.bS)=(n.bh==a.aD.bS):=X;rw[ev]
     cases F:((d==1)&&(n.bh==a.aD.bS)&&act a n.To)with
     |false=>simp only[aW,aj];refine⟨?_,j.mono O⟩;rw[p];rfl
     |true=>
      rw[eJ]at F;have A:dq b n.To=true:=by
       have:act b n.To=true:=by rw[e];exact F.2
       unfold act at this;rw[eJ,eJ]at this;exact this.1.1
      obtain⟨d1,d2⟩:=R5 y j P l A;simp only[bM];rw[d1,aj,aj];exact⟨X,d2⟩
def gD(v:bh)(g:BitVec 8):bh×Int:=(rB v g 0).getD (bh.zero,1)
set_option maxRecDepth 20000 in
theorem KE(m:BitVec 8):∃r,rb m=some r/\0<=r/\r<=255:=by unfold rb;rw[xF (by have:=m.isLt;exact this),aj];refine⟨_,X,by omega,?_⟩;exact Int.ofNat_le.2 (Nat.le_of_lt_succ (BitVec.isLt _))
theorem xL(v:bh)(g:BitVec 8)(m:0<=v.bS/\v.bS<=16777215):rB v g 0=some (gD v g)/\((gD v g).2=0->(gD v g).1.bS=v.bS+1/\v.bS+1<=16777215/\(gD v g).1.bx=v.bx&&& ~~~g):=by
 have a:∃r,rB v g 0=some r/\(r.2=0->r.1.bS=v.bS+1/\v.bS+1<=16777215/\r.1.bx=v.bx&&& ~~~g):=by
  unfold rB rC zm;obtain⟨c,e⟩:=MP v;rw[e,aj,aj,or_some,aj]
  cases j:(c !=0)with
  |true=>exact⟨_,X,λh=>by have h:c=0:=h;subst h;cases j⟩
  |false=>
   rw[aW]
   cases ((((g|||(0:BitVec 8))>>>6).toNat:Int)!=((0:BitVec 8).toNat:Int))||(((g&&&(0:BitVec 8)).toNat:Int)!=((0:BitVec 8).toNat:Int))with
   |true=>exact⟨_,X,λh=>by cases h⟩
   |false=>
    rw[aW]
    cases d:(v.bS==(16777215:Int))with
    |true=>exact⟨_,X,λh=>by cases h⟩
    |false=>
     have d:v.bS≠16777215:=by simpa using d
     obtain⟨k,f,_⟩:=KE ((v.bx&&& ~~~g)&&&v.bx);obtain⟨l,i,_⟩:=KE v.bx;rw[aW,f,aj,i,aj,aj]
     cases decide ((aq ((2:Int)*k))>l)with
     |false=>exact⟨_,X,λh=>by cases h⟩
     |true=>refine⟨_,X,λ_=>⟨bO O O,by omega,?_⟩⟩;show(v.bx&&& ~~~g)|||0=_;simp
 obtain⟨r,e,h⟩:=a;have:gD v g=r:=by unfold gD;rw[e];rfl
 rw[this];exact⟨e,h⟩
def gi(a:AW):BitVec 8×List ay:=
 foldI (λ(z:BitVec 8×List ay)i(x:bm)=>bif act a (i:Int)then(bif decide (x.bd.length>z.2.length)then(z.1,x.bd)else z)else(z.1|||(a.aD.bx&&&((1:BitVec 8)<<<i)),z.2)) 0 a.ps ((0:BitVec 8),([]:List ay))
theorem Jr{B:Nat}{a:AW}(h:GA B a):bE (vX a.w) a.ps.length 0 ((0:BitVec 8),([]:List ay))=some (gi a)/\
 (∀(j:Nat)x,a.ps[j]?=some x->act a (j:Int)=true->x.bd.length<=(gi a).2.length)/\((gi a).2=[]\/∃(j:Nat)(x:bm),a.ps[j]?=some x/\act a (j:Int)=true/\(gi a).2=x.bd):=by
 obtain⟨n,o,p⟩:=mR (body:=vX a.w) (λz:BitVec 8×List ay=>z) (λ(z:BitVec 8×List ay)i(x:bm)=>bif act a (i:Int)then(bif decide (x.bd.length>z.2.length)then(z.1,x.bd)else z)else(z.1|||(a.aD.bx&&&((1:BitVec 8)<<<i)),z.2))
  (λi z=>(∀(j:Nat)x,j<i->a.ps[j]?=some x->act a (j:Int)=true->x.bd.length<=z.2.length)/\(z.2=[]\/∃(j:Nat)(x:bm),a.ps[j]?=some x/\act a (j:Int)=true/\z.2=x.bd)) (l:=a.ps) (λi x z d m=>by
   have e:a.w.all=a.ps:=X;have step:∀g:BitVec 8×List ay,z.2.length<=g.2.length->(act a (i:Int)=true->x.bd.length<=g.2.length)->∀(j:Nat)y,j<i+1->a.ps[j]?=some y->act a (j:Int)=true->y.bd.length<=g.2.length:=λg s t j y A k f=>by
    by_cases c:j=i
    .subst c;rw[d]at k;rw[<-dF k];exact t f
    .exact iU (m.1 j y O k f) s
   unfold vX;rw[wH h.n,aj]
   cases f:act a (i:Int)with
   |false=>rw[aW,aW,qv,aj];exact⟨X,step _ (dO _) (λq=>by rw[f]at q;cases q),m.2⟩
   |true=>
    rw[bM,bM,e,cY,d,aj];by_cases c:x.bd.length>z.2.length
    .rw[dA c,dA (show(x.bd.length:Int)>(z.2.length:Int) by omega),bM,bM];exact⟨X,step _ (by simp only;omega) (λ_=>dO _),.inr ⟨i,x,d,f,X⟩⟩
    .rw[cJ c,cJ (show ¬(x.bd.length:Int)>(z.2.length:Int) by omega),aW,aW]
     exact⟨X,step _ (dO _) (λ_=>by omega),m.2⟩) a.ps.length 0 ((0:BitVec 8),([]:List ay)) O ⟨λj x A=>by omega,.inl X⟩
 rw[eT]at n o p;exact⟨n,λj x d=>o j x (ed d).1 d,p⟩
def iF(i:Nat):List ay->Nat
 |[]=>0
 |s::l=>(bif s.aw==(i:Int)then 1 else 0)+iF i l
theorem DQ(i:Nat)(l:List ay)(d:l.length<=2^40):∀(k j:Nat)(z:Nat),j+k=l.length->z<=j->bE (rG i l) k j (z:Int)=some ((z+iF i (l.drop j):Nat):Int)
 |0,j,z,f,_=>by rw[kp O];rfl
 |k+1,j,z,f,h=>by
  have a:j<l.length:=by omega
  have e:l[j]?=some l[j]:=by simp[a]
  rw[jd a];generalize l[j]=s at e;unfold bE rG;rw[cY,e,aj];unfold iF;have g:aq ((z:Int)+1)=((z+1:Nat):Int):=by rw[bO O O];rfl
  cases s.aw==(i:Int)with
  |true=>rw[bM,g,aj,bM];have:=DQ i l d k (j+1) (z+1) O O;unfold rG at this;rw[this,qP]
  |false=>rw[aW,aj,aW];have:=DQ i l d k (j+1) z O O;unfold rG at this;rw[this,cb]
def kA(L:List ay)(i:Nat)(x:bm):bm:={x with bd:=L,au:=⟨0,x.au.aJ.drop (min (iF i (L.drop x.bd.length)) x.au.aJ.length)⟩,to:=⟨0,[]⟩,bw:=⟨0,[]⟩}
def fi(L:List ay)(b:AW)(i:Nat):AW:=
 match b.ps[i]? with
 |none=>b
 |some x=>{b with ps:=b.ps.set i (bif act b (i:Int)then kA L i x else{x with bw:=⟨0,[]⟩})}
theorem wT:lR ⟨0,[]⟩:=⟨by simp,by simp,by simp,List.Pairwise.nil,by simp,by simp⟩
theorem GP.fresh{B:Nat}{x:bm}(h:GP B x){L:List ay}(d:L.length<=B)(e:∀s∈L,s.aM.length<=150)(i:Nat):GP B (kA L i x):=by
 have a:=h.late;refine⟨d,e,⟨jY _,?_⟩,⟨?_,λt f=>a.2 t (oy f)⟩,⟨wT,λp hp=>by cases hp⟩,⟨wT,λp hp=>by cases hp⟩⟩
 .show(0:Int)+((x.au.aJ.drop _).length:Int)<=_;rw[gM];omega
 .show(x.au.aJ.drop _).length<=16;rw[gM];omega
theorem GP.quit{B:Nat}{x:bm}(h:GP B x):GP B {x with bw:=⟨0,[]⟩}:=⟨h.bd,h.jz,h.base,h.late,h.to,⟨wT,λp hp=>by cases hp⟩⟩
theorem RR{B:Nat}{a b:AW}{L:List ay}{i:Nat}{x:bm}(h:GA B b)(F:B<=2^34)(A:L.length<=B)(C:∀s∈L,s.aM.length<=150)(f:rV a b)(g:b.ps[i]?=some x)(l:act b (i:Int)=true->x.bd.length<=L.length):
 tM a.w i (L,b.w,b.ps)=some (L,(fi L b i).w,(fi L b i).ps)/\GA B (fi L b i)/\rV a (fi L b i):=by
 have hp:=h.ps x (dj g);have hi:i<b.ps.length:=(ed g).1;have e:∀ps,({b.w with all:=ps,aQ:=a.w.aQ,ah:=a.w.ah}:bi)=({b with ps:=ps}:AW).w:=λps=>by unfold AW.w;simp only;rw[f.ord,f.ah]
 have d:∀y:bm,(b.ps.set i y)[i]?=some y:=λy=>by rw[ir hi]
 have k:=hp.late.1;have o:=hp.bd;have one:fi L b i={b with ps:=b.ps.set i (bif act b (i:Int)then kA L i x else{x with bw:=⟨0,[]⟩})}:=by unfold fi;rw[g]
 rw[one];refine⟨?_,?_,?_⟩
 .unfold tM;simp only;rw[cY,g,aj,e,show({b with ps:=b.ps}:AW).w=b.w from X,wH h.n,aj]
  cases D:act b (i:Int)with
  |false=>simp only[aW,aj];rw[cY,g,aj,fb,de];refine congrArg some (f8 X (f8 ?_ X));simp only;exact e _
  |true=>
   have n:=l D;have p:co L (x.bd.length:Int) (L.length:Int)=some (L.drop x.bd.length):=by unfold co;rw[ce O];simp only[de];rw[iI (by simp)]
   have m:=DQ i (L.drop x.bd.length) (by simp;omega) (L.drop x.bd.length).length 0 0 O O;rw[eT,cb]at m;have j:bE (rG i (L.drop x.bd.length)) (L.drop x.bd.length).length 0 (0:Int)=some ((iF i (L.drop x.bd.length):Nat):Int):=m;have t:min ((iF i (L.drop x.bd.length):Nat):Int) (x.au.aJ.length:Int)=((min (iF i (L.drop x.bd.length)) x.au.aJ.length:Nat):Int):=by omega
   have q:co x.au.aJ ((min (iF i (L.drop x.bd.length)) x.au.aJ.length:Nat):Int) (x.au.aJ.length:Int)=some (x.au.aJ.drop (min (iF i (L.drop x.bd.length)) x.au.aJ.length)):=by unfold co;rw[ce O];simp only[de];rw[iI (by simp)]
   simp only[bM];rw[p,aj,j,aj,DP O,aj,fb,de,cY,d,aj,aj];simp only;rw[t,q,aj,As (by simp;omega),aj,fb,aj,fb,l0,cY,d,aj,fb,l0,aj];simp only;rw[cY,d,aj,fb,l0];refine congrArg some (f8 X (f8 ?_ X));simp only;exact e _
 .refine h.set i ?_;cases act b (i:Int)
  .exact hp.quit
  .exact hp.fresh A C i
 .exact⟨f.aD,f.ord,f.ah,by simp only[pD];exact f.len⟩
def iE(a:AW):AW×Int:=
 bif (gD a.aD (gi a).1).2 !=0 then(a,(gD a.aD (gi a).1).2)else
 ({foldI (λb i(_:bm)=>fi (gi a).2 b i) 0 a.ps a with aD:=(gD a.aD (gi a).1).1,ord:=[]},0)
theorem Aj{a b:AW}{i:Nat}(d:b.aD=a.aD)(e:b.ps.length=a.ps.length)(f:b.ps[i]?=a.ps[i]?):act b (i:Int)=act a (i:Int):=by unfold act dq;rw[d,e,de,f]
theorem RQ{L:List ay}{b:AW}{i j:Nat}(h:j≠i):(fi L b i).ps[j]?=b.ps[j]?:=by
 unfold fi
 cases b.ps[i]? with
 |none=>rfl
 |some x=>simp only;rw[jI (λe=>h e.symm)]
theorem ID{B:Nat}{a:AW}(h:GA B a)(T:B<=2^34):zw a.w=some ((iE a).1.w.all,(iE a).1.w,(iE a).2)/\GA B (iE a).1/\(iE a).1.ah=a.ah:=by
 obtain⟨S,p,M⟩:=Jr h;have e:a.w.all=a.ps:=X;have t:(gi a).2.length<=B:=by
  rcases M with q|⟨j,x,f,_,q⟩
  .rw[q];exact jF _
  .rw[q];exact(h.ps x (dj f)).bd
 have y:∀s∈(gi a).2,s.aM.length<=150:=by
  rcases M with q|⟨j,x,f,_,q⟩
  .rw[q];intro s hs;cases hs
  .rw[q];exact(h.ps x (dj f)).jz
 obtain⟨H,K⟩:=xL a.aD (gi a).1 h.num;unfold zw iE;rw[e,S,aj];generalize gi a=z at p t y H K;obtain⟨g,L⟩:=z;simp only at p t y H K ⊢;have ev:a.w.aD=a.aD:=X;rw[ev,H,aj]
 cases hn:((gD a.aD g).2 !=0)with
 |true=>exact⟨X,h,X⟩
 |false=>
  have A:(gD a.aD g).2=0:=by simpa using hn
  obtain⟨m1,m2,m3⟩:=K A;simp only[aW]
  obtain⟨D,k,n,P⟩:=mR (body:=tM a.w) (λb:AW=>(L,b.w,b.ps)) (λb i(_:bm)=>fi L b i) (λi b=>GA B b/\rV a b/\∀j:Nat,i<=j->b.ps[j]?=a.ps[j]?) (l:=a.ps) (λi x b f W=>by
   obtain⟨Q,o,b3⟩:=W;have C:b.ps[i]?=some x:=by rw[b3 i (dO _)];exact f
   obtain⟨s1,s2,s3⟩:=RR Q T t y o C (λV=>p i x f (by rw[<-Aj o.aD o.len (b3 i (dO _))];exact V))
   exact⟨s1,s2,s3,λj hj=>by rw[RQ O];exact b3 j O⟩) a.ps.length 0 a O ⟨h,⟨X,X,X,X⟩,λj _=>rfl⟩
  rw[eT]at D k n P;generalize foldI (λb i(_:bm)=>fi L b i) 0 a.ps a=d at D k n P;have F:bE (tM a.w) a.ps.length 0 (L,a.w,a.ps)=some (L,d.w,d.ps):=D;rw[F,aj];simp only;refine⟨?_,⟨k.n,k.ps,⟨jF _,λm hm=>by cases hm⟩,k.ah,?_⟩,n.ah⟩
  .have:a.w.ah=d.w.ah:=by show a.ah.map gu=d.ah.map gu;rw[n.ah]
   rw[this];rfl
  .have:=h.num;simp only;omega
def gS(fu:Nat)(a:AW)(d:dJ):AW×Int:=
 bif d.ba==1 then iN a d.cI d.aM else
 bif d.ba==2 then jT a d.cI else
 bif d.ba==3 then iW fu a d.cI d.fw else
 bif d.ba==4 then gB a d.cI else
 bif d.ba==5 then iE a else(a,1)
theorem Ma(a:AW)(p:Int)(t:Y):(iN a p t).1.ord=a.ord:=by
 unfold iN
 cases (gZ a p !=0)with
 |true=>rfl
 |false=>
  cases decide (t.length>150)with
  |true=>rfl
  |false=>
   cases decide (a.ah.length=60)with
   |true=>rfl
   |false=>
    cases a.ps[p.toNat]? with
    |none=>rfl
    |some x=>
     simp only[aW]
     cases jU x.au with
     |true=>rfl
     |false=>simp only[aW];rw[ru]
theorem Ak(a:AW)(p:Int):hQ a (jT a p).1:=by
 unfold jT
 cases (gZ a p !=0)with
 |true=>exact⟨X,X,X⟩
 |false=>
  cases a.ps[p.toNat]? with
  |none=>exact⟨X,X,X⟩
  |some x=>exact hQ.send (nh (hQ a) _ 0 a (λb j q _ d=>d.send ..) ⟨X,X,X⟩) ..
theorem Jh(a:AW)(p:Int):(gB a p).1.ord=a.ord/\(gB a p).1.ah=a.ah:=by
 unfold gB
 cases (!dq a p)with
 |true=>exact⟨X,X⟩
 |false=>
  cases a.ps[p.toNat]? with
  |none=>exact⟨X,X⟩
  |some x=>exact⟨X,X⟩
theorem AA{α:Type}{f:AW->Nat->α->AW}(h:∀b j x,(f b j x).ps.length=b.ps.length):∀(l:List α)(i:Nat)(b:AW),(foldI f i l b).ps.length=b.ps.length
 |[],_,_=>rfl
 |x::l,i,b=>(AA h l (i+1) _).trans (h b i x)
theorem Kl(a:AW)(k f t s:Int)(x:Y):(dD a k f t s x).ps.length=a.ps.length:=by rw[yG]
theorem Kk(s f:Int):∀(k i:Nat)(b:AW),(fd s f k i b).ps.length=b.ps.length
 |0,_,_=>rfl
 |k+1,i,b=>by
  unfold fd
  cases b.ord[i]? with
  |none=>rfl
  |some m=>exact(Kk s f k (i+1) _).trans (Kl ..)
theorem VP(b:AW)(p:Int)(t:Y):(gJ b p t).ps.length=b.ps.length:=by
 unfold gJ
 cases b.ps[p.toNat]? with
 |none=>rfl
 |some x=>simp
theorem VN(L:List ay)(b:AW)(i:Nat):(fi L b i).ps.length=b.ps.length:=by
 unfold fi
 cases b.ps[i]? with
 |none=>rfl
 |some x=>simp
theorem VO(fu:Nat)(a:AW)(n:aK):(iQ fu a n).ps.length=a.ps.length:=by
 unfold iQ
 cases (!dq a n.aw)with
 |true=>rfl
 |false=>
 cases n.ba==1 with
 |true=>
  simp only[bM,aW];unfold jN
  cases a.ps[n.aw.toNat]? with
  |none=>rfl
  |some x=>
   simp only
   cases decide (n.ao>16777214)with
   |true=>rfl
   |false=>rw[aW,AA λb j t=>by rw[(pT ..).ps]];simp
 |false=>
 cases n.ba==3 with
 |true=>exact Kk ..
 |false=>
 cases n.ba==2 with
 |true=>
  simp only[bM,aW];unfold jO
  cases a.ps[n.To.toNat]? with
  |none=>rfl
  |some x=>
   simp only
   cases decide (n.ao>16777214)with
   |true=>rfl
   |false=>rw[aW,AA λb j t=>VP b n.To t];simp
 |false=>rfl
theorem Bn(fu:Nat)(a:AW)(d:dJ):(gS fu a d).1.ps.length=a.ps.length:=by
 unfold gS
 cases d.ba==1 with
 |true=>
  rw[bM];unfold iN
  cases (gZ a d.cI !=0)with
  |true=>rfl
  |false=>
  cases decide (d.aM.length>150)with
  |true=>rfl
  |false=>
  cases decide (a.ah.length=60)with
  |true=>rfl
  |false=>
  cases a.ps[d.cI.toNat]? with
  |none=>rfl
  |some x=>
   simp only[aW]
   cases jU x.au with
   |true=>rfl
   |false=>rw[aW];simp only;rw[Kl];simp
 |false=>
 cases d.ba==2 with
 |true=>simp only[bM,aW];rw[(Ak a d.cI).ps]
 |false=>
 cases d.ba==3 with
 |true=>
  simp only[bM,aW];unfold iW
  cases !(decide (d.fw>=1)&&decide (d.fw<=3))with
  |true=>rfl
  |false=>
  cases !(decide (d.cI>=0)&&decide (d.cI<=(a.ah.length:Int)-1))with
  |true=>rfl
  |false=>
  cases (d.fw==3)&&decide (a.ah.length=60)with
  |true=>rfl
  |false=>
  cases a.ah[d.cI.toNat]? with
  |none=>rfl
  |some n=>
   simp only[aW]
   cases d.fw==3 with
   |true=>rfl
   |false=>
    rw[aW];simp only
    cases ((d.fw==1)&&(n.bh==a.aD.bS))&&act a n.To with
    |true=>rw[bM,VO]
    |false=>rfl
 |false=>
 cases d.ba==4 with
 |true=>
  simp only[bM,aW];unfold gB
  cases !dq a d.cI with
  |true=>rfl
  |false=>
  cases a.ps[d.cI.toNat]? with
  |none=>rfl
  |some x=>simp
 |false=>
 cases d.ba==5 with
 |true=>
  simp only[bM,aW];unfold iE
  cases (gD a.aD (gi a).1).2 !=0 with
  |true=>rfl
  |false=>rw[aW];show(foldI _ 0 a.ps a).ps.length=_;rw[AA λb j x=>VN ..]
 |false=>rfl
theorem R6{B fu:Nat}{a:AW}(i:200<fu)(h:GA B a)(k:B<=2^34)(d:dJ):xI fu a.w d=some ((gS fu a d).1.w.all,(gS fu a d).1.w,(gS fu a d).2)/\GA (B+17) (gS fu a d).1:=by
 unfold xI gS
 cases d.ba==1 with
 |true=>
  rw[bM,bM,ZX h,aj];refine⟨?_,(h.yF ..).mono O⟩;have:=Ma a d.cI d.aM;generalize iN a d.cI d.aM=r at this;have e:a.w.aQ=r.1.w.aQ:=by show a.ord.map cU=r.1.ord.map cU;rw[this]
  rw[e]
 |false=>
 cases d.ba==2 with
 |true=>
  simp only[bM,aW];rw[Q6 h,aj];refine⟨?_,(h.again ..).mono O⟩;have:=Ak a d.cI;generalize jT a d.cI=r at this;have g:a.w.all=r.1.w.all:=this.ps.symm;have f:a.w.aQ=r.1.w.aQ:=by show a.ord.map cU=r.1.ord.map cU;rw[this.ord]
  rw[g,f]
 |false=>
 cases d.ba==3 with
 |true=>simp only[bM,aW];obtain⟨g,f⟩:=V6 i h k d.cI d.fw;rw[g,aj];exact⟨X,f⟩
 |false=>
 cases d.ba==4 with
 |true=>
  simp only[bM,aW];rw[Sr h,aj];refine⟨?_,(h.wQ ..).mono O⟩;obtain⟨l,m⟩:=Jh a d.cI;generalize gB a d.cI=r at l m;have g:a.w.aQ=r.1.w.aQ:=by show a.ord.map cU=r.1.ord.map cU;rw[l]
  have f:a.w.ah=r.1.w.ah:=by show a.ah.map gu=r.1.ah.map gu;rw[m]
  rw[g,f]
 |false=>
 cases d.ba==5 with
 |true=>
  simp only[bM,aW];obtain⟨n,o,j⟩:=ID h k;rw[n,aj];refine⟨?_,o.mono O⟩;generalize iE a=r at j;have f:a.w.ah=r.1.w.ah:=by show a.ah.map gu=r.1.ah.map gu;rw[j]
  rw[f]
 |false=>exact⟨X,h.mono O⟩
def jh(n:Nat):AW:=⟨⟨0,((1:BitVec 8)<<<n)-(1:BitVec 8)⟩,List.replicate n bm.zero,[],[]⟩
theorem Wj{n:Nat}(h:1<=n/\n<=6):zt (n:Int)=some ((jh n).w,0):=by
 unfold zt;have a:lH (n:Int)=some n:=by unfold lH;rw[ce O];rfl
 rw[vR,aj,dA (show(n:Int)>=1 by omega),dA (show(n:Int)<=6 by omega),qv,a];rfl
theorem GP.zero:GP 0 bm.zero:=⟨dO _,λs a=>(by cases a),⟨jY _,by show(0:Int)+((0:Nat):Int)<=_;omega⟩,⟨jF _,λt d=>by cases d⟩,⟨wT,λp hp=>by cases hp⟩,⟨wT,λp hp=>by cases hp⟩⟩
theorem GA.new{n:Nat}(h:1<=n/\n<=6):GA 0 (jh n):=by refine⟨by simpa[jh]using h,λx d=>?_,⟨dO _,λm a=>by cases a⟩,⟨jF _,λm a=>by cases a⟩,⟨jY _,by show(0:Int)<=_;omega⟩⟩;have:=(sJ.1 d).2;rw[this];exact GP.zero
theorem VW{B:Nat}{a:AW}(h:GA B a)(f:B<=2^35){i:Nat}(hi:i<a.ps.length):zy a.w (i:Int)=some (a.ps[i].bd,0):=by have d:dq a (i:Int)=true:=fP.2 ⟨i,X,hi⟩;have hp:=(h.ps a.ps[i] (qX hi)).bd;have e:a.w.all=a.ps:=X;unfold zy;rw[Bh h.n,d,aj];simp only[ii,aW,kC];rw[e,xF hi,aj,DP O,aj]
def stA(fu:Nat)(e:List dJ)(a:AW):AW:=e.foldl (λb d=>(gS fu b d).1) a
theorem IK{l:List Int}(h:1<=l.length):l=l[0]::l.drop 1:=by
 cases l with
 |nil=>simp at h
 |cons a l=>rfl
theorem min_eq(l:List Int){fu:Nat}(f:1<=l.length)(k:l.length<=10)(n:20<=fu):∃r,yW fu l=some r/\(0<=r↔∀x∈l,0<=x):=by
 unfold yW;rw[show decide ((l.length:Int)<1)=false from cJ O,aW,show(0:Int)=((0:Nat):Int)from X,cY,je O,aj];obtain⟨r,j,e,g⟩:=Kv (l:=l) (body:=Cb l) O (λm i=>rfl) fu 1 l[0] O O;rw[show(1:Int)=((1:Nat):Int)from X,e];refine⟨r,X,?_⟩;rw[g];have e0:=IK f;constructor
 .rintro⟨a,b⟩ x d;rw[e0]at d;rcases fB.1 d with rfl|d
  .exact a
  .exact b x d
 .intro h;exact⟨h _ (qX _),λx d=>h x (oy d)⟩
theorem max_eq(l:List Int){fu:Nat}(f:1<=l.length)(k:l.length<=10)(n:20<=fu):∃r,yV fu l=some r/\∀c,r<=c↔∀x∈l,x<=c:=by
 unfold yV;rw[show decide ((l.length:Int)<1)=false from cJ O,aW,show(0:Int)=((0:Nat):Int)from X,cY,je O,aj];obtain⟨r,j,e,g,_⟩:=Ku (l:=l) (body:=Ca l) O (λm i=>rfl) fu 1 l[0] O O;rw[show(1:Int)=((1:Nat):Int)from X,e];refine⟨r,X,λc=>?_⟩;rw[g];have e0:=IK f;constructor
 .rintro⟨a,b⟩ x d;rw[e0]at d;rcases fB.1 d with rfl|d
  .exact a
  .exact b x d
 .intro h;exact⟨h _ (qX _),λx d=>h x (oy d)⟩
theorem RP(t:aK){fu:Nat}(j:20<=fu):yc fu t=mV t:=by
 obtain⟨r,p,g⟩:=min_eq t.At.toList (fu:=fu) (by simp) (by simp) j;obtain⟨m,q,s⟩:=max_eq t.At.toList (fu:=fu) (by simp) (by simp) j;rw[IG];unfold yc;rw[p,q];simp only[DS,aj,Bool.cond_true_left];have n:(decide (t.ba<0)||decide (t.ba>255)||decide (min (min (min t.aw t.To) t.bh) t.ao<0)||decide (max t.aw t.To>5)||decide (max t.bh t.ao>16777215))=(!(decide (t.ba>=0)&&decide (t.ba<=255))||!(decide (t.aw>=0)&&decide (t.aw<=5))||!(decide (t.To>=0)&&decide (t.To<=5))||!jb t.bh||!jb t.ao):=by unfold jb;rw[eZ];simp only[py,gL,Bool.not_eq_true',uM,px];omega
 have o:(decide (r<0)||decide (m>16777215))=t.At.toList.any (λx=>!jb x):=by
  rw[eZ,Bb];simp only[py,gL];have i:=s 16777215;constructor
  .intro h;refine Classical.byContradiction λl=>?_;have a:∀x∈t.At.toList,0<=x/\x<=16777215:=λx d=>by
    have:¬(!jb x)=true:=λk=>l ⟨x,d,k⟩;unfold jb at this;simp at this;exact this
   have e:=g.2 λx d=>(a x d).1;have f:=i.2 λx d=>(a x d).2;omega
  .rintro⟨x,d,k⟩;refine Classical.byContradiction λl=>?_;have e:=g.1 O x d;have f:=i.1 O x d;unfold jb at k;simp[e,f]at k
 rw[n,o]
