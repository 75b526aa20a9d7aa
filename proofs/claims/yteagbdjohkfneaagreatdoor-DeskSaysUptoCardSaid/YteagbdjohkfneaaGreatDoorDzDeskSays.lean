/-
  Least sets: what two ways of finding them have in common.
-/
import Derived.Test.YteagbdjohkfneaaGreatDoorDzQOrder
namespace Go.Proofs.YteagbdjohkfneaaGreatDoor.H
open an
theorem L4{α:Type}{l:List α}{i:Nat}(h:i<l.length):bh l (i:Int)=some l[i]:=by rw[cK];simp[h]
theorem E7{α:Type}{l:List α}(p:α->Bool){body:Nat->Unit->Option (di Unit Int)}(e:∀(j:Nat)x,l[j]?=some x->body j ()=some (bif p x then .ret (j:Int)else .go ())):
 ((andThen (cM body l.length 0 ()) λ_=>some (-1:Int)).bind λr=>some (decide (r>=(0:Int))))=some (l.any p):=by
 rw[tC p e,ae];congr 1;rw[ew,eW,zk];rcases yR p l with⟨h,a⟩|⟨i,x,h,a,d,_⟩
 .rw[h];refine⟨λk=>by omega,?_⟩;rintro⟨x,f,hp⟩;rw[a x f]at hp;cases hp
 .rw[h];exact⟨λ_=>⟨x,du a,d⟩,λ_=>by omega⟩
def mz(t s:BitVec 16):Bool:=decide (s|||t=s)
theorem Yq(t s:BitVec 16):(((s|||t).toNat:Int)==(s.toNat:Int))=mz t s:=by rw[xh];unfold mz;rw[ew,gO,eW]
theorem Tt(t s:BitVec 16):(((t&&& ~~~s).toNat:Int)==((0:BitVec 16).toNat:Int))=mz t s:=by
 rw[xh];unfold mz;rw[ew,gO,eW];constructor
 .intro h;apply vD;intro i hi;have:=congrArg (λx:BitVec 16=>x.getLsbD i) h;simp only[tM,zl,hi,decide_true,kR]at this;rw[Ch];cases a:t.getLsbD i<;>cases d:s.getLsbD i<;>simp_all
 .intro h;apply vD;intro i hi;have:=congrArg (λx:BitVec 16=>x.getLsbD i) h;simp only[Ch]at this;rw[tM,zl];cases a:t.getLsbD i<;>cases d:s.getLsbD i<;>simp_all
theorem Hl:∀(f n m:Nat),m<2^n->eC f m<=n
 |0,_,_,_=>kQ _
 |f+1,0,m,h=>by
  have:m=0:=by simpa using h
  subst this;have:=Hl f 0 0 (by simp);show 0%2+eC f (0/2)<=0;simpa using this
 |f+1,n+1,m,h=>by have:=Hl f n (m/2) (by rw[pu]at h;omega);show m%2+eC f (m/2)<=n+1;omega
theorem HX{fu:Nat}(j:2^16<fu)(x:BitVec 16):oO fu x=some (pc x:Int):=by
 refine oK ?_;unfold oO;rw[mo];have m:=x.isLt;refine lW (λz:(BitVec 16)×Int=>∃f:Nat,f<=16/\z.1.toNat<2^f/\z.2+eC f z.1.toNat=pc x/\0<=z.2) (λz=>z.1.toNat) ⟨16,by omega,m,by unfold pc;simp,by simp only;omega⟩ (by simp only;omega) ?_;rintro⟨y,n⟩ ⟨f,s,e,a,i⟩;simp only at e a i;unfold z7;simp only;rw[fc];refine⟨λk=>?_,λk=>?_⟩
 .have k:0<y.toNat:=by have:=j5 k;simp at this;omega
  obtain⟨f,rfl⟩:∃g,f=g+1:=⟨f-1,by
   rcases rM f with rfl|q
   .simp at e;omega
   .omega⟩
  have d:(y/(2:BitVec 16)).toNat=y.toNat/2:=by rw[BitVec.toNat_udiv];rfl
  have h:(y%(2:BitVec 16)).toNat=y.toNat%2:=by rw[vA];rfl
  have hp:eC (f+1) y.toNat=y.toNat%2+eC f (y.toNat/2):=X;have l:=Hm x;rw[co,h,bT O O];refine⟨⟨f,by omega,?_,?_,by simp only;omega⟩,?_⟩
  .simp only[d];rw[pu]at e;omega
  .simp only[d];rw[hp]at a;push_cast at a ⊢;omega
  .simp only[d];omega
 .have k:y.toNat=0:=by have:=ln k;simp at this;omega
  rw[co];show cc (some n) _;rw[co];rw[k]at a;have o:∀f,eC f 0=0:=by
   intro f
   induction f with
   |zero=>rfl
   |succ f p=>show 0%2+eC f (0/2)=0;simpa using p
  rw[o]at a;omega
def gw(m:Nat):List (BitVec 16):=(List.range m).map (BitVec.ofNat 16)
theorem G5{m:Nat}:gw (m+1)=gw m++[BitVec.ofNat 16 m]:=by unfold gw;rw[tE,kS];rfl
theorem XY{m:Nat}(a:m<=2^16){s:BitVec 16}:s∈gw m↔s.toNat<m:=by
 unfold gw;rw[mS];constructor
 .rintro⟨i,hi,rfl⟩;rw[pp]at hi;rw[kP,kO O];exact hi
 .intro h;exact⟨s.toNat,pp.2 h,by simp⟩
theorem Ms{m:Nat}(g:m<=2^16):(gw m).Pairwise λa b=>a.toNat<b.toNat:=by unfold gw;rw[List.pairwise_map];refine List.Pairwise.imp_of_mem (R:=λa b=>a<b) ?_ List.pairwise_lt_range;intro a b e f d;rw[pp]at e f;rw[kP,kP,kO O,kO O];exact d
theorem Mx{n:Nat}(a:n<=10):((1:BitVec 16)<<<n).toNat=2^n:=by have:2^n<=2^10:=lN O a;rw[BitVec.toNat_shiftLeft,Nat.shiftLeft_eq];simp only[vv,kP];rw[kO O];omega
theorem Mv(i:Nat):BitVec.ofNat 16 i+(1:BitVec 16)=BitVec.ofNat 16 (i+1):=by simp[BitVec.ofNat_add]
theorem BU{m:Nat}(p:BitVec 16->Bool):((gw m).filter p).length<=m:=by refine kC (List.length_filter_le _ _) ?_;unfold gw;simp
theorem Um{p:Type}{n fu:Nat}{good:BitVec 16->Bool}(h:n<=10)(j:2000<fu){gd:BitVec 16->Option Bool}(f:∀s,gd s=some (good s)){body:(BitVec 16)×(List (BitVec 16))->Option (di ((BitVec 16)×(List (BitVec 16))) p)}
 (d:∀a,body a=bif decide ((a.1.toNat:Int)<(((1:BitVec 16)<<<n).toNat:Int))then((gd a.1).bind λg=>bif g then((room a.2 ([a.1]:List (BitVec 16))).bind λ_=>some (.go (a.1+(1:BitVec 16),a.2++([a.1]:List (BitVec 16)))))else some (.go (a.1+(1:BitVec 16),a.2)))else some (.brk (a.1,a.2))):
 cc (cw body fu ((0:BitVec 16),([]:List (BitVec 16)))) λo=>∃s,o=.inl (s,(gw (2^n)).filter good):=by
 have hp:2^n<=2^10:=lN O h;refine lW (λz:(BitVec 16)×(List (BitVec 16))=>∃i:Nat,i<=2^n/\z.1=BitVec.ofNat 16 i/\z.2=(gw i).filter good) (λz=>2^n-z.1.toNat) ⟨0,kQ _,X,X⟩ (by simp only;omega) ?_;rintro⟨s,l⟩ ⟨i,hi,rfl,rfl⟩;have e:(BitVec.ofNat 16 i).toNat=i:=by rw[kP,kO O]
 rw[d];simp only;rw[Mx h,e,fc];refine⟨λk=>?_,λk=>?_⟩
 .have k:i<2^n:=by have:=j5 k;omega
  have e':(BitVec.ofNat 16 (i+1)).toNat=i+1:=by rw[kP,kO O]
  have t:=BU (m:=i) good;rw[f,ae,Mv,fc];refine⟨λq=>?_,λq=>?_⟩
  .rw[dm (by simp;omega),ae,co];exact⟨⟨i+1,k,X,by simp only;rw[G5,tJ];simp[q]⟩,by simp only[e'];omega⟩
  .rw[co];exact⟨⟨i+1,k,X,by simp only;rw[G5,tJ];simp[q]⟩,by simp only[e'];omega⟩
 .have k:¬i<2^n:=by have:=ln k;omega
  have:i=2^n:=by omega
  subst this;exact co.2 ⟨_,X⟩
def iV(out:List (BitVec 16))(s:BitVec 16):List (BitVec 16):=bif out.any (λt=>mz t s)then out else out++[s]
theorem Vl(out:List (BitVec 16))(s:BitVec 16):(iV out s).length<=out.length+1:=by unfold iV;cases out.any (λt=>mz t s)<;>simp
theorem yn:∀(l:List (BitVec 16))(out:List (BitVec 16)),(l.foldl iV out).length<=out.length+l.length
 |[],_=>dG _
 |s::l,out=>by have:=yn l (iV out s);have:=Vl out s;simp only[List.foldl_cons,eB];omega
def oz(n:Nat)(good:BitVec 16->Bool):List (BitVec 16):=(List.range (n+1)).flatMap λk=>(gw (2^n)).filter λs=>decide (pc s=k)&&good s
theorem MN{α:Type}{R:α->α->Prop}(d:∀x y,R x y->¬R y x):∀{l m:List α},l.Pairwise R->m.Pairwise R->(∀x,x∈l↔x∈m)->l=m
 |[],[],_,_,_=>rfl
 |[],b::m,_,_,h=>by have:=(h b).2 (mj ..);cases this
 |a::l,[],_,_,h=>by have:=(h a).1 (mj ..);cases this
 |a::l,b::m,g,i,h=>by
  rw[yW]at g i;have j:a=b:=by
   rcases fM.1 ((h a).1 (mj ..))with e|e
   .exact e
   .rcases fM.1 ((h b).2 (mj ..))with e'|e'
    .exact e'.symm
    .exact absurd (g.1 b e') (d _ _ (i.1 a e))
  subst j;congr 1;refine MN d g.2 i.2 λx=>?_;constructor
  .intro f;rcases fM.1 ((h x).1 (j7 _ f))with e|e
   .subst e;exact absurd (g.1 x f) (d _ _ (g.1 x f))
   .exact e
  .intro f;rcases fM.1 ((h x).2 (j7 _ f))with e|e
   .subst e;exact absurd (i.1 x f) (d _ _ (i.1 x f))
   .exact e
theorem Yf{n:Nat}{good:BitVec 16->Bool}(f:n<=10):((gw (2^n)).filter good).Nodup:=by have hp:2^n<=2^10:=lN O f;unfold List.Nodup;refine List.Pairwise.filter _ ((Ms O).imp λ{a b}d e=>?_);subst e;omega
theorem Xc{n:Nat}{good:BitVec 16->Bool}(j:n<=10){r:List (BitVec 16)}(e:∀x,x∈r↔x∈(gw (2^n)).filter good)(f:r.Pairwise λx y=>ur x y=true):r=oz n good:=by
 have hp:2^n<=2^10:=lN O j;refine MN (R:=λx y=>ur x y=true) (λx y h k=>?_) f ?_ λx=>?_
 .rw[wA]at h k;omega
 .unfold oz;rw[List.pairwise_flatMap];refine⟨λk _=>?_,?_⟩
  .refine List.Pairwise.imp_of_mem (R:=λa b:BitVec 16=>a.toNat<b.toNat) ?_ (List.Pairwise.filter _ (Ms O));intro a b g i d;rw[zm,eu,eW]at g i;rw[wA];omega
  .refine List.pairwise_lt_range.imp λ{a b}d=>?_;intro x l y m;rw[zm,eu,eW]at l m;rw[wA];omega
 .rw[e];unfold oz;simp only[CA,zm,pp,eu,eW];constructor
  .rintro⟨a,b⟩;refine⟨pc x,?_,a,X,b⟩;have:=Hl 16 n x.toNat ((XY O).1 a);unfold pc;omega
  .rintro⟨k,_,a,_,b⟩;exact⟨a,b⟩
theorem MM:∀v,v<256->Go.Lib.pop8 ((v:Nat):Int)=(eC 8 v:Int):=by
 have:((List.range 256).all λv=>Go.Lib.pop8 ((v:Nat):Int)==(eC 8 v:Int))=true:=by kernel_rfl
 intro v a;simpa using lQ.1 this v (pp.2 a)
theorem Mz(x:BitVec 16):iI x=(pc x:Int):=by
 have a:=x.isLt;unfold iI;rw[show(x.toNat:Int)/256=((x.toNat/256:Nat):Int) by omega,show(x.toNat:Int)%256=((x.toNat%256:Nat):Int) by omega,MM _ O,MM _ O];have e:pc x=eC 8 (x.toNat%2^8)+eC 8 (x.toNat/2^8):=Ad 8 8 x.toNat;have d:=uq 8 (x.toNat%2^8);have f:=uq 8 (x.toNat/2^8);rw[e,show(2:Nat)^8=256 from X]at*
 omega
theorem Ff(x y:BitVec 16):ltOf lb x y=ur x y:=by rw[ew,Fd,wA,Mz,Mz];omega
theorem ab6{n:Nat}{good:BitVec 16->Bool}(d:n<=10):w6 lb ((gw (2^n)).filter good)=some (oz n good):=by
 have hp:2^n<=2^10:=lN O d;have j:=BU (m:=2^n) good;unfold w6;rw[bE O];congr 1;refine Xc d (λx=>List.mem_mergeSort) ?_
 have f:=List.pairwise_mergeSort (le:=λx y=>!(ltOf lb) y x) (λa b c f g=>by
  simp only[Ff,rS,Ho]at*;omega) (λa b=>by
  simp only[Ff,mQ,rS,Ho];omega) ((gw (2^n)).filter good)
 have g:((gw (2^n)).filter good|>.mergeSort λx y=>!(ltOf lb) y x).Nodup:=(List.mergeSort_perm _ _).nodup_iff.2 (Yf d);refine(f.and g).imp λ{a b}h=>?_;have i:=h.1;simp only[Ff,rS,Ho]at i;rw[wA];have:a.toNat≠b.toNat:=λe=>h.2 (nD e);omega
theorem abm{W:Type}{n k fu:Nat}{good:BitVec 16->Bool}{out:List (BitVec 16)}(P:n<=10)(T:2000<fu)(ho:out.length<=2^20){gd:BitVec 16->Option Bool}(A:∀s,gd s=some (good s)){S:BitVec 16->Option Int}(C:∀s,S s=some (pc s:Int))
 {K:List (BitVec 16)->BitVec 16->Option Bool} (y:∀l s,K l s=some (l.any λt=>mz t s)) {body:(BitVec 16)×(List (BitVec 16))->Option (di ((BitVec 16)×(List (BitVec 16))) W)}
 (g:∀d,body d=bif decide ((d.1.toNat:Int)<(((1:BitVec 16)<<<n).toNat:Int))then((S d.1).bind λD=>bif D==(k:Int)then((gd d.1).bind λF=>bif F then((K d.2 d.1).bind λH=>bif !H then((room d.2 ([d.1]:List (BitVec 16))).bind λ_=>some (.go (d.1+(1:BitVec 16),d.2++([d.1]:List (BitVec 16)))))else
  some (.go (d.1+(1:BitVec 16),d.2)))else some (.go (d.1+(1:BitVec 16),d.2)))else some (.go (d.1+(1:BitVec 16),d.2)))else some (.brk (d.1,d.2))):
 cc (cw body fu ((0:BitVec 16),out)) λo=>∃s,o=.inl (s,((gw (2^n)).filter λs=>decide (pc s=k)&&good s).foldl iV out):=by
 have hp:2^n<=2^10:=lN O P;refine lW (λz:(BitVec 16)×(List (BitVec 16))=>∃i:Nat,i<=2^n/\z.1=BitVec.ofNat 16 i/\z.2=((gw i).filter λs=>decide (pc s=k)&&good s).foldl iV out) (λz=>2^n-z.1.toNat) ⟨0,kQ _,X,X⟩ (by simp only;omega) ?_;rintro⟨s,l⟩ ⟨i,hi,rfl,rfl⟩;have e:(BitVec.ofNat 16 i).toNat=i:=by rw[kP,kO O]
 rw[g];simp only;rw[Mx P,e,fc];refine⟨λq=>?_,λq=>?_⟩
 .have q:i<2^n:=by have:=j5 q;omega
  have e':(BitVec.ofNat 16 (i+1)).toNat=i+1:=by rw[kP,kO O]
  have hl:=BU (m:=i) λs=>decide (pc s=k)&&good s;have V:=yn ((gw i).filter λs=>decide (pc s=k)&&good s) out;have a:((gw (i+1)).filter λs=>decide (pc s=k)&&good s).foldl iV out=bif decide (pc (BitVec.ofNat 16 i)=k)&&good (BitVec.ofNat 16 i)then iV (((gw i).filter λs=>decide (pc s=k)&&good s).foldl iV out) (BitVec.ofNat 16 i)else((gw i).filter λs=>decide (pc s=k)&&good s).foldl iV out:=by
   rw[G5,tJ,List.foldl_append]
   cases Q:decide (pc (BitVec.ofNat 16 i)=k)&&good (BitVec.ofNat 16 i)with
   |true=>simp[Q]
   |false=>simp[Q]
  generalize((gw i).filter λs=>decide (pc s=k)&&good s).foldl iV out=x at*
  have f:∀p,p=((gw (i+1)).filter λs=>decide (pc s=k)&&good s).foldl iV out->(∃j:Nat,j<=2^n/\(BitVec.ofNat 16 (i+1),p).1=BitVec.ofNat 16 j/\(BitVec.ofNat 16 (i+1),p).2=((gw j).filter λs=>decide (pc s=k)&&good s).foldl iV out)/\2^n-(BitVec.ofNat 16 (i+1),p).1.toNat<2^n-i:=by intro p h;exact⟨⟨i+1,q,X,h⟩,by simp only[e'];omega⟩
  rw[C,ae,A,Mv,ae,y,ae];by_cases B:pc (BitVec.ofNat 16 i)=k
  .rw[B,show((k:Int)==(k:Int))=true by simp,bG];rw[c0 B,kR]at a
   cases M:good (BitVec.ofNat 16 i)with
   |true=>
    rw[M,bG]at a;unfold iV at a;rw[bG]
    cases L:x.any (λt=>mz t (BitVec.ofNat 16 i))with
    |true=>rw[L,bG]at a;rw[fX,aS,co];exact f _ a.symm
    |false=>rw[L,aS]at a;rw[lO,bG,dm (by simp;omega),ae,co];exact f _ a.symm
   |false=>rw[M,aS]at a;rw[aS,co];exact f _ a.symm
  .rw[cm B,Bool.false_and,aS]at a;rw[show(((pc (BitVec.ofNat 16 i):Nat):Int)==(k:Int))=false by simp;omega,aS,co];exact f _ a.symm
 .have q:¬i<2^n:=by have:=ln q;omega
  have:i=2^n:=by omega
  subst this;exact co.2 ⟨_,X⟩
theorem acX(a b:BitVec 16):Af a b=some (mz a b):=by unfold Af;rw[Tt]
theorem Uq(s:BitVec 16)(l:List (BitVec 16)):wC s l=some (l.any λt=>mz t s):=by
 unfold wC DC DL
 rw[E7 (λt=>mz t s) λj x a=>by
  unfold DM Db
  rw[cK,a,ae,acX,ae,ae,oi]]
 rfl
theorem XF(l:List (BitVec 16))(s:BitVec 16):wW l s=some (l.any λt=>mz t s):=by unfold wW DJ;exact E7 (λt=>mz t s) λj x a=>by unfold DK CY;rw[cK,a,ae,Yq,ae,oi]
theorem Za{r:List (BitVec 16)}(k:r.length<=2^20){body:Nat->List (BitVec 16)->Option (List (BitVec 16))}
 (a:∀i z,body i z=(bh r (i:Int)).bind λd=>(wC d z).bind λf=>bif !f then((room z ([d]:List (BitVec 16))).bind λ_=>some (z++([d]:List (BitVec 16))))else some z):
 bC body r.length 0 []=some (r.foldl iV []):=by
 refine oK ?_;refine kU (λi z=>z=(r.take i).foldl iV []) X ?_ ?_
 .rintro i z _ hi rfl;have hi:i<r.length:=by omega
  have h:=yn (r.take i) [];have l:(r.take i).length<=i:=by rw[fE];omega
  have j:(r.take (i+1)).foldl iV []=iV ((r.take i).foldl iV []) r[i]:=by rw[mN,List.foldl_append,gG hi];rfl
  rw[a,L4 hi,ae,Uq,ae,j];generalize(r.take i).foldl iV []=e at*
  unfold iV
  cases e.any (λt=>mz t r[i])with
  |true=>exact co.2 X
  |false=>rw[lO,bG,dm (by simp at h ⊢;omega),ae,co];rfl
 .intro z g;rw[gF,vx]at g;exact g
def tR(n:Nat)(good:BitVec 16->Bool):List (BitVec 16):=(oz n good).foldl iV []
theorem Cb{n:Nat}{good:BitVec 16->Bool}(a:n<=10):∀k,((List.range k).flatMap λk=>(gw (2^n)).filter λs=>decide (pc s=k)&&good s).length<=k*1024
 |0=>by simp
 |k+1=>by have hp:2^n<=2^10:=lN O a;have:=Cb (good:=good) a k;have:=BU (m:=2^n) λs=>decide (pc s=k)&&good s;rw[tE,GW,cH];simp only[Cy,List.flatMap_nil,is];omega
theorem abc{n fu:Nat}{good:BitVec 16->Bool}(m:n<=10)(p:2^17<fu){gd:BitVec 16->Option Bool}(f:∀s,gd s=some (good s))
 {b2:Nat->(BitVec 16)×(List (BitVec 16))->Option (di ((BitVec 16)×(List (BitVec 16))) (List (BitVec 16)))}
 (e:∀k a,b2 k a=bif decide ((a.1.toNat:Int)<(((1:BitVec 16)<<<n).toNat:Int))then((oO fu a.1).bind λh=>bif h==(k:Int)then((gd a.1).bind λi=>bif i then((wW a.2 a.1).bind λj=>bif !j then((room a.2 ([a.1]:List (BitVec 16))).bind λ_=>some (.go (a.1+(1:BitVec 16),a.2++([a.1]:List (BitVec 16)))))else
  some (.go (a.1+(1:BitVec 16),a.2)))else some (.go (a.1+(1:BitVec 16),a.2)))else some (.go (a.1+(1:BitVec 16),a.2)))else some (.brk (a.1,a.2)))
 {b0:Nat->List (BitVec 16)->Option (List (BitVec 16))} (d:∀k z,b0 k z=andThen (cw (b2 k) fu ((0:BitVec 16),z)) λ(_,g)=>some g):
 bC b0 (n+1) 0 []=some (tR n good):=by
 refine oK ?_;refine kU (λk z=>z=((List.range k).flatMap λk=>(gw (2^n)).filter λs=>decide (pc s=k)&&good s).foldl iV []) X ?_ ?_
 .rintro k z _ t rfl;have x:=Cb (good:=good) m k;have q:=yn ((List.range k).flatMap λk=>(gw (2^n)).filter λs=>decide (pc s=k)&&good s) [];rw[d,mo];refine(abm (k:=k) m O (by rw[iX,gF]at q;omega) f (λs=>HX O s) (λl s=>XF l s) (e k)).mono ?_;rintro o ⟨s,rfl⟩;refine co.2 ?_;rw[tE,GW,List.foldl_append];simp
 .rintro z rfl;rw[gF];rfl
theorem og(k:Nat):cnt (k:Int)=some k:=by unfold cnt;rw[bE O];rfl
theorem acC(m:Nat)(h:m<=2^40):iO (m:Int)=some m:=by unfold iO;rw[bE O];rfl
theorem and_one(y:BitVec 16):y&&&(1:BitVec 16)=y%(2:BitVec 16):=by apply nD;rw[rL,vA];exact Ci _
theorem acS{s:BitVec 16}{l k:List Int}{need:Int}(a:bh k 0=some need):wy s l k=pQ s l need:=by
 unfold pQ wy C6;have:wB s l=zW l s:=by funext i z;unfold wB zW;simp only[and_one]
 rw[this,Option.bind_assoc];simp only[a,ae]
def me(l:List Int)(need:Int)(s:BitVec 16):Bool:=(pQ s l need).getD false
theorem KZ(l:List Int)(need:Int)(s:BitVec 16):pQ s l need=some (me l need s):=by
 have:cc (pQ s l need) λ_=>True:=by unfold pQ;rw[dX];refine kU (λ_ _=>True) cy ?_ λz _=>co.2 cy;intro i z _ hi _;unfold wB;rw[L4 O,ae,og,ae];exact co.2 cy
 obtain⟨b,a,_⟩:=this;unfold me;rw[a];rfl
def vb(v:Int):Bool:=decide (v>=0)&&decide (v<=16777215)
theorem GG(a b c:Int):uu a b c=some (decide (a>=b)&&decide (a<=c)):=by unfold uu;rw[iR,ae]
theorem acQ(l:List Int):AA l=some (l.any λv=>!(vb v)):=by unfold AA DF;exact E7 (λv=>!(vb v)) λj x a=>by unfold DG Da;rw[cK,a,ae,GG,ae,ae,oi];rfl
theorem XZ{m fu:Nat}{l:List Int}{need:Int}(a:m<=10)(d:2^17<fu):Ae fu (m:Int) l need=some (tR m (me l need)):=by refine oK ?_;unfold Ae;rw[og,ae,mo];refine(Um (good:=me l need) (gd:=λs=>pQ s l need) a O (λs=>KZ l need s) (body:=Dc l need m) λz=>rfl).mono ?_;rintro o ⟨s,rfl⟩;show cc ((DT _).bind _) _;have e:=Cb (good:=me l need) a (m+1);rw[show DT ((gw (2^m)).filter (me l need))=some (oz m (me l need))from ab6 a,ae,Za (r:=oz m (me l need)) (by unfold oz;exact kC e O) (body:=Dd (oz m (me l need))) λi z=>rfl,ae,co];rfl
theorem XE{m fu:Nat}{l k:List Int}{need:Int}(d:bh k 0=some need)(f:m<=10)(a:2^17<fu):zM fu (m:Int) l k=some (tR m (me l need)):=by
 unfold zM;have e:iO (ap ((m:Int)+1))=some (m+1):=by rw[bT O O];exact acC (m+1) O
 rw[e,ae,abc (good:=me l need) f a (gd:=λs=>wy s l k) (λs=>by rw[acS d];exact KZ l need s) (b2:=λj=>CZ fu l k j m) (λj z=>rfl) (b0:=zN fu (m:Int) l k) (λk z=>by unfold zN;rw[og,ae])];rfl
theorem acP{l:List Int}{need:Int}{fu:Nat}(a:2^17<fu)(e:∀v∈l,0<=v/\v<10000)(g:0<=need/\need<10000):
 ut fu l need=some (if 1<=l.length/\l.length<=10/\1<=need then(tR l.length (me l need),0)else([],1)):=by
 unfold ut;rw[GG,ae,GG,ae,or_some,ae,acQ,ae,or_some,ae];have d:(l.any λv=>!(vb v))=false:=by rw[List.any_eq_false];intro v f;have:=e v f;unfold vb;rw[c0 O,c0 O];decide
 rw[d,zj];by_cases h:1<=l.length/\l.length<=10/\1<=need
 .rw[c0 (show(l.length:Int)>=1 by omega),c0 (show(l.length:Int)<=10 by omega),c0 (show need>=1 by omega),c0 (show need<=16777215 by omega),bE h];simp only[je,fX,oE,aS];rw[XZ O a,ae]
 .have:(!(decide ((l.length:Int)>=1)&&decide ((l.length:Int)<=10))||!(decide (need>=1)&&decide (need<=16777215)))=true:=by
   simp only[mQ,rS,oD,lm];omega
  rw[this,ca h];rfl
end Go.Proofs.YteagbdjohkfneaaGreatDoor.H
namespace Go.Proofs.YteagbdjohkfneaaGreatDoor.R
open an
def va(a:List Int)(j:Nat):Int:=a[j]?.getD 0
theorem xi{a:List Int}{j:Nat}(h:j<a.length):a[j]?=some (va a j):=by simp[va,h]
theorem vL{a:List Int}{j:Nat}(h:j<a.length):bh a (j:Int)=some (va a j):=by rw[cK,xi h]
structure ob(a:List Int):Prop where
 n1:1<=a.length
 n2:a.length<=30
 inj:∀i j,i<a.length->j<a.length->va a i=va a j->i=j
theorem GD{a:List Int}{i:Nat}(hi:i<a.length):(gE (va a i==·) a=(i:Int))↔∀j,j<i->va a j≠va a i:=by
 rw[Ca];constructor
 .rintro⟨x,_,_,g⟩ j d e;have:=g j _ d (xi O);simp[e]at this
 .intro h;refine⟨_,xi hi,by simp,λj y d f=>?_⟩;rw[xi O]at f;obtain rfl:=dp f;have:=h j d;simp;omega
theorem acr{a:List Int}{i:Nat}(hi:i<a.length)(x:Int):x∈a.take i↔∃j,j<i/\va a j=x:=by
 constructor
 .intro h;obtain⟨j,d⟩:=ji h;have f:=(dl d).1;have e:j<i:=by simp at f;omega
  rw[Cz e,xi O]at d;exact⟨j,e,dp d⟩
 .rintro⟨j,d,rfl⟩;refine du (i:=j) ?_;rw[Cz d,xi O]
theorem TR{a:List Int}{i:Nat}(hi:i<a.length):bY a 0 (i:Int)=some (a.take i):=by unfold bY;rw[bE O];rfl
theorem TK{a:List Int}{i:Nat}(hi:i<a.length):wi a i ()=Ao a i ():=by
 unfold wi Ao;rw[vL hi,TR hi];simp only[ae,FE,UP];have:(gE (va a i==·) a !=(i:Int))=(a.take i).contains (va a i):=by
  rw[ew,List.contains_iff_mem,acr hi];have h:=GD hi;constructor
  .intro g;refine Classical.byContradiction λd=>?_;have:gE (va a i==·) a=(i:Int):=h.2 λj f e=>d ⟨j,f,e⟩;simp[this]at g
  .rintro⟨j,f,e⟩;refine Classical.byContradiction λd=>?_;have k:gE (va a i==·) a=(i:Int):=by simpa using d
   exact h.1 k j f e
 rw[this]
theorem Fg(a:List Int):wL a=pN a:=by
 unfold pN wL;have:decide ((a.length:Int)<1)=((a.length:Int)==0):=by rw[ew,eW,gO];omega
 rw[this,NF a.length 0 () λj _ _ d=>(TK (a:=a) (i:=j) O).symm]
theorem oe(a:List Int):cc (pN a) λr=>(r=0->ob a)/\(r=0\/r=1\/r=4):=by
 unfold pN;simp only[oi,ae,zg];rw[fc];refine⟨λ_=>co.2 ⟨λh=>(by cases h),.inr (.inl X)⟩,λl=>?_⟩;have f:1<=a.length/\a.length<=30:=by simp only[zi,ll,lm]at l;omega
 rw[mo];refine cc.cM (λi _=>∀j,j<i->gE (va a j==·) a=(j:Int)) (λj h=>by omega) ?_ ?_
 .intro i _ _ hi d;have g:i<a.length:=by omega
  unfold wi;rw[vL g];simp only[ae,FE,oi];rw[co]
  cases (bif decide (va a i<0)then true else decide (va a i>16777215))with
  |true=>exact⟨λ(h:(1:Int)=0)=>(by cases h),.inr (.inl X)⟩
  |false=>
  cases h:(gE (va a i==·) a !=(i:Int))with
  |true=>exact⟨λ(h:(4:Int)=0)=>(by cases h),.inr (.inr X)⟩
  |false=>
  intro j k;by_cases e:j=i
  .subst e;simpa using h
  .exact d j O
 .intro _ d;rw[gF]at d;refine co.2 ⟨λ_=>⟨f.1,f.2,λi j hi k e=>?_⟩,.inl X⟩;rcases qv i j with h|h|h
  .exact absurd e ((GD k).1 (d j k) i h)
  .exact h
  .exact absurd e.symm ((GD hi).1 (d i hi) j h)
theorem Mt{j:Int}(h:j≠0):nz j=some ():=by unfold nz;rw[ca h]
theorem Oo(x n:Nat):((x:Int)).tmod (n:Int)=((x%n:Nat):Int):=by rw[Int.tmod_eq_emod_of_nonneg O];rfl
structure ES(a:List Int)(m:Nat):Prop where
 lt:m<a.length
 Id:∀i,i<a.length->va a i<=va a m
theorem L7{a:List Int}:∀k,1<=k->k<=a.length->∃m,m<k/\∀i,i<k->va a i<=va a m
 |0,h,_=>absurd h O
 |1,_,_=>⟨0,by omega,λi hi=>by rw[show i=0 by omega];exact jz _⟩
 |k+2,_,h=>by
  obtain⟨m,f,d⟩:=L7 (a:=a) (k+1) O O;by_cases c:va a (k+1)<=va a m
  .refine⟨m,by omega,λi hi=>?_⟩;by_cases e:i=k+1
   .rw[e];exact c
   .exact d i O
  .refine⟨k+1,by omega,λi hi=>?_⟩;by_cases e:i=k+1
   .rw[e];exact jz _
   .have:=d i O;omega
def iD(a:List Int)(o c y:Nat):Nat->Nat->Nat×Bool
 |0,_=>(y,true)
 |k+1,p=>if(p+c)%a.length=o then(1,true)else if va a ((p+c)%a.length)>va a o then(1,false)else(1+(iD a o c y k ((p+c)%a.length)).1,(iD a o c y k ((p+c)%a.length)).2)
theorem Fs(a:List Int)(o c y:Nat):∀k p,(iD a o c y k p).1<=k+y
 |0,_=>by simp[iD]
 |k+1,p=>by
  have:=Fs a o c y k ((p+c)%a.length);unfold iD;split
  .simp only;omega
  .split<;>simp only<;>omega
theorem Ft{a:List Int}{m:Nat}(e:ES a m)(c y:Nat):∀k p,(iD a m c y k p).2=true
 |0,_=>rfl
 |k+1,p=>by
  have d:(p+c)%a.length<a.length:=tG _ (by have:=e.lt;omega);have f:=e.Id _ d;unfold iD;split
  .rfl
  .rw[ca O];exact Ft e c y k _
def rg(a:List Int)(w:Int)(c:Nat):Prop:=(w=1/\c=1)\/(w= -1/\c+1=a.length)
theorem abB{a:List Int}(h:ob a){w:Int}{c i d:Nat}(hi:i<a.length)(hd:d<=100)(e:rg a w c):
 (ap ((ap ((i:Int)+ap (w*(d:Int)))).tmod (a.length:Int)+(a.length:Int))).tmod (a.length:Int)=(((i+c*d)%a.length:Nat):Int):=by
 have n:=h.n1;have o:=h.n2;have l:∃x:Int,x=(i:Int)+w*(d:Int)/\-100<=x/\x<=200:=by refine⟨_,X,?_⟩;rcases e with⟨rfl,_⟩|⟨rfl,_⟩<;>omega
 obtain⟨x,f,p,q⟩:=l;have j:ap (w*(d:Int))=w*(d:Int):=by rcases e with⟨rfl,_⟩|⟨rfl,_⟩<;>exact bT O O
 rw[j,<-f,bT (x:=x) O O];have g:(0:Int)<(a.length:Int):=by omega
 have m:=Int.tmod_lt_of_pos x g;have b2:=Int.lt_tmod_of_pos x g;rw[bT O O,Int.tmod_eq_emod_of_nonneg O,Int.tmod_def,Int.add_emod_right,Int.sub_mul_emod_self_left,f,Int.natCast_emod];rcases e with⟨rfl,rfl⟩|⟨rfl,k⟩
 .rw[Int.one_mul,Nat.one_mul];rfl
 .have:(((i+c*d:Nat)):Int)=((i:Int)+-1*(d:Int))+(a.length:Int)*(d:Int):=by
   rw[<-k];simp only[Int.natCast_add,Int.natCast_mul,Int.add_mul];omega
  rw[this,Int.add_mul_emod_self_left]
theorem sw{a:List Int}(h:ob a){w:Int}{c i y fu:Nat}(hi:i<a.length)(A:y<=60)(q:rg a w c)(x:100<=fu):
 wO fu a (i:Int) w (y:Int)=some ((((iD a i c y y i).1:Nat):Int),(iD a i c y y i).2):=by
 refine oK ?_;have s:=h.n1;have t:=h.n2;obtain⟨T,m⟩:∃T,T=iD a i c y y i:=⟨_,X⟩
 rw[<-m];unfold wO;rw[mo]
 refine lW (λz=>∃d:Nat,z=((d+1:Nat):Int)/\d<=y/\d+(iD a i c y (y-d) ((i+c*d)%a.length)).1=T.1/\(iD a i c y (y-d) ((i+c*d)%a.length)).2=T.2) (λz=>y+2-z.toNat)
  ⟨0,X,kQ _,?_,?_⟩ (by simp;omega) ?_
 .rw[Nat.mul_zero,lj,kO hi,gF,px,m]
 .rw[Nat.mul_zero,lj,kO hi,px,m]
 .rintro _ ⟨d,rfl,hd,e,f⟩;unfold Dt;have hp:(i+c*(d+1))%a.length<a.length:=tG _ O;have p:((i+c*d)%a.length+c)%a.length=(i+c*(d+1))%a.length:=by
   rw[Nat.mod_add_mod,Nat.mul_add,Nat.mul_one,yY]
  rw[fc];constructor
  .intro n;have g:d+1<=y:=by have:=j5 n;omega
   rw[Mt O,ae,ae,abB h hi O q];rw[show y-d=(y-(d+1))+1 by omega]at e f;unfold iD at e f;rw[p]at e f;rw[fc];constructor
   .intro l;have j:(i+c*(d+1))%a.length=i:=mR.1 (by simpa using l);rw[bE j]at e f;refine co.2 (cc.HM.2 (cc.Ce.2 ?_));rw[<-e,<-f]
   .intro l;have j:(i+c*(d+1))%a.length≠i:=λk=>by rw[k]at l;simp at l
    rw[ca j]at e f;rw[vL hp,ae,vL hi,ae,fc];constructor
    .intro o;rw[bE (j5 o)]at e f;refine co.2 (cc.HM.2 (cc.Ce.2 ?_));rw[<-e,<-f]
    .intro o;rw[ca (ln o)]at e f;rw[bT O O];refine co.2 (kT.2 ⟨⟨d+1,X,g,?_,f⟩,?_⟩)
     .simp only at e;omega
     .omega
  .intro n;have g:d=y:=by have:=ln n;omega
   subst g;refine co.2 (mW.2 (qG.2 (co.2 ?_)));rw[Nat.sub_self]at e f;simp only[iD]at e f;rw[<-e,<-f,bT O O];congr 1;omega
def c1(a:List Int)(y o:Nat):Nat×Bool:=iD a o 1 y y o
def c2(a:List Int)(y o:Nat):Nat×Bool:=iD a o (a.length-1) y y o
def good(a:List Int)(y o:Nat):Bool:=(c1 a y o).2&&(c2 a y o).2
def ph(a:List Int)(y:Nat)(f:Nat->Bool)(o:Nat):Nat:=if f o=true then(c1 a y o).1+(c2 a y o).1 else 0
def ke(a:List Int)(y:Nat)(f:Nat->Bool):Nat->Nat
 |0=>0
 |k+1=>ke a y f k+ph a y f k
theorem ML(a:List Int)(y:Nat)(f:Nat->Bool)(o:Nat):ph a y f o<=4*y:=by have d:=Fs a o 1 y y o;have e:=Fs a o (a.length-1) y y o;unfold ph c1 c2;split<;>omega
theorem Ou(a:List Int)(y:Nat)(f:Nat->Bool):∀k,ke a y f k<=k*(4*y)
 |0=>kQ _
 |k+1=>by have:=Ou a y f k;have:=ML a y f k;rw[oC];unfold ke;omega
theorem Ie{a:List Int}(h:ob a)(y:Nat)(f:Nat->Bool){k:Nat}(g:k<=a.length):ke a y f k<=120*y:=by have d:=Ou a y f k;have e:k*(4*y)<=30*(4*y):=pt _ (by have:=h.n2;omega);omega
theorem abl{a:List Int}(h:ob a){s y fu:Nat}{l:List Bool}{f:Nat->Bool}(F:f9 l a.length f)(H:y<=60)(T:s<=10000)(D:100<=fu):
 ∃q,bC (wN fu a (y:Int)) l.length 0 ((s:Int),l)=some (((s+ke a y f a.length:Nat):Int),q)/\f9 q a.length (λj=>f j&&good a y j):=by
 have Q:=h.n1;have:cc (bC (wN fu a (y:Int)) l.length 0 ((s:Int),l)) λz=>z.1=((s+ke a y f a.length:Nat):Int)/\f9 z.2 a.length (λj=>f j&&good a y j):=by
  rw[F.1];refine kU (λi z=>z.1=((s+ke a y f i:Nat):Int)/\f9 z.2 a.length (λj=>if j<i then f j&&good a y j else f j)) ⟨X,?_⟩ ?_ ?_
  .exact F.to λj _=>by rw[ca O]
  .rintro i ⟨t,P⟩ _ hi ⟨m,g⟩;have n:i<a.length:=by omega
   simp only at m g;subst m;have S:=Ie h y f (k:=i) O;have C:=ML a y f i;unfold wN;simp only;have M:bh P (i:Int)=some (f i):=by rw[g.bh n,ca O]
   rw[M,ae,fc];constructor
   .intro A;have d:f i=false:=by simpa using A
    refine co.2 ⟨?_,g.to λj B=>?_⟩
    .simp[ke,ph,d]
    .by_cases k:j=i
     .subst k;rw[ca O,bE O,d];rfl
     .by_cases p:j<i
      .rw[bE p,bE O]
      .rw[ca p,ca O]
   .intro A;have d:f i=true:=by simpa using A
    have K:rg a 1 1:=.inl ⟨X,X⟩;have L:rg a (-1) (a.length-1):=.inr ⟨X,by omega⟩;have o:ph a y f i=(c1 a y i).1+(c2 a y i).1:=by unfold ph;rw[bE d]
    rw[sw h n H K D,ae,sw h n H L D,ae];simp only[oi,ae,GQ];rw[eg];rw[o]at C;refine co.2 ⟨?_,(g.set i (good a y i)).to λj B=>?_⟩
    .show ap ((((s+ke a y f i:Nat)):Int)+ap ((((c1 a y i).1:Nat):Int)+(((c2 a y i).1:Nat):Int)))=_;rw[bT (x:=(((c1 a y i).1:Nat):Int)+_) O O,bT O O,ke,o];omega
    .by_cases k:j=i
     .subst k;rw[sD,bE O,d];rfl
     .rw[sC k];by_cases p:j<i
      .rw[bE p,bE O]
      .rw[ca p,ca O]
  .rintro z ⟨m,g⟩;rw[gF]at m g;exact⟨m,g.to λj B=>by rw[bE B]⟩
 obtain⟨⟨V,q⟩,e,m,g⟩:=this;simp only at m g;exact⟨q,by rw[e,m],g⟩
def sm{α:Type}(g:α->Nat):List α->Nat
 |[]=>0
 |x::l=>g x+sm g l
theorem qV{α:Type}(g:α->Nat):∀l m,sm g (l++m)=sm g l+sm g m
 |[],m=>by simp[sm]
 |x::l,m=>by simp only[rT,sm,qV g l m];omega
def cl(f:Nat->Bool):Nat->List Int
 |0=>[]
 |k+1=>cl f k++(if f k=true then[(k:Int)]else[])
theorem Fi(f:Nat->Bool):∀k,(cl f k).length<=k
 |0=>dG _
 |k+1=>by have:=Fi f k;unfold cl;split<;>simp<;>omega
theorem Kj(f:Nat->Bool):∀k x,x∈cl f k->∃o:Nat,x=(o:Int)/\o<k
 |0,x,h=>by cases h
 |k+1,x,h=>by
  unfold cl at h;rcases fx.1 h with h|h
  .obtain⟨o,e,a⟩:=Kj f k x h;exact⟨o,e,by omega⟩
  .split at h
   .exact⟨k,by simpa using h,by omega⟩
   .cases h
theorem Kk(g:Int->Nat)(f:Nat->Bool):∀k,sm g (cl f (k+1))=sm g (cl f k)+if f k=true then g (k:Int)else 0:=λk=>by rw[cl,qV];split<;>simp[sm]
theorem Kh{f:Nat->Bool}:∀k,(∃j,j<k/\f j=true)->∃i,i<k/\f i=true/\(∀j,j<i->f j=false)/\(cl f k)[0]?=some (i:Int)
 |0,⟨j,h,_⟩=>by omega
 |k+1,⟨j,t,g⟩=>by
  by_cases h:∃j,j<k/\f j=true
  .obtain⟨i,s,n,o,m⟩:=Kh k h;have p:=(dl m).1;exact⟨i,by omega,n,o,by unfold cl;rw[it p];exact m⟩
  .have e:j=k:=by
    refine Classical.byContradiction λy=>h ⟨j,by omega,g⟩
   subst e;have d:∀i,i<j->f i=false:=λi hi=>by
    cases l:f i with
    |true=>exact absurd ⟨i,hi,l⟩ h
    |false=>rfl
   have a:∀k,k<=j->cl f k=[]:=by
    intro k
    induction k with
    |zero=>intro _;rfl
    |succ k q=>intro x;unfold cl;rw[q O,d k O];rfl
   exact⟨j,by omega,g,d,by unfold cl;rw[a j (dG _),bE g];rfl⟩
def xX(a:List Int)(w:Int):Nat:=if w=1 then 1 else a.length-1
def gT(a:List Int)(y:Nat)(t:cO):Nat×Bool:=iD a t.of.toNat (xX a t.ah) y t.left.toNat t.fe.toNat
structure o5(a:List Int)(y:Nat)(t:cO)(o c k p:Nat):Prop where
 lt:o<a.length
 of:t.of=(o:Int)
 fe:t.fe=(p:Int)
 pl:p<a.length
 ah:rg a t.ah c
 left:t.left=((k+1:Nat):Int)
 ky:k+1<=y
theorem rg.xX{a:List Int}{w:Int}{c:Nat}(h:rg a w c):xX a w=c:=by
 unfold Go.Proofs.YteagbdjohkfneaaGreatDoor.R.xX;rcases h with⟨rfl,rfl⟩|⟨rfl,d⟩
 .rfl
 .rw[ca ab];omega
theorem o5.gT{a:List Int}{y:Nat}{t:cO}{o c k p:Nat}(h:o5 a y t o c k p):gT a y t=iD a o c y (k+1) p:=by unfold Go.Proofs.YteagbdjohkfneaaGreatDoor.R.gT;rw[h.of,h.fe,h.left,h.ah.xX];rfl
def pL(j:Nat)(b:Nat×Bool)(t:cO):Nat:=if t.of=(j:Int)/\b.2=true then 1 else 0
def pm(a:List Int)(y j:Nat)(l:List cO):Nat:=sm (λt=>pL j (gT a y t) t) l
theorem step_pos{a:List Int}(h:ob a){w:Int}{c p:Nat}(hp:p<a.length)(d:rg a w c):
 (ap (ap ((p:Int)+w)+(a.length:Int))).tmod (a.length:Int)=(((p+c)%a.length:Nat):Int):=by
 have e:=h.n1;have f:=h.n2;rcases d with⟨rfl,rfl⟩|⟨rfl,g⟩
 .rw[bT (x:=(p:Int)+1) O O,bT O O];rw[show(p:Int)+1+(a.length:Int)=((p+1+a.length:Nat):Int)from X,Oo,Nat.add_mod_right]
 .rw[bT (x:=(p:Int)+-1) O O,bT O O];rw[show(p:Int)+-1+(a.length:Int)=((p+c:Nat):Int) by omega,Oo]
structure QH(a:List Int)(y T:Nat)(H:Nat->Nat)(z:Int×List cO×List Int)(s:Nat)(h:Nat->Nat):Prop where
 cnt:z.1=(s:Int)
 sum:s+sm (λt=>(gT a y t).1) z.2.1=T
 home:f9 z.2.2 a.length (λj=>(h j:Int))
 all:∀j,j<a.length->h j+pm a y j z.2.1=H j
 ok:∀t∈z.2.1,∃o c k p,o5 a y t o c k p
 len:z.2.1.length<=100
theorem LC{a:List Int}{H h:Nat->Nat}{o:Nat}{R:Nat->Nat}{t:cO}{b:Nat×Bool}(f:t.of=(o:Int))(g:b.2=true)(d:∀j,j<a.length->h j+(pL j b t+R j)=H j):
 ∀j,j<a.length->upd h o (h o+1) j+R j=H j:=by
 intro j i;have:=d j i;unfold pL at this;by_cases k:j=o
 .subst k;rw[sD];rw[bE ⟨f,g⟩]at this;omega
 .rw[sC k];rw[ca λe=>k (mR.1 (e.1.symm.trans f))]at this;omega
theorem WJ{a:List Int}{H h:Nat->Nat}{R:Nat->Nat}{t:cO}{b:Nat×Bool}(e:b.2=false)(d:∀j,j<a.length->h j+(pL j b t+R j)=H j):
 ∀j,j<a.length->h j+R j=H j:=by
 intro j f;have:=d j f;unfold pL at this;rw[ca (by rw[e];simp)]at this;omega
theorem Zd{a:List Int}(h:ob a){y T:Nat}{H:Nat->Nat}(hy:y<=60)(hT:T<=100000)(hH:∀j,j<a.length->H j<=2){z:Int×List cO×List Int}{s:Nat}{f:Nat->Nat}(hz:QH a y T H z s f):
 cc (wg a (y:Int) z) (cc.sQ (λW=>(∃s' f',QH a y T H W s' f')/\sm (λt=>t.left.toNat) W.2.1<sm (λt=>t.left.toNat) z.2.1) (λW=>W=z/\z.2.1=[]) λ_=>False):=by
 obtain⟨s0,l,hm⟩:=z;obtain⟨e1,n,D,e4,e5,e6⟩:=hz;simp only at e1 n D e4 e5 e6;subst e1;unfold wg;simp only;rw[fc];constructor
 .intro hc;have h1:=h.n1;have h2:=h.n2
  cases l with
  |nil=>simp at hc
  |cons t l=>
  have K:bY (t::l) (1:Int) (((t::l).length:Nat):Int)=some l:=by unfold bY;rw[bE (by simp;omega)];simp
  have hx:bh (t::l) (0:Int)=some t:=X;rw[hx,ae,K,ae,Mt O,ae,eg,eg];obtain⟨o,c,k,p,g⟩:=e5 t mj;have x:=g.lt;have hp:(p+c)%a.length<a.length:=tG _ O;have UI:(ap ((ap (t.fe+t.ah))+(a.length:Int))).tmod (a.length:Int)=(((p+c)%a.length:Nat):Int):=by rw[g.fe];exact step_pos h g.pl g.ah
  have hky:=g.ky;have UJ:ap (t.left-1)=(k:Int):=by rw[g.left,bT O O];omega
  simp only[sm]at n;have F:=g.gT;rw[F]at n;have d:∀j,j<a.length->f j+(pL j (iD a o c y (k+1) p) t+pm a y j l)=H j:=λj S=>by have:=e4 j S;unfold pm at this;simp only[sm]at this;rw[F]at this;exact this
  have LG:t.of.toNat=o:=by rw[g.of];rfl
  have hlen:l.length<=99:=by simp at e6;omega
  have hfo:f o<=2:=by have:=d o x;have:=hH o x;omega
  have es:ap ((s:Int)+1)=((s+1:Nat):Int):=by rw[bT O O];rfl
  have P:bh hm (o:Int)=some ((f o:Nat):Int):=D.bh x;have q:f9 (hm.set o (ap (((f o:Nat):Int)+1))) a.length (λj=>((upd f o (f o+1) j:Nat):Int)):=(D.set o _).to λj S=>by
   by_cases kk:j=o
   .subst kk;rw[sD,sD,bT O O];rfl
   .rw[sC kk,sC kk]
  have i:sm (λt=>t.left.toNat) l<sm (λt=>t.left.toNat) (t::l):=by simp only[sm];rw[g.left];omega
  have A:∀t∈l,∃o c k p,o5 a y t o c k p:=λt g=>e5 t (j7 _ g);simp only[UI,UJ,es,g.of,cP];rw[iD]at n d;rw[fc];constructor
  .intro Q;have C:(p+c)%a.length=o:=mR.1 (by simpa using Q);rw[bE C]at n d;rw[P,ae,ae,eg];refine co.2 (kT.2 ⟨⟨s+1,_,X,?_,q,LC g.of X d,A,?_⟩,i⟩)
   .simp only at n ⊢;omega
   .simp only;omega
  .intro Q;have C:(p+c)%a.length≠o:=λk=>by rw[k]at Q;simp at Q
   rw[ca C]at n d;rw[vL hp,ae,vL x,ae,fc];constructor
   .intro hg;rw[bE (j5 hg)]at n d;refine co.2 (kT.2 ⟨⟨s+1,f,X,?_,D,WJ X d,A,?_⟩,i⟩)
    .simp only at n ⊢;omega
    .simp only;omega
   .intro hg;rw[ca (ln hg)]at n d;rw[fc];constructor
    .intro V;have M:k=0:=by simpa using V
     subst M;rw[P,ae,ae,eg];simp only[iD]at n d;have ey:ap (((s+1:Nat):Int)+(y:Int))=((s+(1+y):Nat):Int):=by rw[bT O O];omega
     rw[ey];refine co.2 (kT.2 ⟨⟨s+(1+y),_,X,?_,q,LC g.of X d,A,?_⟩,i⟩)
     .simp only;omega
     .simp only;omega
    .intro V;have M:k≠0:=λe=>by rw[e]at V;simp at V
     obtain⟨k,rfl⟩:∃k',k=k'+1:=⟨k-1,by omega⟩
     rw[dm (by simp;omega),ae];have B:o5 a y ({of:=(o:Int),fe:=(((p+c)%a.length:Nat):Int),ah:=t.ah,left:=((k+1:Nat):Int)}:cO) o c k ((p+c)%a.length):=⟨x,X,X,hp,g.ah,X,by omega⟩
     have L:=B.gT;refine co.2 (kT.2 ⟨⟨s+1,f,X,?_,D,λj S=>?_,?_,?_⟩,?_⟩)
     .simp only[qV,sm,L];simp only at n;omega
     .have:=d j S;unfold pm;simp only[qV,sm,L];unfold pm at this;have e:pL j (1+(iD a o c y (k+1) ((p+c)%a.length)).1,(iD a o c y (k+1) ((p+c)%a.length)).2) t=pL j (iD a o c y (k+1) ((p+c)%a.length)) ({of:=(o:Int),fe:=(((p+c)%a.length:Nat):Int),ah:=t.ah,left:=((k+1:Nat):Int)}:cO):=by
       unfold pL;rw[g.of]
      rw[e]at this;omega
     .intro t' m;rcases fx.1 m with m|m
      .exact A t' m
      .rw[ia]at m;subst m;exact⟨o,c,k,_,B⟩
     .simp;omega
     .simp only[qV,sm];rw[g.left];simp only[cP];omega
 .intro hc;have V4:l=[]:=by have:=ln hc;exact pC.1 O
  exact co.2 (mW.2 ⟨X,V4⟩)
def rq(a:List Int)(y:Nat)(f:Nat->Bool)(j:Nat):Nat:=if f j=true then(if(c1 a y j).2=true then 1 else 0)+(if(c2 a y j).2=true then 1 else 0)else 0
theorem Jc{a:List Int}{y:Nat}{f:Nat->Bool}{j:Nat}:rq a y f j<=2/\((((rq a y f j:Nat):Int)==2)=(f j&&good a y j)):=by unfold rq good;cases f j<;>cases (c1 a y j).2<;>cases (c2 a y j).2<;>simp
def gC(a:List Int)(y:Nat)(x:Int):Nat:=(c1 a y x.toNat).1+(c2 a y x.toNat).1
def gH(a:List Int)(y j:Nat)(x:Int):Nat:=if x=(j:Int)then(if(c1 a y j).2=true then 1 else 0)+(if(c2 a y j).2=true then 1 else 0)else 0
theorem Kg(a:List Int)(y:Nat)(f:Nat->Bool):∀k,sm (gC a y) (cl f k)=ke a y f k
 |0=>rfl
 |k+1=>by rw[Kk,Kg a y f k];rfl
theorem Ki(a:List Int)(y:Nat)(f:Nat->Bool)(j:Nat):∀k,sm (gH a y j) (cl f k)=if j<k then rq a y f j else 0
 |0=>rfl
 |k+1=>by
  rw[Kk,Ki a y f j k];by_cases e:j=k
  .subst e;rw[ca (Nat.lt_irrefl j),bE (zc j),gF];unfold gH rq;rw[bE X]
  .have:gH a y j (k:Int)=0:=by unfold gH;rw[ca λe'=>e (mR.1 e').symm]
   rw[this];have:(if f k=true then 0 else 0)=0:=by split<;>rfl
   rw[this,lj];by_cases d:j<k
   .rw[bE d,bE O]
   .rw[ca d,ca O]
theorem N4{a:List Int}{y:Nat}(e:y<=60):∀{l:List cO},(∀t∈l,∃o c k p,o5 a y t o c k p)->sm (λt=>t.left.toNat) l<=60*l.length
 |[],_=>dG _
 |t::l,h=>by have f:=N4 e (l:=l) λt d=>h t (j7 _ d);obtain⟨o,c,k,p,d⟩:=h t mj;have:=d.ky;simp only[sm,eB];rw[d.left];simp only[cP];omega
def nc(x:Int)(w:Int)(y:Int):cO:={cO.zero with of:=x,fe:=x,ah:=w,left:=y}
theorem acd{a:List Int}(h:ob a){y:Nat}{f:Nat->Bool}(Q:y<=60)(L:1<=y):
 cc (bC (zJ (cl f a.length) (y:Int)) (cl f a.length).length 0 ([]:List cO)) λl=>sm (λt=>(gT a y t).1) l=ke a y f a.length/\(∀j,j<a.length->pm a y j l=rq a y f j)/\(∀t∈l,∃o c k p,o5 a y t o c k p)/\l.length<=60:=by
 have M:=h.n1;have P:=h.n2;have H:=Fi f a.length;refine kU (λi l=>sm (λt=>(gT a y t).1) l=sm (gC a y) ((cl f a.length).take i)/\(∀j,j<a.length->pm a y j l=sm (gH a y j) ((cl f a.length).take i))/\(∀t∈l,∃o c k p,o5 a y t o c k p)/\l.length=2*i) ?_ ?_ ?_
 .exact⟨X,λ_ _=>rfl,λt d=>(by cases d),X⟩
 .rintro i l _ hi ⟨q,s,z,F⟩;have m:i<(cl f a.length).length:=by omega
  obtain⟨o,C,g⟩:=Kj f a.length _ (j6 m);have K:bh (cl f a.length) (i:Int)=some (o:Int):=by rw[cK,gG m,C]
  have n:(cl f a.length).take (i+1)=(cl f a.length).take i++[(o:Int)]:=by rw[List.take_succ_eq_append_getElem m,C]
  have D:o5 a y (nc (o:Int) 1 (y:Int)) o 1 (y-1) o:=⟨g,X,X,g,.inl ⟨X,X⟩,by simp only[nc];omega,by omega⟩
  have t2:o5 a y (nc (o:Int) (-1) (y:Int)) o (a.length-1) (y-1) o:=⟨g,X,X,g,.inr ⟨X,by omega⟩,by simp only[nc];omega,by omega⟩
  have A:=D.gT;have B:=t2.gT;rw[show y-1+1=y by omega]at A B;unfold zJ;rw[K,ae,dm (by simp;omega),ae];refine co.2 ?_;show sm (λt=>(gT a y t).1) (l++[nc (o:Int) 1 (y:Int),nc (o:Int) (-1) (y:Int)])=_/\(∀j,j<a.length->pm a y j (l++[nc (o:Int) 1 (y:Int),nc (o:Int) (-1) (y:Int)])=_)/\(∀t∈l++[nc (o:Int) 1 (y:Int),nc (o:Int) (-1) (y:Int)],_)/\(l++[nc (o:Int) 1 (y:Int),nc (o:Int) (-1) (y:Int)]).length=_;rw[n];refine⟨?_,λj x=>?_,?_,?_⟩
  .rw[qV,qV,q];simp only[sm,A,B,gC,cP];unfold c1 c2;omega
  .have:=s j x;unfold pm at this ⊢;rw[qV,qV,this];simp only[sm,A,B];unfold pL gH c1 c2;simp only[nc];by_cases e:o=j
   .subst e;simp
   .have e':¬((o:Int)=(j:Int)):=by omega
    simp[e']
  .intro t d;rcases fx.1 d with d|d
   .exact z t d
   .rcases fM.1 d with rfl|d
    .exact⟨_,_,_,_,D⟩
    .rw[ia]at d;subst d;exact⟨_,_,_,_,t2⟩
  .simp;omega
 .rintro l ⟨q,s,z,F⟩;rw[gF,vx]at q s;refine⟨by rw[q,Kg],λj x=>by rw[s j x,Ki,bE x],z,by omega⟩
theorem abb{a:List Int}(h:ob a){s y fu:Nat}{f:Nat->Bool}(A:y<=60)(B:1<=y)(hs:s<=10000)(hf:7000<=fu):
 we fu a ((s:Int),cl f a.length,(y:Int))=bif decide ((y:Int)>=(a.length:Int))then((bh (cl (λj=>f j&&good a y j) a.length) (0:Int)).bind λC=>some (.ret (C,((s+ke a y f a.length:Nat):Int))))else some (.go (((s+ke a y f a.length:Nat):Int),cl (λj=>f j&&good a y j) a.length,ap ((y:Int)*2))):=by
 have h1:=h.n1;have h2:=h.n2;have hb:=Ie h y f (k:=a.length) (dG _);unfold we;simp only;have q:gP (a.length:Int)=some a.length:=by unfold gP;rw[bE O];rfl
 rw[q,ae];obtain⟨W,q0,q1,q2,M,q4⟩:=acd h (f:=f) A B;rw[q0,ae];have V:cc (cw (wg a (y:Int)) fu ((s:Int),W,List.replicate a.length (0:Int))) λo=>∃g,o=.inl (((s+ke a y f a.length:Nat):Int),[],g)/\f9 g a.length (λj=>((rq a y f j:Nat):Int)):=by
  refine lW (λz=>∃P f',QH a y (s+ke a y f a.length) (rq a y f) z P f') (λz=>sm (λt=>t.left.toNat) z.2.1) ?_ ?_ ?_
  .exact⟨s,λ_=>0,X,by rw[q1],f9.rep,λj p=>by rw[gF];exact q2 j p,M,by simp only;omega⟩
  .have:=N4 A M;simp only;omega
  .rintro z ⟨P,f',L⟩;refine cc.mono (Zd h A O (λj _=>Jc.1) L) λo x=>?_
   cases o with
   |go Q=>exact x
   |brk Q=>obtain⟨rfl,e⟩:=x;obtain⟨s0,l,g⟩:=Q;obtain⟨D,m,F,H,_,_⟩:=L;simp only at e D m F H;subst e;simp only[sm,lj]at m;refine⟨g,by rw[D,m],F.to λj p=>?_⟩;have:=H j p;simp only[pm,sm,lj]at this;rw[this]
   |ret t=>exact x.elim
 obtain⟨_,e,g,rfl,K⟩:=V;rw[e];have d:bC (zK g) g.length 0 ([]:List Int)=some (cl (λj=>f j&&good a y j) a.length):=by
  refine oK ?_;rw[K.1];refine kU (λi l=>l=cl (λj=>f j&&good a y j) i) X ?_ λl T=>by rw[T,gF]
  rintro i _ _ hi rfl;have S:=Fi (λj=>f j&&good a y j) i;unfold zK;rw[K.bh O,ae,Jc.2,cl,fc];constructor
  .intro n;rw[dm (by simp;omega),ae,bE n];exact co.2 X
  .intro n;rw[ca (by rw[n];decide),is];exact co.2 X
 simp only[andThen,ae,Sum.elim_inl];rw[d];rfl
theorem Xb{l:List Bool}{n:Nat}{f:Nat->Bool}(a:f9 l n f){i:Nat}(hi:i<n)(e:f i=true)(g:∀j,j<i->f j=false):gE (true==·) l=(i:Int):=by rw[Ca];refine⟨true,by rw[a.2 i hi,e],X,λj y h d=>?_⟩;rw[a.2 j O,g j h]at d;cases d;rfl
theorem Lr{a:List Int}(h:ob a){m:Nat}(g:ES a m){fu:Nat}(t:7000<=fu):∀(k s y:Nat)(f:Nat->Bool)(l:List Bool),f9 l a.length f->f m=true->1<=y->y<=60->s<=120*y->a.length-y<k->
 ∃r T:Int,cw (wM fu a) k ((s:Int),(y:Int),l)=some (.inr (r,T,0))/\cw (we fu a) k ((s:Int),cl f a.length,(y:Int))=some (.inr (r,T))/\(0<=r/\r<=30)/\0<=T/\T<=20000
 |0,s,y,f,l,_,_,_,_,_,C=>by omega
 |k+1,s,y,f,l,D,n,o,x,W,C=>by
  have P:=h.n1;have Q:=h.n2;have S:=Ie h y f (k:=a.length) (dG _);obtain⟨p,M,z⟩:=abl h D x (s:=s) O (fu:=fu) O;have e:(f m&&good a y m)=true:=by rw[n];unfold good c1 c2;rw[Ft g,Ft g];rfl
  have B:wM fu a ((s:Int),(y:Int),l)=bif decide ((y:Int)>=(a.length:Int))then((wX p true).bind λq=>some (.ret (q,((s+ke a y f a.length:Nat):Int),0)))else some (.go (((s+ke a y f a.length:Nat):Int),ap ((y:Int)*2),p)):=by unfold wM;simp only;rw[M,ae]
  unfold cw;rw[abb h x o (s:=s) O t,B];by_cases V:y>=a.length
  .have d:decide ((y:Int)>=(a.length:Int))=true:=c0 O;obtain⟨i,F,H,K,L⟩:=Kh (f:=λj=>f j&&good a y j) a.length ⟨m,g.lt,e⟩;refine⟨(i:Int),((s+ke a y f a.length:Nat):Int),?_,?_,by omega,by omega⟩
   .rw[d,bG,UT,Xb z F H K];rfl
   .rw[d,bG,show(0:Int)=((0:Nat):Int)from X,cK,L];rfl
  .have d:decide ((y:Int)>=(a.length:Int))=false:=cm O;have A:ap ((y:Int)*2)=((y*2:Nat):Int):=by rw[bT O O];rfl
   rw[d,aS,aS,A];exact Lr h g t k _ (y*2) _ p z e O O O O
theorem VW{a:List Int}(h:ob a){m:Nat}(t:ES a m)(q:wL a=some 0){fu:Nat}(s:7000<=fu):
 ∃r T:Int,qS fu a=some (r,T,0)/\uf fu a=some (r,T)/\(0<=r/\r<=30)/\0<=T/\T<=20000:=by
 have p:=h.n1;have C:=h.n2;obtain⟨r,T,y,z,A,B⟩:=Lr h t s fu 0 1 (λ_=>true) (List.replicate a.length true) f9.rep X (dG _) O O O;refine⟨r,T,?_,?_,A,B⟩
 .unfold qS;rw[q,ae,show((0:Int)!=0)=false from X,aS,UU p O O,ae];rw[show(0:Int)=((0:Nat):Int)from X,show(1:Int)=((1:Nat):Int)from X,y];rfl
 .unfold uf;have g:gP (a.length:Int)=some a.length:=by unfold gP;rw[bE O];rfl
  rw[g,ae];have d:bC (zI) ((List.replicate a.length (0:Int)).length) 0 (List.replicate a.length (0:Int))=some (cl (λ_=>true) a.length):=by
   refine oK ?_;rw[pD];refine kU (λi l=>f9 l a.length (λj=>if j<i then(j:Int)else 0)) ?_ ?_ ?_
   .exact f9.rep.to λj _=>by rw[ca O]
   .intro i l _ hi e;unfold zI;rw[e.bh O,ae,eg,cP];refine co.2 ((e.set i (i:Int)).to λj n=>?_);by_cases k:j=i
    .subst k;rw[sD,bE O]
    .rw[sC k];by_cases o:j<i
     .rw[bE o,bE O]
     .rw[ca o,ca O]
   .intro l e;rw[gF]at e;have f:∀k,f9 (cl (λ_=>true) k) k (λj=>(j:Int)):=by
     intro k
     induction k with
     |zero=>exact f9.nil
     |succ k x=>unfold cl;rw[bE X];exact x.snoc X
    exact(e.to λj n=>by rw[bE n]).ext (f _)
  rw[d,ae];rw[show(0:Int)=((0:Nat):Int)from X,show(1:Int)=((1:Nat):Int)from X,z];rfl
theorem VV(a:List Int){fu:Nat}(k:7000<=fu):∃e p T:Int,pN a=some e/\(e=0\/e=1\/e=4)/\qS fu a=some (p,T,e)/\(e=0->uf fu a=some (p,T)/\(0<=p/\p<=30)/\0<=T/\T<=20000):=by
 obtain⟨e,j,d⟩:=oe a;have i:=Fg a;rw[j]at i;by_cases f:e=0
 .subst f;have h:=d.1 X;obtain⟨m,n,l⟩:=L7 (a:=a) a.length h.n1 (dG _);obtain⟨r,T,o,q,s,t⟩:=VW h ⟨n,l⟩ i k;exact⟨0,r,T,j,.inl X,o,λ_=>⟨q,s,t⟩⟩
 .have g:(e !=0)=true:=by simpa using f
  exact⟨e,0,0,j,d.2,by unfold qS;rw[i,ae,g,bG],λh=>absurd h f⟩
end Go.Proofs.YteagbdjohkfneaaGreatDoor.R
namespace Go.Proofs.YteagbdjohkfneaaGreatDoor
open an
structure SI(D:Nat)(a:AW)(g:List (Int×Int)):Prop where
 ga:GA (17*D) a
 pv:∃base,PV base a
 os:OS D a
 mb:Mb a
 aI:gx g a
 n3:a.ps.length=3
theorem SI.mono{D E:Nat}{a:AW}{g:List (Int×Int)}(h:SI D a g)(d:D<=E):SI E a g:=⟨h.ga.mono O,h.pv,h.os.mono d,h.mb,h.aI,h.n3⟩
theorem SI.step{fu D:Nat}{a:AW}{g:List (Int×Int)}(dL:2^16<fu)(h:SI D a g)(hD:D<=1000000)(d:nU):
 ∃e,Hh fu a.w d=some ((eU fu a d).1.w.all,(eU fu a d).1.w,(eU fu a d).2)/\Hi fu (a.r g) d=some (e,(eU fu a d).1.r e,(eU fu a d).2)/\SI (D+1) (eU fu a d).1 e:=by
 obtain⟨base,f⟩:=h.pv;obtain⟨i,j⟩:=UF (fu:=fu) O h.ga O d;obtain⟨e,k,l,m,n⟩:=UG (fu:=fu) dL h.os f h.ga O O h.mb h.aI d;exact⟨e,i,k,j.mono O,f.do h.ga (fu:=fu) O d,n,m,l,by rw[CF];exact h.n3⟩
theorem Ul(a:AW)(p:Int):0<=gm a p/\gm a p<=100:=by unfold gm;cases !dt a p<;>cases !act a p<;>simp
theorem mL:(0:Int)<=0/\(0:Int)<=100:=by decide
theorem tB:(0:Int)<=1/\(1:Int)<=100:=by decide
theorem GE:(0:Int)<=8/\(8:Int)<=100:=by decide
theorem Uk{v:bB}{g:BitVec 8}{r:bB×Int}(h:oV v g 0=some r):0<=r.2/\r.2<=100:=by
 unfold oV at h;obtain⟨c,d,h⟩:=bind_some h;have f:0<=c/\c<=100:=by unfold q5 at d;obtain⟨n,-,d⟩:=bind_some d;obtain⟨o,-,d⟩:=bind_some d;obtain⟨i,-,d⟩:=bind_some d;cases i<;>(cases d;omega)
 cases e:(c !=0)with
 |true=>rw[e]at h;cases h;exact f
 |false=>
 rw[e,aS]at h;obtain⟨m,-,h⟩:=bind_some h;obtain⟨j,-,h⟩:=bind_some h
 cases j with
 |true=>cases h;exact tB
 |false=>
 rw[aS]at h
 cases l:(v.ce==(16777215:Int))with
 |true=>rw[l]at h;cases h;exact GE
 |false=>
 rw[l,aS]at h;obtain⟨k,-,h⟩:=bind_some h
 cases k with
 |true=>cases h;exact mL
 |false=>cases h;exact(by decide:(0:Int)<=11/\(11:Int)<=100)
theorem vd(fu:Nat)(a:AW)(d:nU):0<=(eU fu a d).2/\(eU fu a d).2<=100:=by
 have e:=Ul a d.dn;unfold eU
 cases d.aX==1 with
 |true=>
  rw[bG];unfold iM
  cases gm a d.dn !=0 with
  |true=>exact e
  |false=>
  cases decide (d.aY.length>150)with
  |true=>exact(by decide:(0:Int)<=2/\(2:Int)<=100)
  |false=>
  cases decide (a.ah.length=60)with
  |true=>exact GE
  |false=>
  cases a.ps[d.dn.toNat]? with
  |none=>exact mL
  |some x=>cases h:jZ x.aF<;>simp[h]
 |false=>
 cases d.aX==2 with
 |true=>
  rw[aS,bG];unfold jW
  cases gm a d.dn !=0 with
  |true=>exact e
  |false=>cases a.ps[d.dn.toNat]?<;>exact mL
 |false=>
 cases d.aX==3 with
 |true=>
  simp only[aS,bG];unfold iw
  cases !(decide (d.gZ>=1)&&decide (d.gZ<=3))with
  |true=>exact tB
  |false=>
  cases !(decide (d.dn>=0)&&decide (d.dn<=(a.ah.length:Int)-1))with
  |true=>exact(by decide:(0:Int)<=6/\(6:Int)<=100)
  |false=>
  cases (d.gZ==3)&&decide (a.ah.length=60)with
  |true=>exact GE
  |false=>
  cases a.ah[d.dn.toNat]? with
  |none=>exact mL
  |some n=>cases h:d.gZ==3<;>simp[h]
 |false=>
 cases d.aX==4 with
 |true=>
  simp only[aS,bG];unfold gD
  cases !dt a d.dn with
  |true=>exact tB
  |false=>cases a.ps[d.dn.toNat]?<;>exact mL
 |false=>
 cases d.aX==5 with
 |true=>
  simp only[aS,bG];unfold iC
  cases h:(gv a.aO (ge a).1).2 !=0 with
  |true=>
   rw[bG];unfold gv at h ⊢
   cases f:oV a.aO (ge a).1 0 with
   |none=>exact tB
   |some r=>exact Uk f
  |false=>exact mL
 |false=>exact tB
def tg(e:Int)(t:Y):Y:=bif e !=0 then om++d9 e else t
def e8{ρ:Type}(K:List bw->List Y->aZ->Y->Int->ρ)(D:Nat)(x:Option ρ)(y:Option (List (Int×Int)×bi×Y)):Prop:=
 ∃(a:AW)(g:List (Int×Int))(t:Y)(e:Int),x=some (K a.w.all a.w.aK a.w t e)/\y=some (g,a.r g,tg e t)/\(0<=e/\e<=100)/\SI D a g
theorem e8.of{ρ:Type}{K:List bw->List Y->aZ->Y->Int->ρ}{D E:Nat}{a:AW}{g:List (Int×Int)}(h:SI D a g)(d:D<=E){e:Int}(f:0<=e/\e<=100){t:Y}{x:Option ρ}{y:Option (List (Int×Int)×bi×Y)}(i:x=some (K a.w.all a.w.aK a.w t e))(j:y=some (g,a.r g,tg e t)):e8 K E x y:=
 ⟨a,g,t,e,i,j,f,h.mono d⟩
def K4:List bw->List Y->aZ->Y->Int->List bw×aZ×Y×Int:=λp _ w t e=>(p,w,t,e)
def K5:List bw->List Y->aZ->Y->Int->List bw×List Y×aZ×Y×Int:=λp o w t e=>(p,o,w,t,e)
theorem xf{e:Int}(h:0<=e/\e<=100):fp e ([111,107]:Y)=some (tg e (bif e !=0 then[]else[111,107])):=by rw[lx h.1 h.2];unfold tg;cases e !=0<;>rfl
theorem CK{d:List bw}{j:List Y}{W:aZ}{e:Int}{b:AW}(f:d=b.w.all)(i:j=b.w.aK)(k:W=b.w):
 (andThen ((gB e).bind λq=>bif q !=(0:Int)then some (.inr (d,j,W,([]:Y),q))else some (.inl (W,d,j))) λ(x:aZ×List bw×List Y)=>some (x.2.1,x.2.2,({x.1 with all:=x.2.1,aK:=x.2.2}:aZ),([111,107]:Y),(0:Int)))=some (K5 b.w.all b.w.aK b.w (bif e !=0 then[]else[111,107]) e):=by
 subst f i k;unfold gB
 cases h:(e !=0)with
 |true=>rw[bG,ae,h];rfl
 |false=>
  obtain rfl:e=0:=by simpa using h
  rfl
theorem Mo{d:List bw}{W:aZ}{e:Int}{b:AW}(f:d=b.w.all)(i:W=b.w):
 ((gB e).bind λq=>bif q !=(0:Int)then some (d,W,([]:Y),q)else some (d,W,([111,107]:Y),(0:Int)))=some (K4 b.w.all b.w.aK b.w (bif e !=0 then[]else[111,107]) e):=by
 subst f i;unfold gB
 cases h:(e !=0)with
 |true=>rw[bG,ae,h];rfl
 |false=>
  obtain rfl:e=0:=by simpa using h
  rfl
section
variable {fu D:Nat}{a:AW}{g:List (Int×Int)}(dL:2^16<fu)(h:SI D a g)(hD:D<=1000000)
include dL h hD
theorem abw(p:Int)(t:Y):e8 K4 (D+1)
 ((q8 a.w p t).bind λd=>(gB d.2.2.2).bind λf=>bif f !=(0:Int)then(some (d.1,({d.2.2.1 with all:=d.1,aK:=a.w.aK,ah:=d.2.1}:aZ),([]:Y),f))else
  some (d.1,({d.2.2.1 with all:=d.1,aK:=a.w.aK,ah:=d.2.1}:aZ),([111,107]:Y),(0:Int)))
 ((qO fu (a.r g) p t).bind λi=>(fp i.2.2 ([111,107]:Y)).bind λm=>some ((a.r g).aI,({i.2.1 with aI:=(a.r g).aI,bd:=(a.r g).bd,bf:=(a.r g).bf,bj:=i.1}:bi),m)):=by
 obtain⟨o,c1,c2,n⟩:=h.step dL hD ⟨1,p,0,t⟩;have j:=vd fu a ⟨1,p,0,t⟩;generalize eU fu a ⟨1,p,0,t⟩=z at c1 c2 n j;obtain⟨b,e⟩:=z;obtain⟨x,q,k⟩:=bind_some (show(q8 a.w p t).bind _=_ from c1);obtain⟨y,s,l⟩:=bind_some (show(qO fu (a.r g) p t).bind _=_ from c2);simp only[mi,rO]at k l j;rw[q,s,ae,ae,k.2.2,l.2.2,l.2.1,l.1,xf j];exact⟨b,o,_,e,Mo k.1 k.2.1,X,j,n⟩
theorem TV:e8 K4 (D+1)
 ((sJ a.w).bind λd=>(gB d.2.2).bind λi=>bif i !=(0:Int)then(some (d.1,({d.2.1 with all:=d.1,ah:=a.w.ah}:aZ),([]:Y),i))else
  some (d.1,({d.2.1 with all:=d.1,ah:=a.w.ah}:aZ),([111,107]:Y),(0:Int)))
 ((sg fu (a.r g)).bind λf=>(fp f.2 ([111,107]:Y)).bind λj=>some ((a.r g).aI,({f.1 with aI:=(a.r g).aI,bj:=(a.r g).bj}:bi),j)):=by
 obtain⟨o,c1,c2,n⟩:=h.step dL hD ⟨5,0,0,[]⟩;have k:=vd fu a ⟨5,0,0,[]⟩;generalize eU fu a ⟨5,0,0,[]⟩=z at c1 c2 n k;obtain⟨b,e⟩:=z;obtain⟨x,p,l⟩:=bind_some (show(sJ a.w).bind _=_ from c1);obtain⟨y,q,m⟩:=bind_some (show(sg fu (a.r g)).bind _=_ from c2);simp only[mi,rO]at l m k;rw[p,q,ae,ae,l.2.2,m.2.2,m.2.1,m.1,xf k];exact⟨b,o,_,e,Mo l.1 l.2.1,X,k,n⟩
theorem Tm(w:Y)(m:okW w=true)(l:List Y):e8 K5 (D+1) (lH fu a.w ([97,103,97,105,110]:Y) w) (lv fu (a.r g) ([97,103,97,105,110]:Y) (cT 0 w) l):=by obtain⟨k,c1,c2,j⟩:=h.step dL hD ⟨2,cT 0 w,0,[]⟩;have f:=vd fu a ⟨2,cT 0 w,0,[]⟩;generalize eU fu a ⟨2,cT 0 w,0,[]⟩=z at c1 c2 j f;obtain⟨b,e⟩:=z;obtain⟨x,n,d⟩:=bind_some (show(sI a.w (cT 0 w)).bind _=_ from c1);obtain⟨y,o,i⟩:=bind_some (show(sf fu (a.r g) (cT 0 w)).bind _=_ from c2);simp only[mi,rO]at d i f;show e8 K5 _ (andThen ((iT fu w).bind _) _) ((sf fu (a.r g) (cT 0 w)).bind _);rw[ol O,bE m,ae];show e8 K5 _ (andThen ((sI a.w (cT 0 w)).bind _) _) _;rw[n,o,ae,ae,d.2.2,i.2.2,i.2.1,i.1,xf f];exact⟨b,k,_,e,CK d.1 (by rw[<-d.2.1]) d.2.1,X,f,j⟩
theorem U2(w:Y)(m:okW w=true)(l:List Y):e8 K5 (D+1) (lH fu a.w ([102,97,108,108]:Y) w) (lv fu (a.r g) ([102,97,108,108]:Y) (cT 0 w) l):=by obtain⟨k,c1,c2,j⟩:=h.step dL hD ⟨4,cT 0 w,0,[]⟩;have f:=vd fu a ⟨4,cT 0 w,0,[]⟩;generalize eU fu a ⟨4,cT 0 w,0,[]⟩=z at c1 c2 j f;obtain⟨b,e⟩:=z;obtain⟨x,n,d⟩:=bind_some (show(sL a.w (cT 0 w)).bind _=_ from c1);obtain⟨y,o,i⟩:=bind_some (show(sh (a.r g) (cT 0 w)).bind _=_ from c2);simp only[mi,rO]at d i f;show e8 K5 _ (andThen ((iT fu w).bind _) _) ((sh (a.r g) (cT 0 w)).bind _);rw[ol O,bE m,ae];show e8 K5 _ (andThen ((sL a.w (cT 0 w)).bind _) _) _;rw[n,o,ae,ae,d.2.2,i.2.2,i.2.1,i.1,xf f];exact⟨b,k,_,e,CK d.1 (by rw[<-d.2.1]) d.2.1,X,f,j⟩
theorem XQ(w:Y)(m:okW w=true)(l:List Y):e8 K5 (D+1) (lH fu a.w ([108,111,115,101]:Y) w) (lv fu (a.r g) ([108,111,115,101]:Y) (cT 0 w) l):=by obtain⟨k,c1,c2,j⟩:=h.step dL hD ⟨3,cT 0 w,2,[]⟩;have f:=vd fu a ⟨3,cT 0 w,2,[]⟩;generalize eU fu a ⟨3,cT 0 w,2,[]⟩=z at c1 c2 j f;obtain⟨b,e⟩:=z;obtain⟨x,n,d⟩:=bind_some (show(nd fu a.w (cT 0 w) 2).bind _=_ from c1);obtain⟨y,o,i⟩:=bind_some (show(mZ fu (a.r g) (cT 0 w) 2).bind _=_ from c2);simp only[mi,rO]at d i f;show e8 K5 _ (andThen ((iT fu w).bind _) _) ((mZ fu (a.r g) (cT 0 w) 2).bind _);rw[ol O,bE m,ae];show e8 K5 _ (andThen ((nd fu a.w (cT 0 w) 2).bind _) _) _;rw[n,o,ae,ae,d.2.2,i.2.2,i.2.1,i.1,xf f];exact⟨b,k,_,e,CK d.1 (congrArg aZ.aK d.2.1) d.2.1,X,f,j⟩
theorem acp(w:Y)(m:okW w=true)(l:List Y):e8 K5 (D+1) (lH fu a.w ([116,97,107,101]:Y) w) (lv fu (a.r g) ([116,97,107,101]:Y) (cT 0 w) l):=by obtain⟨k,c1,c2,j⟩:=h.step dL hD ⟨3,cT 0 w,1,[]⟩;have f:=vd fu a ⟨3,cT 0 w,1,[]⟩;generalize eU fu a ⟨3,cT 0 w,1,[]⟩=z at c1 c2 j f;obtain⟨b,e⟩:=z;obtain⟨x,n,d⟩:=bind_some (show(nd fu a.w (cT 0 w) 1).bind _=_ from c1);obtain⟨y,o,i⟩:=bind_some (show(mZ fu (a.r g) (cT 0 w) 1).bind _=_ from c2);simp only[mi,rO]at d i f;show e8 K5 _ (andThen ((iT fu w).bind _) _) ((mZ fu (a.r g) (cT 0 w) 1).bind _);rw[ol O,bE m,ae];show e8 K5 _ (andThen ((nd fu a.w (cT 0 w) 1).bind _) _) _;rw[n,o,ae,ae,d.2.2,i.2.2,i.2.1,i.1,xf f];exact⟨b,k,_,e,CK d.1 (congrArg aZ.aK d.2.1) d.2.1,X,f,j⟩
end
theorem X3{fu:Nat}{a:AW}(h:0<a.ah.length):(eU fu a ⟨3,0,1,[]⟩).2=0:=by show(iw fu a 0 1).2=0;unfold iw;rw[show(!(decide ((1:Int)>=1)&&decide ((1:Int)<=3)))=false from X,show(!(decide ((0:Int)>=0)&&decide ((0:Int)<=(a.ah.length:Int)-1)))=false by simp;omega,aS,aS,show(((1:Int)==3)&&decide (a.ah.length=60))=false from X,aS];cases a.ah[(0:Int).toNat]?<;>rfl
theorem KI{fu D n:Nat}{g:List (Int×Int)}(dL:2^16<fu)(L:n<=10000)(hD:D<=900000):∀(k i:Nat)(b:AW),n-i<k->i<=n->SI (D+i) b g->∃(j:Nat)(c:AW),j<=n/\SI (D+n) c g/\
 cw (rC fu (n:Int)) k ((i:Int),b.w,b.w.all,b.w.aK)=some (.inl ((j:Int),c.w,c.w.all,c.w.aK))/\
 ∀f:bi,f.aI=g->cw (qQ fu f (n:Int)) k ((i:Int),b.r g,(b.r g).bd,(b.r g).bf)=some (.inl ((j:Int),c.r g,(c.r g).bd,(c.r g).bf))
 |0,i,b,K,_,_=>by omega
 |k+1,i,b,K,hi,A=>by
  have M:b.w.ah.length=b.ah.length:=by show(b.ah.map gl).length=_;rw[fk]
  by_cases B:i<n/\0<b.ah.length
  .obtain⟨F,c1,c2,t⟩:=A.step dL O ⟨3,0,1,[]⟩;have q:=X3 (fu:=fu) B.2;generalize eU fu b ⟨3,0,1,[]⟩=z at c1 c2 t q;obtain⟨c,e⟩:=z;simp only at q;subst q;obtain⟨x,S,m⟩:=bind_some (show(nd fu b.w 0 1).bind _=_ from c1);obtain⟨y,T,s⟩:=bind_some (show(mZ fu (b.r g) 0 1).bind _=_ from c2);simp only[mi,rO]at m s;obtain rfl:g=F:=s.1;obtain⟨j,d,H,hd,P,Q⟩:=KI (D:=D) dL L hD k (i+1) c O O t;have C:ap ((i:Int)+1)=((i+1:Nat):Int):=by rw[bT O O];rfl
   refine⟨j,d,H,hd,?_,λf o=>?_⟩
   .have l:rC fu (n:Int) ((i:Int),b.w,b.w.all,b.w.aK)=some (.go (((i+1:Nat):Int),c.w,c.w.all,c.w.aK)):=by
     unfold rC xr;simp only;rw[c0 (show(i:Int)<n by omega),bG,ae,c0 (show(b.w.ah.length:Int)>0 by omega),bG,show({b.w with all:=b.w.all,aK:=b.w.aK}:aZ)=b.w from X,S,ae,m.2.2,C,m.2.1,m.1,show x.2.1=c.w.aK by rw[<-m.2.1]];rfl
    unfold cw;rw[l];exact P
   .have l:qQ fu f (n:Int) ((i:Int),b.r g,(b.r g).bd,(b.r g).bf)=some (.go (((i+1:Nat):Int),c.r g,(c.r g).bd,(c.r g).bf)):=by
     unfold qQ;simp only;rw[c0 (show(i:Int)<n by omega),bG,ae,c0 (show((b.r g).bj.length:Int)>0 from(by have:=B.2;show(b.ah.length:Int)>0;omega)),bG,o,show({b.r g with aI:=g,bd:=(b.r g).bd,bf:=(b.r g).bf}:bi)=b.r g from X,T,ae,C];have p:=s.2.1;rw[show(b.r g).aI=g from X]at p;rw[p,show y.1=(c.r g).bd by rw[<-p],show y.2.1=(c.r g).bf by rw[<-p]]
    unfold cw;rw[l];exact Q f o
  .refine⟨i,b,hi,A.mono O,?_,λf o=>?_⟩
   .have l:rC fu (n:Int) ((i:Int),b.w,b.w.all,b.w.aK)=some (.brk ((i:Int),b.w,b.w.all,b.w.aK)):=by
     unfold rC xr;simp only;by_cases V:i<n
     .rw[c0 (show(i:Int)<n by omega),bG,ae,cm (show ¬(b.w.ah.length:Int)>0 by omega)];rfl
     .rw[cm (show ¬(i:Int)<n by omega)];rfl
    unfold cw;rw[l];rfl
   .have l:qQ fu f (n:Int) ((i:Int),b.r g,(b.r g).bd,(b.r g).bf)=some (.brk ((i:Int),b.r g,(b.r g).bd,(b.r g).bf)):=by
     unfold qQ;simp only
     rw[iR,ae,show(decide ((i:Int)<n)&&decide (((b.r g).bj.length:Int)>0))=false from(by
      show(decide ((i:Int)<n)&&decide ((b.ah.length:Int)>0))=false
      simp only[oD,lm];omega),aS,o]
     rfl
    unfold cw;rw[l];rfl
theorem UH{fu D:Nat}{a:AW}{g:List (Int×Int)}(dL:2^16<fu)(h:SI D a g)(hD:D<=900000)(w:Y)(f:okW w=true)(l:List Y):e8 K5 (D+10000) (lH fu a.w ([100,114,97,105,110]:Y) w) (lv fu (a.r g) ([100,114,97,105,110]:Y) (cT 0 w) l):=by
 have i:=pM f;obtain⟨n,e⟩:=iq i.1;obtain⟨j,c,o,hd,k,m⟩:=KI (n:=n) dL O hD fu 0 a O O h;have d:strconv_Itoa (j:Int)=some (d9 j):=GI O O;refine e8.of hd O mL (t:=d9 j) ?_ ?_
 .show andThen ((iT fu w).bind _) _=_;rw[ol O,bE f,ae];show andThen ((yc fu a.w (cT 0 w)).bind _) _=_;unfold yc;rw[e,show((0:Int),a.w,a.w.all,a.w.aK)=(((0:Nat):Int),a.w,a.w.all,a.w.aK)from X,k,jK];simp only[d,ae];rfl
 .show(andThen (cw (qQ fu (a.r g) (cT 0 w)) fu ((0:Int),a.r g,(a.r g).bd,(a.r g).bf)) _)=_;rw[e,show((0:Int),a.r g,(a.r g).bd,(a.r g).bf)=(((0:Nat):Int),a.r g,(a.r g).bd,(a.r g).bf)from X,m (a.r g) X,jK];simp only[d,ae];rfl
def VB(v:Vector Int 10):Prop:=∀x∈v.toList,-1000000000<=x/\x<=1000000000
theorem VB.set{v:Vector Int 10}(h:VB v)(i:Nat){y:Int}(f:-1000000000<=y/\y<=1000000000):VB (v.setIfInBounds i y):=λx d=>by
 rw[show(v.setIfInBounds i y).toList=v.toList.set i y by simp]at d;rcases qu d with e|e
 .exact h x e
 .rw[e];exact f
theorem VB.cI{v:Vector Int 10}(h:VB v){i x:Int}(d:cI v i=some x):-1000000000<=x/\x<=1000000000:=by
 unfold Go.Proofs.YteagbdjohkfneaaGreatDoor.cI at d;split at d
 .exact h x (by simpa using Vector.mem_of_getElem? d)
 .cases d
theorem VB.run{v w:Vector Int 10}(h:VB v){c:db}(d:uB v c=some w):VB w:=by
 unfold uB at d;obtain⟨x,k,d⟩:=bind_some d;have m:=h.cI k;simp only[Kl,ae,eg]at d
 cases e:c.aX==(1:Int)with
 |true=>rw[e]at d;cases d;exact h.set _ O
 |false=>
 rw[e,aS]at d
 cases f:c.aX==(2:Int)with
 |true=>rw[f]at d;cases d;exact h.set _ O
 |false=>
 rw[f,aS]at d
 cases i:c.aX==(3:Int)with
 |true=>rw[i]at d;cases d;exact h.set _ O
 |false=>
 rw[i,aS]at d
 cases j:c.aX==(4:Int)with
 |true=>rw[j,bG]at d;obtain⟨y,l,d⟩:=bind_some d;cases d;exact h.set _ (h.cI l)
 |false=>rw[j]at d;cases d;exact h
theorem VB.val(fu:Nat)(l:List aG):VB (qZ fu l):=by
 have f:VB (Vector.replicate 10 (0:Int)):=λx n=>by
  have:x=0:=by simpa using n
  omega
 unfold qZ
 cases e:su fu (Vector.replicate 10 (0:Int)) (l.map (·.aY))with
 |none=>exact f
 |some r=>
  unfold su at e;obtain⟨z,o,e⟩:=bind_some e;cases e;refine ND (λ_(s:Int×Vector Int 10)=>VB s.2) _ _ _ _ o f λj s p _ k d=>?_;unfold wP at d;obtain⟨x,-,d⟩:=bind_some d;obtain⟨q,-,d⟩:=bind_some d
  cases i:(q.2 !=(0:Int))with
  |true=>rw[i]at d;cases d;exact k
  |false=>rw[i,aS]at d;obtain⟨w,m,d⟩:=bind_some d;cases d;exact VB.run k m
def Yi(v:Vector Int 10)(n m:Nat):Y:=(((d9 n++([32]:Y))++d9 m)++([32]:Y))++(hY v.toList++[46])
theorem Yk{B fu:Nat}{a:AW}(dL:2^21+400<fu)(h:GA B a)(t:B<=2^29){p:Int}(hp:0<=p):tk fu a.w p=some (match a.ps[p.toNat]? with|some x=>(Yi (qZ fu x.bq) x.bq.length x.aF.aR.length,0)|none=>([],1)):=by
 obtain⟨i,rfl⟩:=iq hp;rw[cP];unfold tk;by_cases hi:i<a.ps.length
 .have d:a.ps[i]?=some a.ps[i]:=by simp[hi]
  have f:=h.ps a.ps[i] (j6 hi);have q:=f.bq;have s:=f.late;obtain⟨n,z⟩:=qt (x:=(a.ps[i].bq.length:Int)) ⟨by omega,by omega⟩;obtain⟨o,A⟩:=qt (x:=(a.ps[i].aF.aR.length:Int)) ⟨by omega,by omega⟩;have k:∀x∈(qZ fu a.ps[i].bq).toList,IR x:=λx d=>by have:=VB.val fu _ x d;exact⟨by omega,by omega⟩
  have l:=D4 k;rw[d,Ma h O hi,ae,Xx h hi];simp only[gB,iW,aS,ae];rw[acD dL h O hi];simp only[iW,aS,ae];rw[n,ae,dm (by simp;omega),ae,o,ae,dm (by simp;omega),ae,dm (by simp;omega),ae,D6 (by simp) k,ae,dm (by simp at l ⊢;omega),ae];rfl
 .have m:dt a (i:Int)=false:=by
   rw[rR];intro c;obtain⟨j,e,y⟩:=fN.1 c;omega
  rw[XP h.n m,ae,show a.ps[i]?=none by simp;omega];rfl
theorem Yj{fu D:Nat}{a:AW}{g:List (Int×Int)}(dL:2^21+400<fu)(h:SI D a g)(hD:D<=1000000)(w:Y)(H:okW w=true)(l:List Y):e8 K5 D (lH fu a.w ([111,102]:Y) w) (lv fu (a.r g) ([111,102]:Y) (cT 0 w) l):=by
 have F:=pM H;have k:=Yk (fu:=fu) dL h.ga O F.1;obtain⟨i,hi⟩:=iq F.1;have K:∀t e,tk fu a.w (cT 0 w)=some (t,e)->lH fu a.w ([111,102]:Y) w=some (K5 a.w.all a.w.aK a.w (bif e !=0 then[]else t) e):=by
  intro t e P;show andThen ((iT fu w).bind _) _=_;rw[ol O,bE H,ae];show andThen ((tk fu a.w (cT 0 w)).bind _) _=_;rw[P,ae]
  cases L:(e !=0)with
  |true=>rfl
  |false=>
   obtain rfl:e=0:=by simpa using L
   rfl
 have n:∀y,(bif decide (cT 0 w>=(3:Int))then((fp (1:Int) ([]:Y)).bind λq=>some ((a.r g).aI,a.r g,q))else
  (wn fu (a.r g) (cT 0 w)).bind λs=>(cI (a.r g).dr (cT 0 w)).bind λz=>(strconv_Itoa (z.length:Int)).bind λd=>(room d ([32]:Y)).bind λ_=>(cI (a.r g).aR (cT 0 w)).bind λA=>(strconv_Itoa (A.aR.length:Int)).bind λf=>
  (room (d++([32]:Y)) f).bind λ_=>(room ((d++([32]:Y))++f) ([32]:Y)).bind λ_=>(oQ s.toList).bind λj=>(room (((d++([32]:Y))++f)++([32]:Y)) j).bind λ_=>some ((a.r g).aI,a.r g,(((d++([32]:Y))++f)++([32]:Y))++j))=some y->
  lv fu (a.r g) ([111,102]:Y) (cT 0 w) l=some y:=by
  intro y Q;rw[<-Q];show(bif decide (cT 0 w>=(a.ps.length:Int))then _ else _)=_;rw[h.n3];rfl
 rw[hi,cP]at k;by_cases B:i<a.ps.length
 .have p:a.ps[i]?=some a.ps[i]:=by simp[B]
  have C:i<6:=by have:=h.n3;omega
  have m:=h.ga.ps a.ps[i] (j6 B);have V:=m.bq;have W:=m.late;obtain⟨S,i3⟩:=qt (x:=(a.ps[i].bq.length:Int)) ⟨by omega,by omega⟩;obtain⟨T,i4⟩:=qt (x:=(a.ps[i].aF.aR.length:Int)) ⟨by omega,by omega⟩;have o:∀x∈(qZ fu a.ps[i].bq).toList,IR x:=λx p=>by have:=VB.val fu _ x p;exact⟨by omega,by omega⟩
  have M:=D4 o;rw[p]at k;refine⟨a,g,_,0,K _ 0 (by rw[hi];exact k),n _ ?_,mL,h⟩;rw[hi,cm (by have:=h.n3;omega),aS,abs dL h.ga O B,ae,show(a.r g).dr=RV [] (·.bq) a.ps from X,oH C p,ae,S,ae,dm (by simp;omega),ae,show(a.r g).aR=RV aJ.zero (·.aF) a.ps from X,oH C p,ae,T,ae,dm (by simp;omega),ae,dm (by simp;omega),ae,A3 (by simp) o,ae,dm (by simp at M ⊢;omega),ae];rfl
 .rw[show a.ps[i]?=none by simp;omega]at k;refine⟨a,g,_,1,K _ 1 (by rw[hi];exact k),n _ ?_,tB,h⟩;rw[hi,c0 (by have:=h.n3;omega),bG,lx O O];rfl
section
variable {fu D:Nat}{a:AW}{g:List (Int×Int)}(dL:2^21+400<fu)(h:SI D a g)
include dL h
omit dL in
theorem mA{ρ:Type}{K:List bw->List Y->aZ->Y->Int->ρ}{e:Int}(d:0<=e/\e<=100){x:Option ρ}{y:Option (List (Int×Int)×bi×Y)}(f:x=some (K a.w.all a.w.aK a.w [] e))(i:y=(fp e ([]:Y)).bind λt=>some (g,a.r g,t)):e8 K D x y:=
 ⟨a,g,[],e,f,by rw[i,lx d.1 d.2];rfl,d,h⟩
theorem Lx(q:fu<=2^30){name:Y}(t:name=[115,116,97,109,112,115]\/name=[108,97,115,116]){l:List Y}(hl:l.length<=2^20)(C:∀s∈l,s.length<=2^20):
 e8 K4 D (jX fu a.w name l) ((ww fu name l).bind λy=>some (g,a.r g,y)):=by
 unfold ww;rw[U1 l O (λs i=>by have:=C s i;omega)];have hd:=U0 (fu:=fu) O l O (λs i=>by have:=C s i;omega);have f:(0:Int)<=12/\(12:Int)<=100:=by decide
 cases k:nr l with
 |none=>
  rw[k]at hd;refine mA h f ?_ (by rw[lx f.1 f.2];rfl);rcases t with rfl|rfl
  .show(mE fu l).bind _=_;rw[hd];rfl
  .show(mE fu l).bind _=_;rw[hd];rfl
 |some d=>
  rw[k]at hd;obtain⟨c,c1,c2,Q,S⟩:=H.Wq d (fu:=fu) O q;simp only;rw[c1,ae];by_cases p:c=0
  .subst p;obtain⟨s,vs,z,T,s3,V,n,W,v3,v4,v5⟩:=S X;have L:∀x∈s,IR x:=λx j=>by have:=V x j;exact⟨by omega,by omega⟩
   rcases t with rfl|rfl
   .refine⟨a,g,hY s++[46],0,?_,?_,mL,h⟩
    .show(mE fu l).bind _=_;rw[hd,ae];show(oT d).bind _=_;rw[z,ae];show(qd s).bind _=_;rw[D6 O L];rfl
    .show((ug fu d).bind _).bind _=_;rw[T,ae,A3 O L];rfl
   .by_cases K:d.length=0
    .have o:(0:Int)<=6/\(6:Int)<=100:=by decide
     refine mA h o ?_ ?_
     .show(mE fu l).bind _=_;rw[hd,ae];show(nS d).bind _=_;rw[n,ae];show(bif (vs.length:Int)==(0:Int)then _ else _)=_;rw[v3,K];rfl
     .show Option.bind (bif (d.length:Int)==(0:Int)then _ else _) _=_;rw[K,lx o.1 o.2];rfl
    .have m:vs.length-1<vs.length:=by omega
     have j:vs[vs.length-1]?=some vs[vs.length-1]:=by simp[m]
     have M:=v5 _ (j6 m);generalize vs[vs.length-1]=v at j M;have P:∀x∈v.toList,IR x:=λx j=>by have:=M x j;exact⟨by omega,by omega⟩
     have F:ap ((vs.length:Int)-1)=((vs.length-1:Nat):Int):=by rw[bT O O];omega
     have A:((vs.length:Int)==0)=false:=by rw[ll];omega
     refine⟨a,g,hY v.toList++[46],0,?_,?_,mL,h⟩
     .show(mE fu l).bind _=_;rw[hd,ae];show(nS d).bind _=_;rw[n,ae];show(bif (vs.length:Int)==(0:Int)then _ else(bh vs (ap ((vs.length:Int)-(1:Int)))).bind _)=_;rw[A,aS,F,cK,j,ae,D6 (by simp) P];rfl
     .show Option.bind (bif (d.length:Int)==(0:Int)then _ else(ui fu d).bind _) _=_;rw[<-v3,A,aS,W,ae,F,cK,j,ae,A3 (by simp) P];rfl
  .have e:(c !=0)=true:=by simpa using p
   obtain⟨z,n⟩:=Q p;rw[e,bG];refine mA h c2 ?_ (by rw[lx c2.1 c2.2];rfl);have B:gB c=some c:=by unfold gB;rw[e];rfl
   rcases t with rfl|rfl
   .show(mE fu l).bind _=_;rw[hd,ae];show(oT d).bind _=_;rw[z,ae,B,ae,e];rfl
   .show(mE fu l).bind _=_;rw[hd,ae];show(nS d).bind _=_;rw[n,ae,B,ae,e];rfl
theorem abk{l:List Y}(C:l.length<=2^20):e8 K4 D (jX fu a.w ([114,105,110,103]:Y) l) ((so fu ([114,105,110,103]:Y) l).bind λn=>some (g,a.r g,n)):=by
 obtain⟨j,z⟩:=Mr (fu:=fu) O l O;have d:(0:Int)<=12/\(12:Int)<=100:=by decide
 unfold so;rw[z,ae];by_cases i:l.all okW=true
 .rw[bE i]at j ⊢;obtain⟨e,p,T,s,K,t,B⟩:=R.VV (l.map (cT 0)) (fu:=fu) O;have k:0<=e/\e<=100:=by omega
  by_cases o:e=0
  .subst o;obtain⟨A,F,H⟩:=B X;have q:∀x∈[p,T],IR x:=λx m=>by
    rcases fM.1 m with rfl|m
    .exact⟨by omega,by omega⟩
    .rw[ia.1 m];exact⟨by omega,by omega⟩
   refine⟨a,g,hY [p,T]++[46],0,?_,?_,mL,h⟩
   .show(pf fu l).bind _=_;rw[j,ae];show(qS fu (l.map (cT 0))).bind _=_;rw[t,ae];show(qd [p,T]).bind _=_;rw[D6 (by simp) q];rfl
   .show((pN (l.map (cT 0))).bind _).bind _=_;rw[s,ae];show((uf fu (l.map (cT 0))).bind _).bind _=_;rw[A,ae];show((oQ [p,T]).bind _).bind _=_;rw[A3 (by simp) q];rfl
  .have f:(e !=0)=true:=by simpa using o
   have y:gB e=some e:=by unfold gB;rw[f];rfl
   refine mA h k ?_ ?_
   .show(pf fu l).bind _=_;rw[j,ae];show(qS fu (l.map (cT 0))).bind _=_;rw[t,ae,y,ae,f];rfl
   .show((pN (l.map (cT 0))).bind _).bind _=_;rw[s,ae,f,bG,lx k.1 k.2];rfl
 .rw[ca i]at j ⊢;refine mA h d ?_ (by rw[lx d.1 d.2];rfl);show(pf fu l).bind _=_;rw[j];rfl
omit dL h in
theorem XG{n:Nat}{p:BitVec 16->Bool}(f:n<=10):(H.tR n p).length<=11*1024:=by have d:=H.yn (H.oz n p) [];have e:=H.Cb (good:=p) f (n+1);have i:(H.oz n p).length<=(n+1)*1024:=e;unfold H.tR;simp only[iX]at d;omega
theorem acR{l:List Y}(hl:l.length<=2^20):e8 K4 D (jX fu a.w ([118,111,116,101,115]:Y) l) ((so fu ([118,111,116,101,115]:Y) l).bind λP=>some (g,a.r g,P)):=by
 obtain⟨C,n2⟩:=Mr (fu:=fu) O l O;have d:(0:Int)<=12/\(12:Int)<=100:=by decide
 unfold so;rw[n2,ae]
 cases l with
 |nil=>exact mA h d X (by rw[lx d.1 d.2];rfl)
 |cons w0 l=>
  have t:decide (((w0::l).length:Int)>0)=true:=c0 (by rw[eB];omega)
  have e:∀x,(pf fu (w0::l))=some x->jX fu a.w ([118,111,116,101,115]:Y) (w0::l)=bif x.2 !=(0:Int)then some (a.w.all,a.w,([]:Y),x.2)else
   (bY x.1 (1:Int) (x.1.length:Int)).bind λM=>(bh x.1 (0:Int)).bind λT=>(ut fu M T).bind λn=>(gB n.2).bind λo=>bif o !=(0:Int)then some (a.w.all,a.w,([]:Y),o)else
   (yg n.1).bind λA=>some (a.w.all,a.w,A,(0:Int)):=by
   intro x f;unfold jX;rw[show decide (([118,111,116,101,115]:Y)=[115,116,97,109,112,115])=false from X,show decide (([118,111,116,101,115]:Y)=[108,97,115,116])=false from X,show decide (([118,111,116,101,115]:Y)=[114,105,110,103])=false from X,c0 (X:([118,111,116,101,115]:Y)=[118,111,116,101,115]),aS,aS,aS,bG,t,ae,bG,f,ae];rfl
  by_cases j:(w0::l).all okW=true
  .rw[bE j]at C ⊢;rw[e _ C];have m:∀x∈l.map (cT 0),0<=x/\x<10000:=λx f=>by
    obtain⟨y,hy,rfl⟩:=mS.1 f;exact pM (lQ.1 j y (j7 _ hy))
   have s:=pM (lQ.1 j w0 mj);rw[lS];generalize l.map (cT 0)=v at m;generalize cT 0 w0=need at s;have W:bY (need::v) (1:Int) ((need::v).length:Int)=some v:=xZ (l:=need::v) (p:=1) (by simp);have hq:=H.acP (fu:=fu) (need:=need) O m s;show e8 K4 D (Option.bind (bY (need::v) (1:Int) ((need::v).length:Int)) _) (Option.bind (Option.bind (bY (need::v) (1:Int) ((need::v).length:Int)) _) _);rw[W,ae,ae,or_some,ae];show e8 K4 D (Option.bind (ut fu v need) _) _;rw[hq,ae];by_cases B:1<=v.length/\v.length<=10/\1<=need
   .rw[bE B,cm (show ¬(v.length:Int)<1 by omega),cm (show ¬(v.length:Int)>10 by omega),oE,aS,show bh (need::v) (0:Int)=some need from X,ae,cm (show ¬need<1 by omega),ae,aS,
     H.XE (k:=need::v) (need:=need) X B.2.1 O,ae]
    have K:=XG (p:=H.me v need) B.2.1;generalize H.tR v.length (H.me v need)=S at K;have V:∀x∈S.map λy:BitVec 16=>(y.toNat:Int),IR x:=λx f=>by obtain⟨y,_,rfl⟩:=mS.1 f;have:=y.isLt;exact⟨by omega,by omega⟩
    have q:bC (un S) S.length 0 ([]:List Int)=some (S.map λy:BitVec 16=>(y.toNat:Int)):=by
     have L:∀(k i:Nat)(z:List Int),i+k=S.length->z.length<=i->bC (un S) k i z=some (z++(S.drop i).map λy:BitVec 16=>(y.toNat:Int)):=by
      intro k
      induction k with
      |zero=>intro i z hk _;rw[ie O];show some z=some (z++[]);rw[is]
      |succ k ih=>
       intro i z hk hz;have hi:i<S.length:=by omega
       have f:S[i]?=some S[i]:=by simp[hi]
       generalize S[i]=x at f;rw[drop_at f,lS];have F:un S i z=some (z++[(x.toNat:Int)]):=by unfold un;rw[cK,f,ae,dm (by simp;omega),ae]
       unfold bC;rw[F,ae,ih (i+1) _ O (by simp;omega),fL];rfl
     have:=L S.length 0 [] O (by simp);rw[eX,pq]at this;exact this
    refine⟨a,g,hY (S.map λy:BitVec 16=>(y.toNat:Int))++[46],0,?_,?_,mL,h⟩
    .show(yg S).bind _=_;unfold yg sA;rw[bE ⟨by simp;omega,λx f=>V x f⟩];rfl
    .rw[q,ae,A3 (by simp;omega) V];rfl
   .rw[ca B];refine mA h tB X ?_;have:(bif decide ((v.length:Int)<1)||decide ((v.length:Int)>10)then some true else(bh (need::v) (0:Int)).bind λQ=>some (decide (Q<(1:Int))))=some true:=by
     cases F:decide ((v.length:Int)<1)||decide ((v.length:Int)>10)with
     |true=>rfl
     |false=>simp only[zi,lm]at F;rw[aS,show bh (need::v) (0:Int)=some need from X,ae,c0 O]
    rw[this,lx O O];rfl
  .rw[ca j]at C ⊢;refine mA h d ?_ (by rw[lx d.1 d.2];rfl);rw[e _ C];rfl
omit h in
theorem Ym{name w:Y}(e:okW w=false)(d:name=[97,103,97,105,110]\/name=[102,97,108,108]\/name=[108,111,115,101]\/name=[116,97,107,101]\/name=[100,114,97,105,110]\/name=[111,102]):lH fu a.w name w=some (K5 a.w.all a.w.aK a.w [] 12):=by
 have hd:iT fu w=some (0,12):=by rw[ol O,ca (by rw[e];decide)]
 rcases d with rfl|rfl|rfl|rfl|rfl|rfl<;>
  (show andThen ((iT fu w).bind _) _=_;rw[hd];rfl)
omit dL h in
theorem Yn{name w:Y}(d:name≠[97,103,97,105,110])(e:name≠[102,97,108,108])(f:name≠[108,111,115,101])(i:name≠[116,97,107,101])(j:name≠[100,114,97,105,110])(k:name≠[111,102]):lH fu a.w name w=some (K5 a.w.all a.w.aK a.w [] 12):=by unfold lH;rw[cm d,cm e,cm f,cm i,cm j,cm k];rfl
omit dL h in
theorem Hg{D:Nat}{name w:Y}{y:Option (List (Int×Int)×bi×Y)}(l:e8 K5 D (lH fu a.w name w) y)
 (f:name≠[115,116,97,109,112,115]) (i:name≠[108,97,115,116]) (j:name≠[114,105,110,103]) (k:name≠[118,111,116,101,115]):e8 K4 D (jX fu a.w name [w]) y:=by
 obtain⟨b,q,t,e,n,o,p,s⟩:=l;have m:jX fu a.w name [w]=some (K4 b.w.all b.w.aK b.w (bif e !=0 then[]else t) e):=by
  unfold jX;rw[cm f,cm i,cm j,cm k];simp only[aS,ae,iR];rw[show((([w]:List Y).length:Int)==0)=false from X,show((([w]:List Y).length:Int)==4)=false from X,show((([w]:List Y).length:Int)==1)=true from X];simp only[zf,aS,bG];rw[show bh [w] (0:Int)=some w from X,ae,n,ae]
  cases d:(e !=0)with
  |true=>simp only[K5,d,bG];rfl
  |false=>
   obtain rfl:e=0:=by simpa using d
   rfl
 refine⟨b,q,_,e,m,?_,p,s⟩;rw[o];unfold tg;cases d:(e !=0)<;>rfl
omit dL h in
theorem J9{name:Y}{l:List Y}(k:name≠[115,116,97,109,112,115])(m:name≠[108,97,115,116])(n:name≠[114,105,110,103])(o:name≠[118,111,116,101,115])
 (s:l.length≠1) (d:name=[118,105,101,119]\/name=[99,104,97,110,103,101]->l.length≠0) (p:name=[115,97,121]->l.length≠4):jX fu a.w name l=some (K4 a.w.all a.w.aK a.w [] 12):=by
 unfold jX;rw[cm k,cm m,cm n,cm o];simp only[aS,ae,iR];have e:((l.length:Int)==1)=false:=by rw[ll];omega
 have f:(decide (name=[118,105,101,119])&&((l.length:Int)==0))=false:=by
  rw[oD,lm,ll];by_cases q:name=[118,105,101,119]
  .right;have:=d (.inl q);omega
  .exact .inl q
 have i:(decide (name=[99,104,97,110,103,101])&&((l.length:Int)==0))=false:=by
  rw[oD,lm,ll];by_cases q:name=[99,104,97,110,103,101]
  .right;have:=d (.inr q);omega
  .exact .inl q
 have j:(decide (name=[115,97,121])&&((l.length:Int)==4))=false:=by
  rw[oD,lm,ll];by_cases q:name=[115,97,121]
  .right;have:=p q;omega
  .exact .inl q
 rw[e,f,i,j];rfl
omit dL in
theorem acL:e8 K4 D (jX fu a.w ([118,105,101,119]:Y) []) (lv fu (a.r g) ([118,105,101,119]:Y) 0 []):=by
 have o:=h.ga.num;have p:=h.ga.ah;have n:=a.aO.bJ.isLt;have d:a.w.ah.length=a.ah.length:=by show(a.ah.map gl).length=_;rw[fk]
 obtain⟨e,q⟩:=qt (x:=a.aO.ce) ⟨by omega,by omega⟩;obtain⟨f,s⟩:=qt (x:=(a.aO.bJ.toNat:Int)) ⟨by omega,by omega⟩;obtain⟨i,t⟩:=qt (x:=(a.ah.length:Int)) ⟨by omega,by omega⟩;have j:room (d9 a.aO.ce) ([32]:Y)=some ():=dm (by simp;omega);have k:room (d9 a.aO.ce++([32]:Y)) (d9 (a.aO.bJ.toNat:Int))=some ():=dm (by simp;omega);have l:room ((d9 a.aO.ce++([32]:Y))++d9 (a.aO.bJ.toNat:Int)) ([32]:Y)=some ():=dm (by simp;omega);have m:room (((d9 a.aO.ce++([32]:Y))++d9 (a.aO.bJ.toNat:Int))++([32]:Y)) (d9 (a.ah.length:Int))=some ():=dm (by simp;omega);refine⟨a,g,(((d9 a.aO.ce++([32]:Y))++d9 (a.aO.bJ.toNat:Int))++([32]:Y))++d9 (a.ah.length:Int),0,?_,?_,mL,h⟩
 .show(strconv_Itoa a.aO.ce).bind _=_;rw[e,ae,j,ae];show(strconv_Itoa (a.aO.bJ.toNat:Int)).bind _=_;rw[f,ae,k,ae,l,ae];show(strconv_Itoa (a.w.ah.length:Int)).bind _=_;rw[d,i,ae,m];rfl
 .show(strconv_Itoa a.aO.ce).bind _=_;rw[e,ae,j,ae];show(strconv_Itoa (a.aO.bJ.toNat:Int)).bind _=_;rw[f,ae,k,ae,l,ae];show(strconv_Itoa (a.ah.length:Int)).bind _=_;rw[i,ae,m];rfl
end
def ti:List (Y×Int):=eR (eR (eR (eR (eR (eR (eR (eR (eR ([]:List (Y×Int)) ([115,97,121]:Y) (4:Int)) ([97,103,97,105,110]:Y) (1:Int)) ([108,111,115,101]:Y) (1:Int)) ([116,97,107,101]:Y) (1:Int)) ([102,97,108,108]:Y) (1:Int)) ([100,114,97,105,110]:Y) (1:Int)) ([111,102]:Y) (1:Int)) ([99,104,97,110,103,101]:Y) (0:Int)) ([118,105,101,119]:Y) (0:Int)
def m0(fu:Nat)(d:bi)(x:Y)(l:List Y):Option ((List (Int×Int))×bi×Y):=
 bif !((dg ti x).isSome)then
  (bif decide (x=([115,116,97,109,112,115]:Y))||decide (x=([108,97,115,116]:Y))then((ww fu x l).bind λm=>some (d.aI,d,m))else
  bif decide (x=([114,105,110,103]:Y))||decide (x=([118,111,116,101,115]:Y))then((so fu x l).bind λn=>some (d.aI,d,n))else
  (fp (12:Int) ([]:Y)).bind λo=>some (d.aI,d,o))else
 bif ((dg ti x).getD (0:Int))!=(l.length:Int)then((fp (12:Int) ([]:Y)).bind λp=>some (d.aI,d,p))else
 andThen (bif decide (((dg ti x).getD (0:Int))>(0:Int))then((bh l (0:Int)).bind λj=>(oP j).bind λf=>bif decide (f<(0:Int))then((fp (12:Int) ([]:Y)).bind λi=>some (.inr (d.aI,d,i)))else some (.inl f))else some (.inl (0:Int))) λk=>
 (lv fu d x k l).bind λe=>some (e.1,({e.2.1 with aI:=e.1}:bi),e.2.2)
theorem NH(l:List Y)(o:l.length<=2^30):bC (ul l) l.length 0 ([]:List Y)=some (l.filter λx=>!decide (x=[])):=by
 have f:∀(k i:Nat)(z:List Y),i+k=l.length->z.length<=i->bC (ul l) k i z=some (z++(l.drop i).filter λx=>!decide (x=[])):=by
  intro k
  induction k with
  |zero=>intro i z n _;rw[ie O];show some z=some (z++[]);rw[is]
  |succ k j=>
   intro i z n p;have hi:i<l.length:=by omega
   have e:l[i]?=some l[i]:=by simp[hi]
   generalize l[i]=x at e;rw[drop_at e,List.filter_cons];have m:ul l i z=some (if(!decide (x=[]))=true then z++[x]else z):=by unfold ul;rw[cK,e,ae,dm (by simp;omega)];cases decide (x=[])<;>rfl
   unfold bC;rw[m,ae];by_cases d:(!decide (x=[]))=true
   .rw[bE d,bE d,j (i+1) _ O (by simp;omega),fL];rfl
   .rw[ca d,ca d,j (i+1) _ O O]
 have:=f l.length 0 [] O (by simp);rw[eX,pq]at this;exact this
theorem Tu{fu:Nat}{f:bi}{s x:Y}{i l:List Y}(n:oU fu s ([32]:Y)=some i)(m:i.length<=2^30)(k:(i.filter λx=>!decide (x=[]))=x::l):uk fu f s=m0 fu f x l:=by
 have j:bY (x::l) (1:Int) ((x::l).length:Int)=some l:=xZ (l:=x::l) (p:=1) (by simp);have o:(((x::l).length:Int)==0)=false:=by rw[ll,eB];omega
 unfold uk m0;rw[n,ae,NH i m,ae,k,o,aS];simp only[eg];rw[show bh (x::l) (0:Int)=some x from X,ae,j,ae];have e:∀{α:Type}(c d:Bool)(A B:Option α),((bif c then some c else some d).bind λy=>bif y then A else B)=bif c||d then A else B:=λc d A B=>by cases c<;>rfl
 simp only[ae,Option.bind_assoc,e];rfl
theorem e8.mono{ρ:Type}{K:List bw->List Y->aZ->Y->Int->ρ}{D E:Nat}{x:Option ρ}{y:Option (List (Int×Int)×bi×Y)}(f:e8 K D x y)(d:D<=E):e8 K E x y:=by obtain⟨b,q,t,e,i,j,k,l⟩:=f;exact⟨b,q,t,e,i,j,k,l.mono d⟩
theorem e8.wrap{ρ:Type}{K:List bw->List Y->aZ->Y->Int->ρ}{D:Nat}{x:Option ρ}{y:Option (List (Int×Int)×bi×Y)}(d:e8 K D x y):e8 K D x (y.bind λr=>some (r.1,({r.2.1 with aI:=r.1}:bi),r.2.2)):=by obtain⟨b,q,t,e,f,i,j,k⟩:=d;exact⟨b,q,t,e,f,by rw[i];rfl,j,k⟩
theorem mM:(0:Int)<=12/\(12:Int)<=100:=by decide
section
variable {fu D:Nat}{a:AW}{g:List (Int×Int)}(dL:2^21+400<fu)(h:SI D a g)
include dL h
theorem wR{x:Y}(s:dg ti x=some 1)(y:∀w,okW w=true->∀l,e8 K5 (D+10000) (lH fu a.w x w) (lv fu (a.r g) x (cT 0 w) l))
 (p:x=[97,103,97,105,110]\/x=[102,97,108,108]\/x=[108,111,115,101]\/x=[116,97,107,101]\/x=[100,114,97,105,110]\/x=[111,102]) (l:List Y):e8 K4 (D+10000) (jX fu a.w x l) (m0 fu (a.r g) x l):=by
 have d:x≠[115,116,97,109,112,115]/\x≠[108,97,115,116]/\x≠[114,105,110,103]/\x≠[118,111,116,101,115]/\¬(x=[118,105,101,119]\/x=[99,104,97,110,103,101])/\x≠[115,97,121]:=by rcases p with rfl|rfl|rfl|rfl|rfl|rfl<;>decide
 have n:=h.mono (oB D 10000);by_cases o:l.length=1
 .obtain⟨w,rfl⟩:=List.length_eq_one_iff.1 o;have k:m0 fu (a.r g) x [w]=andThen ((oP w).bind λf=>bif decide (f<(0:Int))then((fp (12:Int) ([]:Y)).bind λi=>some (.inr (g,a.r g,i)))else some (.inl f)) λj=>
   (lv fu (a.r g) x j [w]).bind λe=>some (e.1,({e.2.1 with aI:=e.1}:bi),e.2.2):=by
   unfold m0;rw[s];rfl
  rw[k,AN,ae]
  cases m:okW w with
  |true=>have z:=pM m;rw[bE X,cm O,aS,jK];exact Hg (y w m [w]).wrap d.1 d.2.1 d.2.2.1 d.2.2.2.1
  |false=>rw[ca ab,lx mM.1 mM.2];exact Hg (mA n mM (Ym dL m p) (by rw[lx mM.1 mM.2];rfl)) d.1 d.2.1 d.2.2.1 d.2.2.2.1
 .have k:m0 fu (a.r g) x l=(fp (12:Int) ([]:Y)).bind λt=>some (g,a.r g,t):=by
   unfold m0;rw[s];show(bif (1:Int)!=(l.length:Int)then _ else _)=_;rw[show((1:Int)!=(l.length:Int))=true by rw[vB];omega];rfl
  exact mA n mM (J9 d.1 d.2.1 d.2.2.1 d.2.2.2.1 o (λq=>absurd q d.2.2.2.2.1) (λq=>absurd q d.2.2.2.2.2)) k
omit dL in
theorem CM{x:Y}{l:List Y}(e:x≠[115,116,97,109,112,115])(f:x≠[108,97,115,116])(i:x≠[114,105,110,103])(j:x≠[118,111,116,101,115])(o:x≠[97,103,97,105,110])(p:x≠[102,97,108,108])(q:x≠[108,111,115,101])(s:x≠[116,97,107,101])(z:x≠[100,114,97,105,110])(d:x≠[111,102])
 (A:x=[118,105,101,119]\/x=[99,104,97,110,103,101]->l.length≠0) (B:x=[115,97,121]->l.length≠4) {y:Option (List (Int×Int)×bi×Y)} (n:y=(fp (12:Int) ([]:Y)).bind λt=>some (g,a.r g,t)):e8 K4 (D+10000) (jX fu a.w x l) y:=by
 have k:=h.mono (oB D 10000);by_cases m:l.length=1
 .obtain⟨w,rfl⟩:=List.length_eq_one_iff.1 m;exact Hg (mA k mM (Yn o p q s z d) n) e f i j
 .exact mA k mM (J9 e f i j m A B) n
theorem aby(L:D<=900000){w0 f i j:Y}(x:∀s∈[w0,f,i,j],s.length<=2^20):e8 K4 (D+10000) (jX fu a.w ([115,97,121]:Y) [w0,f,i,j]) (m0 fu (a.r g) ([115,97,121]:Y) [w0,f,i,j]):=by
 have B:=h.mono (oB D 10000)
 have hd:jX fu a.w ([115,97,121]:Y) [w0,f,i,j]=(iT fu w0).bind λl=>bif l.2 !=(0:Int)then(some (a.w.all,a.w,([]:Y),l.2))else
  (strings_Join [f,i,j] ([32]:Y)).bind λq=>(q8 a.w l.1 q).bind λd=>(gB d.2.2.2).bind λn=>
  bif n !=(0:Int)then(some (d.1,({d.2.2.1 with all:=d.1,aK:=a.w.aK,ah:=d.2.1}:aZ),([]:Y),n))else
  some (d.1,({d.2.2.1 with all:=d.1,aK:=a.w.aK,ah:=d.2.1}:aZ),([111,107]:Y),(0:Int)):=X
 have H:m0 fu (a.r g) ([115,97,121]:Y) [w0,f,i,j]=andThen ((oP w0).bind λm=>bif decide (m<(0:Int))then((fp (12:Int) ([]:Y)).bind λp=>some (.inr (g,a.r g,p)))else some (.inl m)) λt=>(lv fu (a.r g) ([115,97,121]:Y) t [w0,f,i,j]).bind λk=>some (k.1,({k.2.1 with aI:=k.1}:bi),k.2.2):=X;have A:strings_Join [f,i,j] ([32]:Y)=some (f++([32]++(i++([32]++j)))):=by
  have e:Go.Lib.join [f,i,j] ([32]:Y)=f++([32]++(i++([32]++j))):=by simp[Go.Lib.join,List.intercalate]
  have P:=x f (by simp);have Q:=x i (by simp);have S:=x j (by simp);unfold strings_Join yV;rw[e,bE ⟨by simp,by simp;omega⟩]
 rw[hd,H,AN,ae,ol O,ae]
 cases K:okW w0 with
 |true=>have M:=pM K;rw[bE X,bE X,cm O,aS,jK];simp only[iW,aS];rw[A,ae];have C:=(e8.mono (E:=D+10000) (abw (show 2^16<fu by omega) h O (cT 0 w0) (f++([32]++(i++([32]++j))))) O).wrap;have F:lv fu (a.r g) ([115,97,121]:Y) (cT 0 w0) [w0,f,i,j]=(strings_Join [f,i,j] ([32]:Y)).bind λy=>(qO fu (a.r g) (cT 0 w0) y).bind λo=>(fp o.2.2 ([111,107]:Y)).bind λz=>some ((a.r g).aI,({o.2.1 with aI:=(a.r g).aI,bd:=(a.r g).bd,bf:=(a.r g).bf,bj:=o.1}:bi),z):=X;rw[F,A,ae];exact C
 |false=>rw[ca ab,ca ab];exact mA B mM X (by rw[lx mM.1 mM.2];rfl)
theorem TP(H:fu<=2^30)(P:D<=900000)(x:Y){l:List Y}(K:l.length<=2^20)(L:∀s∈l,s.length<=2^20):e8 K4 (D+10000) (jX fu a.w x l) (m0 fu (a.r g) x l):=by
 have e:2^16<fu:=by omega
 by_cases c1:x=[97,103,97,105,110]
 .subst c1;exact wR dL h X (λw i l=>(Tm e h O w i l).mono O) (by simp) l
 by_cases c2:x=[102,97,108,108]
 .subst c2;exact wR dL h X (λw i l=>(U2 e h O w i l).mono O) (by simp) l
 by_cases p:x=[108,111,115,101]
 .subst p;exact wR dL h X (λw i l=>(XQ e h O w i l).mono O) (by simp) l
 by_cases y:x=[116,97,107,101]
 .subst y;exact wR dL h X (λw i l=>(acp e h O w i l).mono O) (by simp) l
 by_cases z:x=[100,114,97,105,110]
 .subst z;exact wR dL h X (λw i l=>UH e h P w i l) (by simp) l
 by_cases A:x=[111,102]
 .subst A;exact wR dL h X (λw i l=>(Yj dL h O w i l).mono O) (by simp) l
 by_cases B:x=[115,116,97,109,112,115]
 .subst B;exact(Lx dL h H (.inl X) K L).mono O
 by_cases C:x=[108,97,115,116]
 .subst C;exact(Lx dL h H (.inr X) K L).mono O
 by_cases F:x=[114,105,110,103]
 .subst F;exact(abk dL h K).mono O
 by_cases d:x=[118,111,116,101,115]
 .subst d;exact(acR dL h K).mono O
 have f:∀{n:Int},dg ti x=some n->(n:Int)≠l.length->m0 fu (a.r g) x l=(fp (12:Int) ([]:Y)).bind λt=>some (g,a.r g,t):=by intro n M Q;unfold m0;rw[M];show(bif n !=(l.length:Int)then _ else _)=_;rw[show(n !=(l.length:Int))=true by rw[vB];exact Q];rfl
 by_cases k:x=[118,105,101,119]
 .subst k;by_cases j:l.length=0
  .obtain rfl:=pC.1 j;exact(acL h).wrap.mono O
  .exact CM h B C F d c1 c2 p y z A (λ_=>j) (by simp) (f (n:=0) X O)
 by_cases m:x=[99,104,97,110,103,101]
 .subst m;by_cases j:l.length=0
  .obtain rfl:=pC.1 j;exact(TV e h O).wrap.mono O
  .exact CM h B C F d c1 c2 p y z A (λ_=>j) (by simp) (f (n:=0) X O)
 by_cases o:x=[115,97,121]
 .subst o;by_cases j:l.length=4
  .match l,j with
   |[w0,S,T,V],_=>exact aby dL h P L
  .exact CM h B C F d c1 c2 p y z A (by simp) (λ_=>j) (f (n:=4) X O)
 refine CM h B C F d c1 c2 p y z A (λq=>absurd q (by simp[k,m])) (λq=>absurd q o) ?_;have M:dg ti x=none:=by unfold ti;simp only[vO,Mk,ca c1,ca c2,ca p,ca y,ca z,ca A,ca k,ca m,ca o]
 unfold m0;rw[M];simp only[Cm,lO,bG];rw[cm B,cm C,cm F,cm d];rfl
end
theorem XN{fu D:Nat}{a:AW}{g:List (Int×Int)}(dL:2^21+400<fu)(k:fu<=2^30)(h:SI D a g)(o:D<=900000){s:Y}(Q:s.length<=4096):
 ∃(b:AW)(q:List (Int×Int))(t:Y),yd fu a.w s=some (b.w.all,b.w,t)/\uk fu (a.r g) s=some (q,b.r q,t)/\SI (D+10000) b q:=by
 obtain⟨i,j,M,n⟩:=H8 (c:=32) (s:=s) (fu:=fu) O O;have A:=UQ (fu:=fu) i (λx=>decide (x=[])) (λx _=>rfl) O O;unfold yd;rw[j,ae,A,ae]
 cases d:i.filter λx=>!decide (x=[])with
 |nil=>
  refine⟨a,g,om++d9 12,?_,?_,h.mono O⟩
  .rw[show((([]:List Y).length:Int)==0)=true from X,bG,GI O O];rfl
  .unfold uk;rw[j,ae,NH i O,ae,d];show((fp (12:Int) ([]:Y)).bind _)=_;rw[lx mM.1 mM.2];rfl
 |cons x l=>
  have B:∀y∈x::l,y.length<=4096:=λy f=>by rw[<-d]at f;have:=n y (zm.1 f).1;omega
  have m:(x::l).length<=i.length:=by rw[<-d];exact List.length_filter_le _ _
  rw[eB]at m;have z:bY (x::l) (1:Int) ((x::l).length:Int)=some l:=xZ (l:=x::l) (p:=1) (by simp);have C:(((x::l).length:Int)==0)=false:=by rw[ll,eB];omega
  obtain⟨b,q,t,e,F,H,K,L⟩:=TP dL h k o x (l:=l) O (λy f=>by have:=B y (j7 _ f);omega);rw[C,aS,show bh (x::l) (0:Int)=some x from X,ae,z,ae,F,ae,Tu j O d,H];refine⟨b,q,tg e t,?_,X,L⟩;show(bif e !=(0:Int)then _ else _)=_;unfold tg
  cases P:(e !=0)with
  |true=>rw[bG,bG];show(oA e).bind _=_;rw[GI K.1 O];rfl
  |false=>rfl
theorem SI.new:SI 0 (jN 3) []:=⟨(GA.new (n:=3) O).mono O,⟨[],PV.new⟩,OS.new,Mb.new O,gx.new,by simp[jN]⟩
theorem abo{fu:Nat}(dL:2^21+400<fu)(m:fu<=2^30){s:Y}(hs:s.length<=2^20):∃r,yb fu s=some r/\zS fu s=some r:=by
 obtain⟨d,K,e3,L⟩:=H8 (c:=10) (s:=s) (fu:=fu) O O;unfold yb zS;rw[K,ae,ae,or_some,ae]
 cases y:decide ((s.length:Int)>4096)with
 |true=>exact⟨_,X,X⟩
 |false=>
 rw[aS,Ct]
 cases A:decide ((d.length:Int)>60)with
 |true=>exact⟨_,X,X⟩
 |false=>
 have y:=ln y;have A:=ln A;have V:=Yb (n:=3) O;have W:=Yc (n:=3);rw[aS,aS,show(3:Int)=((3:Nat):Int)from X,V,W,ae,ae]
 have p:∀(k i:Nat)(z:List Y)(a:AW)(g:List (Int×Int)),i+k=d.length->z.length<=i->SI (10000*i) a g->∃(b:AW)(q:List (Int×Int))(H:List Y),
  bC (qc fu d) k i (a.w,z,a.w.all)=some (b.w,H,b.w.all)/\bC (qM fu d) k i (a.r g,z,g)=some (b.r q,H,q):=by
  intro k
  induction k with
  |zero=>intro i z a g _ _ _;exact⟨a,g,z,X,X⟩
  |succ k F=>
   intro i z a g hk hz B;have hi:i<d.length:=by omega
   have e:d[i]?=some d[i]:=by simp[hi]
   have o:=L d[i] (j6 hi);generalize d[i]=x at e o;unfold bC;by_cases f:x=[]
   .have j:qc fu d i (a.w,z,a.w.all)=some (a.w,z,a.w.all):=by
     unfold qc;rw[cK,e,ae,c0 f];rfl
    have l:qM fu d i (a.r g,z,g)=some (a.r g,z,g):=by unfold qM;rw[cK,e,ae,c0 f];rfl
    rw[j,l];exact F (i+1) z a g O O (B.mono O)
   .obtain⟨b,q,t,Q,S,T⟩:=XN dL m B O (s:=x) O;have C:room z ([t]:List Y)=some ():=dm (by simp;omega);have j:qc fu d i (a.w,z,a.w.all)=some (b.w,z++[t],b.w.all):=by
     unfold qc;simp only;rw[cK,e,ae,cm f,lO,bG,show({a.w with all:=a.w.all}:aZ)=a.w from X,Q,ae,C,ae]
    have l:qM fu d i (a.r g,z,g)=some (b.r q,z++[t],q):=by unfold qM;simp only;rw[cK,e,ae,cm f,lO,bG,show({a.r g with aI:=g}:bi)=a.r g from X,S,ae,C,ae];rfl
    rw[j,l];exact F (i+1) (z++[t]) b q O (by simp;omega) (T.mono O)
 obtain⟨b,q,z,M,P⟩:=p d.length 0 [] (jN 3) [] O (by simp) (SI.new.mono O);refine⟨(z,0),?_,?_⟩
 .show(bC (qc fu d) d.length 0 ((jN 3).w,[],(jN 3).w.all)).bind _=_;rw[M];rfl
 .show(bC (qM fu d) d.length 0 ((jN 3).r [],[],[])).bind _=_;rw[P];rfl
theorem UC{s:Y}(f:s.length<=1048576):zE 4194304 s=some true:=by obtain⟨r,d,e⟩:=abo (fu:=4194304) O O (s:=s) O;unfold zE;rw[d,e,ae,ae,UR,ae];simp
theorem UE(s:Y)(d:s.length<=1048576):∃fu,zE fu s=some true:=⟨4194304,UC d⟩
