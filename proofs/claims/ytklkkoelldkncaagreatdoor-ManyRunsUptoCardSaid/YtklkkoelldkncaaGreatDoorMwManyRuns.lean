/-
  The law: many.Run's outcomes, each as the document's world has it.
-/
import Derived.Test.YtklkkoelldkncaaGreatDoorMwRefV
set_option linter.unusedSimpArgs false
set_option linter.unusedVariables false
namespace Go.Proofs.YtklkkoelldkncaaGreatDoor
open an
theorem KA(x:Int):zu x=if 1<=x/\x<=6 then none else some 1:=by
 unfold zu;rw[vR,aj];by_cases h:1<=x/\x<=6
 .obtain⟨n,rfl⟩:=kn (show 0<=x by omega);have a:lH (n:Int)=some n:=by unfold lH;rw[ce O];rfl
  rw[ce h,dA (show(n:Int)>=1 by omega),dA (show(n:Int)<=6 by omega),qv,a];rfl
 .have:(decide (x>=1)&&decide (x<=6))=false:=by
   simp only[uM,px];omega
  rw[ck h,this];rfl
theorem L4{fu:Nat}{j:fN}(h:¬(1<=j.N/\j.N<=6)):kI fu j=some ⟨1,[],bh.zero,[]⟩:=by unfold kI;rw[KA,ck h];rfl
theorem IQ{fu:Nat}{j:fN}(hd:j.dN.length<=1048576)(t:2^16<fu):∀(k i:Nat),i+k=j.dN.length->∀(b:AW)(g:List (Int×Int))(base:List ay)(l:List Int),GA (17*i) b->PV base b->OS i b->Mb b->ga g b->l.length=i->
 ∃(e:AW)(g':List (Int×Int))(p:List Int),bE (uV fu j) k i ((⟨0,l,bh.zero,[]⟩:dk),b.w,l,b.ps)=some ((⟨0,p,bh.zero,[]⟩:dk),e.w,p,e.ps)/\bE (tj fu j) k i (b.r g,l,g)=some (e.r g',p,g')/\GA (17*(i+k)) e/\e.ps.length=b.ps.length
 |0,i,_,b,g,base,l,m,s,y,x,A,B=>⟨b,g,l,X,X,m,X⟩
 |k+1,i,T,b,g,base,l,m,s,y,x,A,B=>by
  have hi:i<j.dN.length:=by omega
  have h:j.dN[i]?=some j.dN[i]:=by simp[hi]
  generalize j.dN[i]=d at h;obtain⟨d1,d2⟩:=R6 (fu:=fu) O m O d;obtain⟨q,C,D,F,H⟩:=R7 (fu:=fu) O y s m O O x A d;obtain⟨f,n⟩:=s.do m (fu:=fu) O d;have o:=Bn fu b d;generalize gS fu b d=r at d1 d2 C D F H n o;have a:room l [r.2]=some ():=eu (by simp;omega);have K:uV fu j i ((⟨0,l,bh.zero,[]⟩:dk),b.w,l,b.ps)=some ((⟨0,l++[r.2],bh.zero,[]⟩:dk),r.1.w,l++[r.2],r.1.ps):=by unfold uV;simp only;rw[cY,h,aj,show({b.w with all:=b.ps}:bi)=b.w from X,d1,aj,fb];simp only;rw[a,aj];rfl
  have L:tj fu j i (b.r g,l,g)=some (r.1.r q,l++[r.2],q):=by unfold tj;simp only;rw[cY,h,aj,show({b.r g with aN:=g}:bj)=b.r g from X,C,aj];simp only;rw[a,aj];rfl
  obtain⟨e,g',p,M,P,Q,S⟩:=IQ hd t k (i+1) O r.1 q f (l++[r.2]) (by rw[Nat.mul_add];exact d2) n H F D (by simp[B]);refine⟨e,g',p,?_,?_,by rw[show i+(k+1)=i+1+k by omega];exact Q,by omega⟩
  .rw[bE,K,aj];exact M
  .rw[bE,L,aj];exact P
theorem MN{fu B:Nat}{b:AW}{g:List (Int×Int)}{l:List Int}(d:2^21+400<fu)(j:GA B b)(h:B<=2^35)(q:b.ps.length<=6)(e:bh):∀(k i:Nat),i+k=b.ps.length->∀(vs:List (Vector Int 10)),vs.length=i->
 ∃f,bE (uW fu b.w l b.ps) k i ((⟨0,l,e,vs⟩:dk),vs)=some ((⟨0,l,e,f⟩:dk),f)/\bE (tk fu (b.r g) g) k i vs=some f
 |0,i,_,vs,_=>⟨vs,X,X⟩
 |k+1,i,t,vs,s=>by
  have hi:i<b.ps.length:=by omega
  have a:room vs [qa fu b.ps[i].bd]=some ():=eu (by simp;omega);have m:uW fu b.w l b.ps i ((⟨0,l,e,vs⟩:dk),vs)=some ((⟨0,l,e,vs++[qa fu b.ps[i].bd]⟩:dk),vs++[qa fu b.ps[i].bd]):=by unfold uW;simp only;rw[show({b.w with all:=b.ps}:bi)=b.w from X,aa7 d j h hi,aj];simp only;rw[a,aj]
  have n:tk fu (b.r g) g i vs=some (vs++[qa fu b.ps[i].bd]):=by unfold tk;rw[show({b.r g with aN:=g}:bj)=b.r g from X,ZT d j h hi,aj,a,aj]
  obtain⟨f,o,p⟩:=MN d j h q e k (i+1) O (vs++[qa fu b.ps[i].bd]) (by simp[s]);exact⟨f,by rw[bE,m,aj];exact o,by rw[bE,n,aj];exact p⟩
theorem L5{fu:Nat}{j:fN}(f:2^21+400<fu)(hd:j.dN.length<=1048576)(h:1<=j.N/\j.N<=6):∃(b:AW)(g:List (Int×Int))(l:List Int)(vs:List (Vector Int 10))(n:Nat)(r0:bj),kI fu j=some ⟨0,l,b.aD,vs⟩/\vk j.N=some r0/\
 bE (tj fu j) j.dN.length 0 (r0,[],r0.aN)=some (b.r g,l,g)/\lj j.N=some n/\bE (tk fu (b.r g) g) n 0 []=some vs:=by
 obtain⟨n,e⟩:=kn (show 0<=j.N by omega);have a:1<=n/\n<=6:=by omega
 obtain⟨b,g,l,i,k,p,s⟩:=IQ (fu:=fu) hd O j.dN.length 0 O (jh n) [] [] [] (GA.new a) PV.new OS.new (Mb.new a) ga.new X;have q:b.ps.length=n:=by rw[s];simp[jh]
 obtain⟨vs,m,o⟩:=MN (l:=l) (g:=g) f p O O b.w.aD n 0 O [] X;have d:lj j.N=some n:=by rw[e];exact(zb O).trans (by simp)
 refine⟨b,g,l,vs,n,(jh n).r [],?_,by rw[e];exact Wk,k,d,o⟩;unfold kI;rw[KA,ce h];unfold alt;simp only;rw[e,Wj a,aj];simp only[kC,aW];rw[show(({dk.zero with fv:=([]:List Int),fy:=([]:List (Vector Int 10))}:dk),(jh n).w,([]:List Int),(jh n).w.all)=((⟨0,[],bh.zero,[]⟩:dk),(jh n).w,[],(jh n).ps)from X,i,aj];simp only;rw[show({b.w with all:=b.ps}:bi)=b.w from X];unfold Cu;rw[aj,<-e,d,aj,m,aj];rfl
theorem L6{fu:Nat}:∀(l:List fN),(∀j∈l,∃r,kI fu j=some r)->∃rs,oE fu l=some rs/\rs.length=l.length/\∀(i:Nat)(j:fN),l[i]?=some j->∃r,rs[i]?=some r/\kI fu j=some r
 |[],_=>⟨[],X,X,λi j h=>by simp at h⟩
 |x::l,h=>by
  obtain⟨r,d⟩:=h x (by simp);obtain⟨rs,e,f,g⟩:=L6 l λj a=>h j (by simp[a]);refine⟨r::rs,by simp only[oE,d,e,aj],by simp[f],λi j a=>?_⟩
  cases i with
  |zero=>simp at a;subst a;exact⟨r,X,d⟩
  |succ i=>exact g i j (by simpa using a)
theorem ZJ{fu:Nat}{a:List fN}{rs:List dk}{i:Nat}{j:fN}{r:dk}(e:2^21+400<fu)(q:a[i]?=some j)(s:rs[i]?=some r)(hd:j.dN.length<=1048576)(d:kI fu j=some r):vj fu a (rs,0) i ()=some (.go ()):=by
 unfold vj;simp only[cY,q,s,aj,or_some];by_cases h:1<=j.N/\j.N<=6
 .obtain⟨b,g,l,vs,n,r0,f,k,m,o,p⟩:=L5 e hd h;obtain rfl:r=_:=dF (d.symm.trans f);rw[cJ (show ¬j.N<1 by omega),cJ (show ¬j.N>6 by omega)];simp only[qT,aW,k,m,o,p,aj];rw[Sf,Sg];simp[AW.r]
 .rw[L4 h]at d;obtain rfl:=dF d;rw[show(decide (j.N<1)||decide (j.N>6))=true by simp;omega,bM];simp
theorem V1{d:Int}{a:List fN}(hd:∀j∈a,j.dN.length<=1048576)(y:a.length<=1048576):nH 4194304 d a=some true:=by
 have e:2^21+400<4194304:=by omega
 generalize x:4194304=fu at e;obtain⟨rs,p,q,s⟩:=L6 (fu:=fu) a λj t=>by
  by_cases h:1<=j.N/\j.N<=6
  .obtain⟨b,g,l,vs,n,r0,k,_⟩:=L5 e (hd j t) h;exact⟨_,k⟩
  .exact⟨_,L4 h⟩
 have f:dT (vj fu a (rs,0)) a.length 0 ()=some (.inl ()):=LT _ _ λi _ hi=>by
  have m:a[i]?=some a[i]:=by simp[show i<a.length by omega]
  obtain⟨r,k,o⟩:=s i _ m;exact ZJ e m k (hd _ (dj m)) o
 unfold nH oD;rw[p,or_some];by_cases h:d<1\/d>8
 .rw[show(decide (d<1)||decide (d>8))=true by simpa using h];rfl
 .rw[show(decide (d<1)||decide (d>8))=false by simpa using h];simp only[aW,aj,kC,q];rw[f,kX]
theorem ZS(e:Int)(a:List fN){p:Prop}(_:p)(d:a.length<=1048576/\∀y∈a,cR.ok 1048576 y):∃fu,nH fu e a=some true:=
 ⟨4194304,V1 (λj f=>(d.2 j f).2.1) d.1⟩
