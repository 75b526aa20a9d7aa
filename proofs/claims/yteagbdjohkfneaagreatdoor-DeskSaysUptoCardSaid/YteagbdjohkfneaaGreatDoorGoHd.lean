/-
  Arguments opened: what reads as data of a type is the cells of some x.
-/
import Derived.Test.YteagbdjohkfneaaGreatDoorGoL
import Derived.Deep.Slices
import Derived.Deep.DeepHandedRow
import Derived.Lay
import Derived.Leaving
import Derived.SevenTiedAt
import Derived.LaidSub
import Derived.Shelf.Strings.OnBuilder
import Derived.Test.YteagbdjohkfneaaGreatDoorProg
import Derived.Shelf.Strconv.Itoa3
import Derived.Lib.AppendIntMem
import Derived.Lib.ItoaLen
import Derived.Shelf.Strings.IndexAnyAll
import Derived.Shelf.Small.Utf8
import Derived.Shelf.SlSortCmp.NoneTotal
namespace Go.Proofs.YteagbdjohkfneaaGreatDoor
open Go.RowKit Go.ChangeShapes Go.WideShapes Go.ChangeAt an
def TD(P:Program)(H:Type)(eh:TypeId×Value->H)(W:World)(t:TypeId)(ρ:Type)[an ρ](e:ρ->Prop):Prop:=
 ∀(d:Nat)(cs:List Value)(x:DataW H×List MemPlace),DataW.trod eh P W 0 (λ_=>true) true d t cs=some x->∃a:ρ,cs=enc a/\e a
section
variable {P:Program}{H:Type}{eh:TypeId×Value->H}{W:World}
theorem TD.mono{t:TypeId}{ρ:Type}[an ρ]{e d:ρ->Prop}(h:TD P H eh W t ρ e)(j:∀a,e a->d a):TD P H eh W t ρ d:=λf cs x k=>by obtain⟨a,g,i⟩:=h f cs x k;exact⟨a,g,j a i⟩
theorem wf_i64{n:Int}(h:(Lit.int .i64 n).wf=true):-9223372036854775808<=n/\n<=9223372036854775807:=by simpa[Lit.wf,IntKind.min,IntKind.max,IntKind.signed,IntKind.bits]using h
theorem TD.int{t:TypeId}(a:P.underlying t=some (.int .i64)):TD P H eh W t Int cJ.ok:=λf cs x e=>by obtain⟨n,rfl,rfl,d⟩:=DataW.trod_int a e;exact⟨n,X,wf_i64 d⟩
theorem TD.u{K:Nat}{k:IntKind}{t:TypeId}[an (BitVec K)](a:∀x:BitVec K,enc x=[.int k (x.toNat:Int)])(d:∀n:Int,(Lit.int k n).wf=true->0<=n/\n<2^K)(e:P.underlying t=some (.int k)):TD P H eh W t (BitVec K) cJ.ok:=λf cs x h=>by
 obtain⟨n,rfl,rfl,g⟩:=DataW.trod_int e h;have:=d n g;refine⟨BitVec.ofNat K n.toNat,?_,cy⟩;rw[a,kP,kO,GS this.1];have i:((2:Int)^K)=((2^K:Nat):Int):=by simp
 omega
theorem TD.u8{t:TypeId}(a:P.underlying t=some (.int .u8)):TD P H eh W t (BitVec 8) cJ.ok:=TD.u (λ_=>rfl) (λn h=>by simp[Lit.wf,IntKind.min,IntKind.max,IntKind.signed,IntKind.bits]at h;omega) a
theorem TD.u16{t:TypeId}(a:P.underlying t=some (.int .u16)):TD P H eh W t (BitVec 16) cJ.ok:=TD.u (λ_=>rfl) (λn h=>by simp[Lit.wf,IntKind.min,IntKind.max,IntKind.signed,IntKind.bits]at h;omega) a
theorem TD.bool{t:TypeId}(a:P.underlying t=some .bool):TD P H eh W t Bool cJ.ok:=λf cs x d=>by obtain⟨b,rfl,_⟩:=DataW.trod_bool a d;exact⟨b,X,cy⟩
theorem TD.str{t:TypeId}(d:P.underlying t=some .string):TD P H eh W t Y cJ.ok:=λf cs x e=>by
 obtain⟨s,rfl,_,a⟩:=DataW.trod_string d e;refine⟨s.data.toList,?_,?_⟩
 .show[Value.string s]=[Y.v s.data.toList]
  simp[Y.v,Y.b]
 .simp only[maxLen]at a;show s.data.toList.length<=_;simpa using a
theorem Kb{e:TypeId}{ρ:Type}[an ρ]{o:ρ->Prop}{m:Nat}(j:TD P H eh W e ρ o)(y:P.cellsOf e=sz ρ):∀(n:Nat)(cs:List Value)(xs:List (DataW H×List MemPlace)),cs.length=n*sz ρ->xs.length=n->
 (∀i,i<n->DataW.trod eh P W 0 (λ_=>true) true m e ((cs.drop (i*sz ρ)).take (sz ρ))=xs[i]?)->∃l:List ρ,l.length=n/\cs=aa l/\∀a∈l,o a
 |0,cs,xs,f,_,_=>⟨[],X,by simpa[aa]using f,by simp⟩
 |n+1,cs,xs,f,k,h=>by
  rw[oC]at f
  cases xs with
  |nil=>simp at k
  |cons x xs=>
   have g:=h 0 O;simp only[vz,eX]at g;obtain⟨a,t,z⟩:=j _ _ _ g;obtain⟨l,p,q,s⟩:=Kb j y n (cs.drop (sz ρ)) xs (by simp;omega) (by simpa using k) λi hi=>by have:=h (i+1) O;rw[oC,yZ,<-nC]at this;simpa using this
   refine⟨a::l,by simp[p],by rw[mc,<-t,<-q,eQ],?_⟩;intro b d;rcases fM.1 d with rfl|d
   .exact z
   .exact s b d
theorem aej{t e:TypeId}{n:Nat}{ρ:Type}[an ρ]{j:ρ->Prop}(z:P.underlying t=some (.array n e))(d:P.cellsOf t=n*sz ρ)(g:P.cellsOf e=sz ρ)(p:TD P H eh W e ρ j):TD P H eh W t (Vector ρ n) (λv=>∀(i:Nat)(x:ρ),v[i]?=some x->j x):=λf cs x A=>by
 obtain⟨xs,m,rfl,rfl,s,y,h⟩:=DataW.trod_array z A;rw[g]at h;obtain⟨l,k,rfl,o⟩:=Kb p g n cs xs (s.trans d) y h;subst k;refine⟨⟨l.toArray,X⟩,X,λi a q=>o a ?_⟩;have:l[i]?=some a:=by simpa using q
 exact j8 this
theorem Hn{α:Type}{p:Nat->α->Prop}:∀m,(∀i,i<m->∃a,p i a)->∃e:List α,e.length=m/\∀(i:Nat)(a:α),e[i]?=some a->p i a
 |0,_=>⟨[],X,by simp⟩
 |m+1,h=>by
  obtain⟨e,f,g⟩:=Hn m λi hi=>h i O;obtain⟨a,j⟩:=h m O;refine⟨e++[a],by simp[f],λi b d=>?_⟩;rw[List.getElem?_append]at d;split at d
  .exact g i b d
  .have:i-e.length=0:=by
    have:=(eO.1 d).1;simp at this;omega
   rw[this]at d;simp at d;have:i=m:=by omega
   subst this d;exact j
theorem BK{w:World}{b:Addr}{n:Nat}{l:List Value}(h:w.cells? 0 b n=some l):l.length=n/\∀j,j<n->w.cell? (b.add j)=l[j]?:=by unfold World.cells? at h;rw[bE (kQ _)]at h;exact⟨by simpa using mapM_some_length h,λj a=>mapM_some_get h j j (by simp[a])⟩
theorem TD.slice{t e:TypeId}{ρ:Type}[an ρ]{ok:ρ->Prop}(hu:P.underlying t=some (.slice e))(hc:P.cellsOf e=sz ρ)(h0:0<sz ρ)(hE:TD P H eh W e ρ ok):
 TD P H eh W t (LR ρ) (λa=>LR.rel W (bM.of W) [] a/\a.v.length<=2^63-1/\∀r∈a.v,ok r):=λf cs x hx=>by
 rcases Go.Deep.open_slice hu hx with⟨rfl,_⟩|⟨a,len,cap,m,n,D,Pl,rfl,_,yP,Gg,hm,_,Gi⟩
 .exact⟨⟨[],Sl.nil⟩,X,mm,by simp,by simp⟩
 .rw[bE X]at hm;subst hm;simp only[maxLen]at Gg;have o:∀i,i<m->∃a':ρ,W.cells? 0 (a.add (i*sz ρ)) (sz ρ)=some (enc a')/\ok a':=λi hi=>by
   obtain⟨cs',h1,h2⟩:=Gi i hi;obtain⟨a',rfl,oa⟩:=hE _ _ _ h2;rw[hc]at h1;exact⟨a',h1,oa⟩
  obtain⟨g,Gu,y⟩:=Hn m o;refine⟨⟨g.take len,⟨some a,len,m⟩⟩,X,?_,by simp;omega,λr hr=>?_⟩
  .by_cases Gr:m=0
   .subst Gr;have Gn:len=0:=by omega
    subst Gn;intro w hw;exact⟨0,(0,0),by simp[aa],by simp,.inl ⟨X,X⟩⟩
   .have p:∃B,g[0]?=some B:=⟨g[0]'O,by simp⟩
    obtain⟨B,Gt⟩:=p;have F:=(BK (y 0 B Gt).1).2 0 h0;have WA:(enc B).length=sz ρ:=an.len B;have z:∃v0,W.cell? a=some v0:=by
     have e:(a.add (0*sz ρ)).add 0=a:=by simp[Addr.add]
     rw[e]at F;exact⟨(enc B)[0]'O,by rw[F];simp⟩
    obtain⟨v0,h⟩:=z;have M:∃d t A,W.heap[a.block]?=some (.cells d t A)/\a.spot=none:=by
     unfold World.cell? at h;split at h
     .rename_i c t A L;refine⟨c,t,A,L,?_⟩;split at h
      .cases h
      .rename_i hs;simpa using hs
     .cases h
    obtain⟨d,t',A,L,V⟩:=M;obtain⟨ak,off,sp⟩:=a;simp only at V L;subst V;have l:∀q,W.cell? ⟨ak,q,none⟩=d.toList[q]?:=λq=>by simp[World.cell?,L]
    have K:∀(i:Nat)(r:ρ)(j:Nat),g[i]?=some r->j<sz ρ->d.toList[off+i*sz ρ+j]?=(enc r)[j]?:=λi r j hr hj=>by have:=(BK (y i r hr).1).2 j hj;rw[kL,kL,l]at this;exact this
    have S:∀k,k<=m->(d.toList.drop off).take (k*sz ρ)=aa (g.take k):=by
     intro k
     induction k with
     |zero=>intro _;simp[aa]
     |succ k ih=>
      intro hk;have ql:k<g.length:=by omega
      have T:g[k]?=some g[k]:=by simp[ql]
      rw[mN,T,Co,hC,<-ih O,oC,List.take_add];congr 1;rw[nC];simp only[mc,yi,is];apply pB;intro j;by_cases hj:j<sz ρ
      .rw[Cz hj,tK,<-K k _ j T hj]
      .rw[jA (by simp;omega),jA (by rw[an.len];omega)]
    have C:(d.toList.drop off).take (m*sz ρ)=aa g:=by have:=S m (dG _);rwa[show g.take m=g from gN O]at this
    intro w hw;have hb:w.heap[ak]?=some (.cells d t' A):=hw.kv ak _ L;have s:d.toList=d.toList.take off++(aa (g.take len)++(aa (g.drop len)++(d.toList.drop off).drop (m*sz ρ))):=by rw[<-fL (aa _),<-hC,eQ,<-C,eQ,eQ]
    have Q:off<=d.toList.length:=by have:=(eO.1 ((l off).symm.trans h)).1;omega
    refine⟨t',A,?_,by simp only;omega,.inr ⟨ak,off,d.toList.take off,aa (g.drop len)++(d.toList.drop off).drop (m*sz ρ),X,?_,by rw[fE];exact ir Q,yP,?_⟩⟩
    .rw[eD,fE,ir O]
    .show w.heap[ak]?=_;rw[<-s];exact hb
    .rw[<-fL,<-hC,eQ,cH,eD,Gu];exact oB _ _
  .obtain⟨i,hi⟩:=ji (pF hr);exact(y i r hi).2
theorem Tz{r:Reach}{b:Nat}{t:TypeId}{v:Value}{a:Y}(e:P.underlying t=some .string)(h:Value.okWide P W r b t v)(d:v.cells.toList=enc a):v=Y.v a:=by
 simp only[Value.okWide,e,Cell.okWide,Cell.ok]at h;cases v<;>simp at h
 have:[Value.string _]=[Y.v a]:=d;simpa using this
end
structure Bg{H:Type}(μ:DataW H->Nat):Prop where
 str:∀s,s.length<=μ (.lit (.string s))
 len:∀es sp,es.length<=μ (.slice es sp)
 el:∀es sp d,d∈es\/d∈sp->μ d<=μ (.slice es sp)
 part:∀ps d,d∈ps->μ d<=μ (.agg ps)
def TB(P:Program)(H:Type)(eh:TypeId×Value->H)(W:World)(μ:DataW H->Nat)(B:Nat)(t:TypeId)(ρ:Type)[an ρ](e:ρ->Prop):Prop:=
 ∀(d:Nat)(cs:List Value)(x:DataW H×List MemPlace),DataW.trod eh P W 0 (λ_=>true) true d t cs=some x->μ x.1<=B->∃a:ρ,cs=enc a/\e a
section
variable {P:Program}{H:Type}{eh:TypeId×Value->H}{W:World}{μ:DataW H->Nat}{B:Nat}
theorem TB.int{t:TypeId}(a:P.underlying t=some (.int .i64)):TB P H eh W μ B t Int (dk.ok B):=λf cs x d _=>TD.int a f cs x d
theorem TB.u8{t:TypeId}(a:P.underlying t=some (.int .u8)):TB P H eh W μ B t (BitVec 8) (dk.ok B):=λf cs x d _=>TD.u8 a f cs x d
theorem TB.u16{t:TypeId}(a:P.underlying t=some (.int .u16)):TB P H eh W μ B t (BitVec 16) (dk.ok B):=λf cs x d _=>TD.u16 a f cs x d
theorem TB.bool{t:TypeId}(a:P.underlying t=some .bool):TB P H eh W μ B t Bool (dk.ok B):=λf cs x d _=>TD.bool a f cs x d
theorem TB.str{t:TypeId}(a:Bg μ)(e:P.underlying t=some .string):TB P H eh W μ B t Y (dk.ok B):=λf cs x g d=>by
 obtain⟨s,rfl,rfl,h⟩:=DataW.trod_string e g;refine⟨s.data.toList,?_,?_⟩
 .show[Value.string s]=[Y.v s.data.toList]
  simp[Y.v,Y.b]
 .exact kC (a.str _) d
theorem Kc{e:TypeId}{ρ:Type}[an ρ]{o:ρ->Prop}{m:Nat}(j:TB P H eh W μ B e ρ o)(z:P.cellsOf e=sz ρ):∀(n:Nat)(cs:List Value)(xs:List (DataW H×List MemPlace)),cs.length=n*sz ρ->xs.length=n->(∀x∈xs,μ x.1<=B)->
 (∀i,i<n->DataW.trod eh P W 0 (λ_=>true) true m e ((cs.drop (i*sz ρ)).take (sz ρ))=xs[i]?)->∃l:List ρ,l.length=n/\cs=aa l/\∀a∈l,o a
 |0,cs,xs,f,_,_,_=>⟨[],X,by simpa[aa]using f,by simp⟩
 |n+1,cs,xs,f,k,d,h=>by
  rw[oC]at f
  cases xs with
  |nil=>simp at k
  |cons x xs=>
   have g:=h 0 O;simp only[vz,eX]at g;obtain⟨a,t,C⟩:=j _ _ _ g (d x (by simp));obtain⟨l,p,q,s⟩:=Kc j z n (cs.drop (sz ρ)) xs (by simp;omega) (by simpa using k) (λy A=>d y (by simp[A])) λi hi=>by have:=h (i+1) O;rw[oC,yZ,<-nC]at this;simpa using this
   refine⟨a::l,by simp[p],by rw[mc,<-t,<-q,eQ],?_⟩;intro b d;rcases fM.1 d with rfl|d
   .exact C
   .exact s b d
theorem aei{t e:TypeId}{n:Nat}{ρ:Type}[an ρ]{o:ρ->Prop}(j:Bg μ)(D:P.underlying t=some (.array n e))(d:P.cellsOf t=n*sz ρ)(k:P.cellsOf e=sz ρ)(y:TB P H eh W μ B e ρ o):TB P H eh W μ B t (Vector ρ n) (λv=>∀(i:Nat)(x:ρ),v[i]?=some x->o x):=λf cs x g s=>by
 obtain⟨xs,m,rfl,rfl,A,C,h⟩:=DataW.trod_array D g;rw[k]at h;obtain⟨l,p,rfl,q⟩:=Kc y k n cs xs (A.trans d) C (λx g=>kC (j.part _ _ (zn g)) s) h;subst p;refine⟨⟨l.toArray,X⟩,X,λi a z=>q a ?_⟩;have:l[i]?=some a:=by simpa using z
 exact j8 this
theorem TB.slice{t e:TypeId}{ρ:Type}[an ρ]{ok:ρ->Prop}(hu:P.underlying t=some (.slice e))(hc:P.cellsOf e=sz ρ)(h0:0<sz ρ)(LL:Bg μ)(hE:TB P H eh W μ B e ρ ok):
 TB P H eh W μ B t (LR ρ) (λa=>LR.rel W (bM.of W) [] a/\a.v.length<=B/\∀r∈a.v,ok r):=λf cs x hx hB=>by
 rcases Go.Deep.open_slice hu hx with⟨rfl,_⟩|⟨a,len,cap,m,n,D,Pl,rfl,_,yP,Gg,hm,qo,Gi⟩
 .exact⟨⟨[],Sl.nil⟩,X,mm,by simp,by simp⟩
 .rw[bE X]at hm;subst hm;simp only[maxLen]at Gg;subst qo;have hlB:len<=B:=by have:=LL.len ((List.range len).map D) ((List.range (m-len)).map λj=>D (len+j));simp only[fk,List.length_range]at this;simp only at hB;omega
  simp only at hB;have o:∀i,i<m->∃a':ρ,W.cells? 0 (a.add (i*sz ρ)) (sz ρ)=some (enc a')/\ok a':=λi hi=>by
   obtain⟨cs',h1,h2⟩:=Gi i hi;have Vo:μ (D i)<=B:=by
    refine kC (LL.el _ _ _ ?_) hB;by_cases Gk:i<len
    .exact .inl (mS.2 ⟨i,pp.2 Gk,X⟩)
    .exact .inr (mS.2 ⟨i-len,pp.2 O,by show D (len+(i-len))=D i;rw[show len+(i-len)=i by omega]⟩)
   obtain⟨a',rfl,oa⟩:=hE _ _ _ h2 Vo;rw[hc]at h1;exact⟨a',h1,oa⟩
  obtain⟨g,Gu,y⟩:=Hn m o;refine⟨⟨g.take len,⟨some a,len,m⟩⟩,X,?_,by simp;omega,λr hr=>?_⟩
  .by_cases Gr:m=0
   .subst Gr;have Gn:len=0:=by omega
    subst Gn;intro w hw;exact⟨0,(0,0),by simp[aa],by simp,.inl ⟨X,X⟩⟩
   .have p:∃C,g[0]?=some C:=⟨g[0]'O,by simp⟩
    obtain⟨C,Gt⟩:=p;have K:=(BK (y 0 C Gt).1).2 0 h0;have WA:(enc C).length=sz ρ:=an.len C;have z:∃v0,W.cell? a=some v0:=by
     have e:(a.add (0*sz ρ)).add 0=a:=by simp[Addr.add]
     rw[e]at K;exact⟨(enc C)[0]'O,by rw[K];simp⟩
    obtain⟨v0,h⟩:=z;have Q:∃d t A,W.heap[a.block]?=some (.cells d t A)/\a.spot=none:=by
     unfold World.cell? at h;split at h
     .rename_i c t A M;refine⟨c,t,A,M,?_⟩;split at h
      .cases h
      .rename_i hs;simpa using hs
     .cases h
    obtain⟨d,t',A,M,LE⟩:=Q;obtain⟨ak,off,sp⟩:=a;simp only at LE M;subst LE;have l:∀q,W.cell? ⟨ak,q,none⟩=d.toList[q]?:=λq=>by simp[World.cell?,M]
    have L:∀(i:Nat)(r:ρ)(j:Nat),g[i]?=some r->j<sz ρ->d.toList[off+i*sz ρ+j]?=(enc r)[j]?:=λi r j hr hj=>by have:=(BK (y i r hr).1).2 j hj;rw[kL,kL,l]at this;exact this
    have T:∀k,k<=m->(d.toList.drop off).take (k*sz ρ)=aa (g.take k):=by
     intro k
     induction k with
     |zero=>intro _;simp[aa]
     |succ k ih=>
      intro hk;have ql:k<g.length:=by omega
      have V:g[k]?=some g[k]:=by simp[ql]
      rw[mN,V,Co,hC,<-ih O,oC,List.take_add];congr 1;rw[nC];simp only[mc,yi,is];apply pB;intro j;by_cases hj:j<sz ρ
      .rw[Cz hj,tK,<-L k _ j V hj]
      .rw[jA (by simp;omega),jA (by rw[an.len];omega)]
    have F:(d.toList.drop off).take (m*sz ρ)=aa g:=by have:=T m (dG _);rwa[show g.take m=g from gN O]at this
    intro w hw;have hb:w.heap[ak]?=some (.cells d t' A):=hw.kv ak _ M;have s:d.toList=d.toList.take off++(aa (g.take len)++(aa (g.drop len)++(d.toList.drop off).drop (m*sz ρ))):=by rw[<-fL (aa _),<-hC,eQ,<-F,eQ,eQ]
    have S:off<=d.toList.length:=by have:=(eO.1 ((l off).symm.trans h)).1;omega
    refine⟨t',A,?_,by simp only;omega,.inr ⟨ak,off,d.toList.take off,aa (g.drop len)++(d.toList.drop off).drop (m*sz ρ),X,?_,by rw[fE];exact ir S,yP,?_⟩⟩
    .rw[eD,fE,ir O]
    .show w.heap[ak]?=_;rw[<-s];exact hb
    .rw[<-fL,<-hC,eQ,cH,eD,Gu];exact oB _ _
  .obtain⟨i,hi⟩:=ji (pF hr);exact(y i r hi).2
theorem Ty{t:TypeId}{v:Value}{d:DataW H}{ps:List MemPlace}{ρ:Type}[an ρ]{e:ρ->Prop}(h:DataW.Trod eh P W 0 (λ_=>true) true t v d ps)(g:μ d<=B)(i:TB P H eh W μ B t ρ e):∃a:ρ,v.cells.toList=enc a/\e a:=by obtain⟨f,j⟩:=h;exact i f _ _ j g
end
theorem acY{C:Checked}{os:Os}{f:FuncId}{h:Func}{s:OpenSpec}{H:Type}{enc:TypeId×Value->H}{k:(H:Type)->List (DataW H)->Bool}{a:List (String×DataW Unit)}(n:s.cond=some k)(args:Array Value)(e:Nat)
 (l:((World.laidAll C.prog os a).forCall (λ_ _=>0) ⟨#[],args,[]⟩).Shaped C.prog)
 (g:Input.okWideB C.prog ((World.laidAll C.prog os a).forCall (λ_ _=>0) ⟨#[],args,[]⟩) f ⟨#[],args,[]⟩=true)
 {x:List (DataW H)×List (DataW H)×List MemPlace} (p:DataW.whole enc C.prog ((World.laidAll C.prog os a).forCall (λ_ _=>0) ⟨#[],args,[]⟩).memory h.params.toList s.vars false args.toList e=some x)
 (j:k H (x.1++x.2.1)=true)
 (m:s.bare.sizedB enc C.prog h false ((World.laidAll C.prog os a).forCall (λ_ _=>0) ⟨#[],args,[]⟩).memory args e=true)
 (o:laidMetH C.prog a ((World.laidAll C.prog os a).forCall (λ_ _=>0) ⟨#[],args,[]⟩).memory):
 ∃(w:World)(d:Tape)(i:Input),w.os=os/\(w.forCall d i).Shaped C.prog/\i.vars=[]/\Input.okWide C.prog (w.forCall d i) .any w.heap.size f i/\
  s.preRow enc C.prog h [] false a (w.forCall d i).memory i.args/\({}:Assume).holds C.prog (lone (Frame.enter C.prog f i.args .normal) [] (w.forCall d i)):=
 ⟨World.laidAll C.prog os a,λ_ _=>0,⟨#[],args,[]⟩,World.laidAll_os _ _ _,l,(Input.okWide_of_okWideB (base:=0) g).1,(Input.okWide_of_okWideB g).2,
  ⟨⟨(OpenSpec.pre_some n [] false _ _).2 ⟨x.1,x.2.1,x.2.2,DataW.Whole_of_whole p,X,j⟩,o⟩,sizedMet_of_sizedB m⟩,by
  simp only[Assume.holds]
  exact⟨by simp,by simp,λ_=>Modest.zero,by simp,by simp⟩⟩
theorem Xz{C:Checked}{f:FuncId}{o:Func}{s:ChangeSpec}{S:OpenSpec}{k:(H:Type)->List (DataW H)->Bool}{tb:TypeId}{H:Type}{enc:TypeId×Value->H}{os:Os}{F:Stop.Interp}{l:List (String×DataW Unit)}
 (hS:S={OpenSpec.ofChange s with cond:=some k})
 (own:ownKnob C.prog.godebug=none) (m:os.Started) (y:C.prog.inits.idxOf? f=none) (T:C.prog.funcs[f]?=some o)
 (n:∃(w:World)(d:Tape)(i:Input),w.os=os/\(w.forCall d i).Shaped C.prog/\i.vars=[]/\Input.okWide C.prog (w.forCall d i) .any w.heap.size f i/\
  S.preRow enc C.prog o [] false l (w.forCall d i).memory i.args/\({}:Assume).holds C.prog (lone (Frame.enter C.prog f i.args .normal) [] (w.forCall d i)))
 (hl:laidOutB C.prog=true) (V:∀t∈o.params.toList,C.prog.readableRec t=true/\t<C.prog.types.size)
 (D:o.resultTypes=#[tb]) (hb:C.prog.underlying tb=some .bool) (hv:s.vars=[])
 (hs:∀g:List (DataW H),g.length=o.params.toList.length->s.fn H g={results:=[.lit (.bool true)],args:=g})
 (walk:∀(W:World)(base:Nat)(args:Array Value)(g:List (DataW H))(p:List MemPlace),
  (∀(j:Nat)t v,o.params[j]?=some t->args[j]?=some v->Value.okWide C.prog W .any base t v)->
  DataW.TrodAll enc C.prog W 0 (λ_=>true) true o.params.toList args.toList g p->
  k H g=true->laidMetH C.prog l W->
  Calls C.prog f args W λe W'=>e=.returned (.bool true)/\Ext W W'):
 ReturnsInHanded {} C os f .any (S.preRow enc C.prog o [] false l) ((S.at F).post enc C.prog o false true false false):=by
 subst hS;refine returnsInHanded_of_row own m y T n ?_;intro W base args g gs L K hW _ M _ hL _ _;have z:=hW;obtain⟨p,q,Q,hV,rfl,hfz,hnd⟩:=hW;have LH:({OpenSpec.ofChange s with cond:=some k}:OpenSpec).vars=[]:=hv;rw[LH]at hV;obtain⟨rfl,rfl⟩:=trodVars_none hV;have A:g.length=o.params.toList.length:=Ox Q;have M:=M k X;rw[is]at M;refine(walk W base args g p K Q M hL).mono λe W'⟨he,hx⟩=>?_;subst he;have a:(({OpenSpec.ofChange s with cond:=some k}:OpenSpec).at F).fn H g={results:=[.lit (.bool true)],args:=g}:=hs g A;refine⟨_,X,g,[],p++[],[],p,[],z,?_,?_,?_,Below.frame hx _,λh=>by cases h⟩
 .rw[is,a,D];exact trodAll_mk1 (shut_bool hb true)
 .rw[is,a];exact Ow hl hx V Q (λx qo=>z.lt x (by simpa using qo))
 .rw[is,a];have LJ:(({OpenSpec.ofChange s with cond:=some k}:OpenSpec).at F).vars=[]:=hv;rw[LJ];rfl
theorem aco{P:Program}{W:World}{a:List (String×DataW Unit)}{g:Nat}{t e:TypeId}{n:Nat}(m:P.globalNamed "internal/strconv.uint64pow10"=some g)(i:(P.globals[g]?).map (·.type)=some t)(o:P.underlying t=some (.array n e))(k:P.underlying e=some (.int .u64))
 (d:P.cellsOf e=1) (f:P.cellsOf t=n) (hp:(a.all λx=>x.2.handleName?.isNone)=true) (l:(a.filter λx=>x.1== "internal/strconv.uint64pow10")=[("internal/strconv.uint64pow10",Lib.tabData .u64 Lib.pow10Tab)]) (h:laidMetH P a W):fA P W:=by
 rw[MakeChecks.laidMetH_plain _ _ _ hp]at h;have j:=laidMet.filter (λx=>x.1== "internal/strconv.uint64pow10") h;rw[l]at j;exact Lib.tabIs_of_head m i o k d f j
end Go.Proofs.YteagbdjohkfneaaGreatDoor
namespace Go.Proofs.YteagbdjohkfneaaGreatDoor
open an
theorem OB{α:Type}{m:Nat}(v:Vector α m)(i:Nat):cI v (i:Int)=v[i]?:=by simp[cI]
theorem cK{α:Type}(l:List α)(i:Nat):bh l (i:Int)=l[i]?:=by simp[bh]
theorem uF{α:Type}{m:Nat}(v:Vector α m){i:Nat}(h:i<m):cI v (i:Int)=some v[i]:=by rw[OB];simp[h]
theorem OA{α:Type}{m:Nat}(v:Vector α m){i:Int}(a:0<=i)(h:i<m):∃x,cI v i=some x:=by obtain⟨k,rfl⟩:=Cu a;exact⟨v[k]'O,uF v O⟩
theorem or_some(c x:Bool):(bif c then some true else some x)=some (c||x):=by cases c<;>rfl
theorem iR(c x:Bool):(bif c then some x else some false)=some (c&&x):=by cases c<;>rfl
theorem oi{α:Type}(c:Bool)(x y:α):(bif c then some x else some y)=some (bif c then x else y):=by cases c<;>rfl
theorem NF{σ e:Type}{f g:Nat->σ->Option (di σ e)}:∀(k i:Nat)(s:σ),(∀j s,i<=j->j<i+k->f j s=g j s)->cM f k i s=cM g k i s
 |0,_,_,_=>rfl
 |k+1,i,s,h=>by
  unfold cM;rw[h i s O O];congr 1;funext c
  cases c with
  |go d=>exact NF k (i+1) d λj s a b=>h j s O O
  |brk d=>rfl
  |ret t=>rfl
theorem HK{σ:Type}{body:Nat->σ->Option σ}(d:Nat->σ->Prop):∀(k i:Nat)(s:σ),d i s->(∀j s,i<=j->j<i+k->d j s->∃e,body j s=some e/\d (j+1) e)->∃e,bC body k i s=some e/\d (i+k) e
 |0,i,s,h,_=>⟨s,X,h⟩
 |k+1,i,s,h,f=>by obtain⟨o,g,l⟩:=f i s O O h;obtain⟨p,m,n⟩:=HK d k (i+1) o l λj s a b=>f j s O O;exact⟨p,by unfold bC;rw[g];exact m,by rw[show i+(k+1)=i+1+k by omega];exact n⟩
theorem NE{σ:Type}{f g:Nat->σ->Option σ}(d:Nat->σ->Prop):∀(k i:Nat)(s:σ),d i s->(∀j s,i<=j->j<i+k->d j s->f j s=g j s/\∃l,g j s=some l/\d (j+1) l)->bC f k i s=bC g k i s/\∃l,bC g k i s=some l/\d (i+k) l
 |0,i,s,h,_=>⟨X,s,X,h⟩
 |k+1,i,s,h,n=>by obtain⟨o,x,m,p⟩:=n i s O O h;obtain⟨e,y,q,t⟩:=NE d k (i+1) x p λj s a b=>n j s O O;refine⟨?_,y,by unfold bC;rw[m];exact q,by rw[show i+(k+1)=i+1+k by omega];exact t⟩;unfold bC;rw[o,m];exact e
theorem jK{σ a:Type}{s:σ}{f:σ->Option a}:andThen (some (.inl s)) f=f s:=X
theorem dm{α:Type}{l m:List α}(h:l.length+m.length<=2^40):room l m=some ():=by simp[room,h]
theorem D8{n:Int}(h:n<=2^63-1):iO n=some n.toNat:=by unfold iO;rw[bE h]
def cc{α:Type}(x:Option α)(Q:α->Prop):Prop:=∃r,x=some r/\Q r
namespace cc
variable {α β σ τ:Type}
theorem mx{a:α}{Q:α->Prop}:cc (some a) Q↔Q a:=⟨λ⟨_,h,q⟩=>by cases h;exact q,λh=>⟨a,X,h⟩⟩
theorem CN{Q:α->Prop}:cc none Q↔False:=⟨λ⟨_,h,_⟩=>(by cases h),False.elim⟩
theorem J7{x:Option α}{f:α->Option β}{Q:β->Prop}:cc (x.bind f) Q↔cc x λa=>cc (f a) Q:=by
 cases x with
 |none=>exact⟨λ⟨_,h,_⟩=>(by cases h),λ⟨_,h,_⟩=>(by cases h)⟩
 |some a=>rw[lk,mx]
theorem GH{c:Bool}{x y:Option α}{Q:α->Prop}:cc (bif c then x else y) Q↔(c=true->cc x Q)/\(c=false->cc y Q):=by cases c<;>simp
theorem XM{x:β}{f:β->Option α}{Q:α->Prop}:cc (Let x f) Q↔cc (f x) Q:=Iff.rfl
def BD(A:σ->Prop)(B:τ->Prop):σ ⊕ τ->Prop
 |.inl s=>A s
 |.inr t=>B t
theorem Xf{A:σ->Prop}{B:τ->Prop}{s:σ}:BD A B (.inl s)↔A s:=Iff.rfl
theorem Ce{A:σ->Prop}{B:τ->Prop}{t:τ}:BD A B (.inr t)↔B t:=Iff.rfl
theorem E6{x:Option (σ ⊕ τ)}{f:σ->Option τ}{Q:τ->Prop}:cc (andThen x f) Q↔cc x (BD (λs=>cc (f s) Q) Q):=by unfold andThen;rw[J7];constructor<;>rintro⟨o,h,q⟩<;>refine⟨o,h,?_⟩<;>cases o<;>simp_all [mx,BD]
theorem mono{x:Option α}{Q Q':α->Prop}(h:cc x Q)(d:∀a,Q a->Q' a):cc x Q':=h.imp λ_⟨e,q⟩=>⟨e,d _ q⟩
theorem of_eq{x:Option α}{a:α}{Q:α->Prop}(h:x=some a)(q:Q a):cc x Q:=⟨a,h,q⟩
theorem eq{x:Option α}{a:α}(h:cc x (·=a)):x=some a:=by obtain⟨_,d,rfl⟩:=h;exact d
theorem acE{n:Nat}{v:Vector α n}{i:Nat}{Q:α->Prop}:cc (cI v (i:Int)) Q↔∃h:i<n,Q v[i]:=by
 rw[OB];constructor
 .rintro⟨x,h,q⟩;obtain⟨a,rfl⟩:=Vector.getElem?_eq_some_iff.1 h;exact⟨a,q⟩
 .rintro⟨h,q⟩;exact⟨_,by simp[h],q⟩
theorem Xw{l:List α}{i:Nat}{Q:α->Prop}:cc (bh l (i:Int)) Q↔∃h:i<l.length,Q l[i]:=by
 rw[cK];constructor
 .rintro⟨x,h,q⟩;obtain⟨a,rfl⟩:=eO.1 h;exact⟨a,q⟩
 .rintro⟨h,q⟩;exact⟨_,by simp[h],q⟩
theorem HO{l m:List α}{Q:Unit->Prop}:cc (room l m) Q↔l.length+m.length<=2^40/\Q ():=by
 unfold room;split
 .rename_i h;rw[mx];exact⟨λq=>⟨h,q⟩,λq=>q.2⟩
 .rename_i h;rw[CN];exact⟨False.elim,λq=>h q.1⟩
theorem acB{n:Int}{Q:Nat->Prop}:cc (iO n) Q↔n<=2^63-1/\Q n.toNat:=by
 unfold iO;split
 .rename_i h;rw[mx];exact⟨λq=>⟨h,q⟩,λq=>q.2⟩
 .rename_i h;rw[CN];exact⟨False.elim,λq=>h q.1⟩
theorem Mn{n:Int}{Q:Nat->Prop}:cc (gP n) Q↔(0<=n/\n<=2^40)/\Q n.toNat:=by
 unfold gP;split
 .rename_i h;rw[mx];exact⟨λq=>⟨h,q⟩,λq=>q.2⟩
 .rename_i h;rw[CN];exact⟨False.elim,λq=>h q.1⟩
theorem Ut{l:List α}{i j:Int}{Q:List α->Prop}:cc (bY l i j) Q↔(0<=i/\i<=j/\j<=l.length)/\Q ((l.drop i.toNat).take (j.toNat-i.toNat)):=by
 unfold bY;split
 .rename_i h;rw[mx];exact⟨λq=>⟨h,q⟩,λq=>q.2⟩
 .rename_i h;rw[CN];exact⟨False.elim,λq=>h q.1⟩
theorem bC{body:Nat->σ->Option σ}{Q:σ->Prop}(d:Nat->σ->Prop):∀{k i:Nat}{s:σ},d i s->(∀j s,i<=j->j<i+k->d j s->cc (body j s) (d (j+1)))->(∀s,d (i+k) s->Q s)->cc (YteagbdjohkfneaaGreatDoor.bC body k i s) Q
 |0,i,s,h,_,e=>⟨s,X,e s h⟩
 |k+1,i,s,h,o,e=>by obtain⟨x,p,q⟩:=o i s O O h;unfold YteagbdjohkfneaaGreatDoor.bC;rw[p];exact bC d q (λj s a b=>o j s O O) (λs t=>e s (by rwa[show i+(k+1)=i+1+k by omega]))
def sQ(a B:σ->Prop)(R:τ->Prop):di σ τ->Prop
 |.go s=>a s
 |.brk s=>B s
 |.ret t=>R t
theorem Vk{a B:σ->Prop}{R:τ->Prop}{s:σ}:sQ a B R (.go s)↔a s:=Iff.rfl
theorem TL{a B:σ->Prop}{R:τ->Prop}{s:σ}:sQ a B R (.brk s)↔B s:=Iff.rfl
theorem HM{a B:σ->Prop}{R:τ->Prop}{t:τ}:sQ a B R (.ret t)↔R t:=Iff.rfl
theorem cM{body:Nat->σ->Option (di σ τ)}{Q:σ ⊕ τ->Prop}(d:Nat->σ->Prop):∀{k i:Nat}{s:σ},d i s->
 (∀j s,i<=j->j<i+k->d j s->cc (body j s) (sQ (d (j+1)) (λs=>Q (.inl s)) (λt=>Q (.inr t))))->(∀s,d (i+k) s->Q (.inl s))->cc (YteagbdjohkfneaaGreatDoor.cM body k i s) Q
 |0,i,s,h,_,o=>⟨_,X,o s h⟩
 |k+1,i,s,h,p,o=>by
  obtain⟨c,q,e⟩:=p i s O O h;unfold YteagbdjohkfneaaGreatDoor.cM;rw[q]
  cases c with
  |go x=>exact cM d e (λj s a b=>p j s O O) (λs y=>o s (by rwa[show i+(k+1)=i+1+k by omega]))
  |brk x=>exact⟨_,X,e⟩
  |ret t=>exact⟨_,X,e⟩
theorem cw{body:σ->Option (di σ τ)}{Q:σ ⊕ τ->Prop}(a:σ->Prop)(e:σ->Nat):∀{fu:Nat}{s:σ},a s->e s<fu->
 (∀s,a s->cc (body s) (sQ (λj=>a j/\e j<e s) (λs=>Q (.inl s)) (λt=>Q (.inr t))))->cc (YteagbdjohkfneaaGreatDoor.cw body fu s) Q
 |0,s,_,o,_=>by omega
 |fu+1,s,h,o,i=>by
  obtain⟨c,k,d⟩:=i s h;unfold YteagbdjohkfneaaGreatDoor.cw;rw[k]
  cases c with
  |go p=>exact cw a e d.1 (by have:=d.2;omega) i
  |brk p=>exact⟨_,X,d⟩
  |ret t=>exact⟨_,X,d⟩
end cc
def upd{α:Type}(f:Nat->α)(i:Nat)(x:α):Nat->α:=λj=>if j=i then x else f j
theorem sD{α:Type}{f:Nat->α}{i:Nat}{x:α}:upd f i x i=x:=by simp[upd]
theorem sC{α:Type}{f:Nat->α}{i j:Nat}{x:α}(h:j≠i):upd f i x j=f j:=by simp[upd,h]
def kI{α:Type}{n:Nat}(v:Vector α n)(f:Nat->α):Prop:=∀(i:Nat)(h:i<n),v[i]=f i
namespace kI
variable {α:Type}{n:Nat}{v w:Vector α n}{f g:Nat->α}
theorem rep{x:α}:kI (Vector.replicate n x) λ_=>x:=λi h=>by simp
theorem set(h:kI v f)(i:Nat)(x:α):kI (v.setIfInBounds i x) (upd f i x):=λj a=>by
 by_cases e:j=i
 .subst e;rw[sD];simp
 .rw[sC e,mO a (λe'=>e e'.symm)];exact h j a
theorem ext(h:kI v f)(k:kI w f):v=w:=by apply rP;intro i hi;rw[h i hi,k i hi]
theorem to(h:kI v f)(e:∀i,i<n->f i=g i):kI v g:=λi hi=>(h i hi).trans (e i hi)
theorem cI(h:kI v f){i:Nat}(hi:i<n):YteagbdjohkfneaaGreatDoor.cI v (i:Int)=some (f i):=by rw[uF v hi,h i hi]
end kI
def f9{α:Type}(l:List α)(n:Nat)(f:Nat->α):Prop:=l.length=n/\∀(i:Nat),i<n->l[i]?=some (f i)
namespace f9
variable {α:Type}{n:Nat}{l m:List α}{f g:Nat->α}
theorem rep{x:α}:f9 (List.replicate n x) n λ_=>x:=⟨by simp,λi h=>by simp[h]⟩
theorem nil:f9 ([]:List α) 0 f:=⟨X,λi h=>by omega⟩
theorem set(h:f9 l n f)(i:Nat)(x:α):f9 (l.set i x) n (upd f i x):=⟨by simp[h.1],λj a=>by
 by_cases e:j=i
 .subst e;rw[sD,fY (by rw[h.1];exact a)]
 .rw[sC e,iu (λe'=>e e'.symm)];exact h.2 j a⟩
theorem snoc(h:f9 l n f){x:α}(a:x=f n):f9 (l++[x]) (n+1) f:=⟨by simp[h.1],λj d=>by
 by_cases e:j=n
 .subst e;rw[lR (by rw[h.1];omega),h.1];simp[a]
 .rw[it (by rw[h.1];omega)];exact h.2 j O⟩
theorem ext(h:f9 l n f)(k:f9 m n f):l=m:=by
 apply pB;intro i;by_cases hi:i<n
 .rw[h.2 i hi,k.2 i hi]
 .rw[jA (by rw[h.1];omega),jA (by rw[k.1];omega)]
theorem to(h:f9 l n f)(e:∀i,i<n->f i=g i):f9 l n g:=⟨h.1,λi hi=>by rw[h.2 i hi,e i hi]⟩
theorem bh(h:f9 l n f){i:Nat}(hi:i<n):YteagbdjohkfneaaGreatDoor.bh l (i:Int)=some (f i):=by rw[cK,h.2 i hi]
theorem get(h:f9 l n f){i:Nat}(hi:i<l.length):l[i]=f i:=by have:=h.2 i (by rw[<-h.1];exact hi);simpa[hi]using this
theorem ofFn(f:Nat->α):f9 ((List.range n).map f) n f:=⟨by simp,λi hi=>by simp[hi]⟩
theorem mem_iff(h:f9 l n f){x:α}:x∈l↔∃i,i<n/\f i=x:=by
 constructor
 .intro d;obtain⟨i,hi⟩:=ji d;have a:=(eO.1 hi).1;exact⟨i,by rw[<-h.1];exact a,by rw[h.2 i (by rw[<-h.1];exact a)]at hi;exact dp hi⟩
 .rintro⟨i,hi,rfl⟩;exact j8 (h.2 i hi)
end f9
theorem iq{x:Int}(h:0<=x):∃n:Nat,x=(n:Int):=Cu h
theorem cc.look{α τ:Type}{l:List α}{body:Nat->Unit->Option (di Unit τ)}{Q:Unit ⊕ τ->Prop}(f:α->Option τ)(q:∀j(h:j<l.length),body j ()=some (match f l[j]with|none=>.go ()|some t=>.ret t))
 (o:(∀x∈l,f x=none)->Q (.inl ())) (p:∀(j:Nat)x t,l[j]?=some x->f x=some t->(∀(i:Nat)y,i<j->l[i]?=some y->f y=none)->Q (.inr t)):cc (YteagbdjohkfneaaGreatDoor.cM body l.length 0 ()) Q:=by
 refine cc.cM (λj _=>∀(i:Nat)y,i<j->l[i]?=some y->f y=none) (λi y hi=>by omega) (λj s _ B d=>?_) (λs z=>o λx A=>?_)
 .have a:j<l.length:=by omega
  rw[q j a];refine cc.mx.2 ?_
  cases e:f l[j]with
  |none=>
   intro i y hi k;by_cases e':i=j
   .subst e';have:y=l[i]:=by simpa[a]using k.symm
    rw[this];exact e
   .exact d i y O k
  |some t=>exact p j l[j] t (by simp[a]) e d
 .obtain⟨i,hi⟩:=ji A;exact z i x (by have:=(eO.1 hi).1;omega) hi
theorem UV{α:Type}[DecidableEq α]{l m:List α}{body:Nat->Unit->Option (di Unit Bool)}(c:α->α->Bool)(s:∀x y,c x y=!decide (x=y))(q:∀j:Nat,body j ()=(bh l (j:Int)).bind λx=>(bh m (j:Int)).bind λy=>bif c x y then some (.ret false)else some (.go ())):
 (bif (l.length:Int)!=(m.length:Int)then some false else andThen (cM body l.length 0 ()) λ_=>some true)=some (decide (l=m)):=by
 refine cc.eq ?_;rw[cc.GH];refine⟨λh=>cc.mx.2 ?_,λh=>?_⟩
 .have d:l.length≠m.length:=by simpa[mR]using h
  exact(cX λe=>d (by rw[e])).symm
 .have d:l.length=m.length:=by simpa[mR]using h
  rw[cc.E6];refine cc.cM (λj _=>∀i,i<j->l[i]?=m[i]?) (λi hi=>by omega) ?_ ?_
  .intro j _ _ t a;have o:j<l.length:=by omega
   have p:j<m.length:=by omega
   rw[q,cK,cK,gG o,gG p,lk,lk,s,cc.GH];refine⟨λk=>cc.mx.2 ?_,λk=>cc.mx.2 λi hi=>?_⟩
   .refine(cX λe=>?_).symm;subst e;simp at k
   .by_cases e:i=j
    .subst e;rw[gG o,gG p];simpa using k
    .exact a i O
  .intro _ a;refine cc.mx.2 ?_;refine(dc (pB λi=>?_)).symm;by_cases hi:i<l.length
   .exact a i O
   .rw[jA O,jA O]
def gE{α:Type}(p:α->Bool)(l:List α):Int:=match l.findIdx? p with
 |some i=>(i:Int)
 |none=>-1
theorem B9{α:Type}{p:α->Bool}{l:List α}:gE p l= -1↔∀x∈l,p x=false:=by
 unfold gE
 cases h:l.findIdx? p with
 |none=>simpa using h
 |some i=>
  simp only;constructor
  .intro k;omega
  .intro k;obtain⟨d,a,_⟩:=GV.1 h;have:=k _ (j6 d);rw[this]at a;cases a
theorem Ca{α:Type}{p:α->Bool}{l:List α}{i:Nat}:gE p l=(i:Int)↔∃x,l[i]?=some x/\p x=true/\∀(j:Nat)y,j<i->l[j]?=some y->p y=false:=by
 unfold gE;have e:l.findIdx? p=some i↔∃x,l[i]?=some x/\p x=true/\∀(j:Nat)y,j<i->l[j]?=some y->p y=false:=by
  rw[GV];constructor
  .rintro⟨a,d,h⟩;refine⟨l[i],by simp[a],d,λj y o s=>?_⟩;obtain⟨t,rfl⟩:=eO.1 s;simpa using h j o
  .rintro⟨x,q,d,h⟩;obtain⟨a,rfl⟩:=eO.1 q;exact⟨a,d,λj o=>by simpa using h j _ o (by rw[gG O])⟩
 rw[<-e]
 cases l.findIdx? p with
 |none=>simp
 |some k=>simp only[mi];omega
theorem yR{α:Type}(p:α->Bool)(l:List α):(gE p l= -1/\∀x∈l,p x=false)\/∃(i:Nat)(x:α),gE p l=(i:Int)/\l[i]?=some x/\p x=true/\∀(j:Nat)y,j<i->l[j]?=some y->p y=false:=by
 cases h:l.findIdx? p with
 |none=>
  have:gE p l= -1:=by unfold gE;rw[h]
  exact .inl ⟨this,B9.1 this⟩
 |some i=>
  have:gE p l=(i:Int):=by unfold gE;rw[h]
  obtain⟨x,a⟩:=Ca.1 this;exact .inr ⟨i,x,this,a⟩
theorem tC{α:Type}{l:List α}(p:α->Bool){body:Nat->Unit->Option (di Unit Int)}(o:∀(j:Nat)x,l[j]?=some x->body j ()=some (bif p x then .ret (j:Int)else .go ())):
 (andThen (cM body l.length 0 ()) λ_=>some (-1:Int))=some (gE p l):=by
 refine cc.eq ?_;rw[cc.E6];refine cc.cM (λj _=>∀(i:Nat)y,i<j->l[i]?=some y->p y=false) (λi y hi=>by omega) ?_ ?_
 .intro j _ _ q d;have k:j<l.length:=by omega
  have a:l[j]?=some l[j]:=by simp[k]
  rw[o j _ a,cc.mx]
  cases hp:p l[j]with
  |true=>exact(Ca.2 ⟨_,a,hp,d⟩).symm
  |false=>
   intro i y hi h;by_cases e:i=j
   .subst e;rw[a]at h;obtain rfl:=dp h;exact hp
   .exact d i y O h
 .intro _ d;refine cc.mx.2 (B9.2 λx a=>?_).symm;obtain⟨i,hi⟩:=ji a;exact d i x (by have:=(eO.1 hi).1;omega) hi
theorem Xa{α:Type}[BEq α][LawfulBEq α](x:α)(l:List α):decide (gE (x==·) l>=0)=l.contains x:=by
 rw[ew,eW,List.contains_iff_mem];rcases yR (x==·) l with⟨h,a⟩|⟨i,y,h,a,d,_⟩
 .rw[h];constructor
  .omega
  .intro e;have:=a x e;simp at this
 .rw[h];have:x=y:=by simpa using d
  subst this;exact⟨λ_=>j8 a,λ_=>by omega⟩
theorem NI{α:Type}{z x:α}{body:Int×List α->Option (di (Int×List α) (List α))}(d:∀n l,body (n,l)=bif decide (n<(l.length:Int))then((bY l n (l.length:Int)).bind λ_=>(bY l 0 n).bind λm=>
 Let (gA l n.toNat ((l.length:Int)).toNat m) λp=>Let p λq=>some (.go (ap (n+oj n.toNat ((l.length:Int)).toNat m),q)))else some (.brk (n,l))):
 ∀(fu k N:Nat),1<=k->k<=N->N<=2^40->N-k<fu->cw body fu ((k:Int),List.replicate k x++List.replicate (N-k) z)=some (.inl ((N:Int),List.replicate N x))
 |0,k,N,_,_,_,h=>by omega
 |fu+1,k,N,s,t,j,y=>by
  have a:(List.replicate k x++List.replicate (N-k) z).length=N:=by simp;omega
  unfold cw;rw[d];by_cases o:k=N
  .subst o;rw[show decide ((k:Int)<((List.replicate k x++List.replicate (k-k) z).length:Int))=false from cX (by rw[a];omega)];simp
  .rw[show decide ((k:Int)<((List.replicate k x++List.replicate (N-k) z).length:Int))=true from dc (by rw[a];omega),pA,a];have c1:bY (List.replicate k x++List.replicate (N-k) z) (k:Int) (N:Int)=some (((List.replicate k x++List.replicate (N-k) z).drop k).take (N-k)):=by
    unfold bY;rw[bE (by rw[a];omega)];rfl
   have c2:bY (List.replicate k x++List.replicate (N-k) z) 0 (k:Int)=some (List.replicate k x):=by unfold bY;rw[bE (by rw[a];omega)];simp
   rw[c1,c2];simp only[lk,eg,lp];have e:oj k N (List.replicate k x)=((min (N-k) k:Nat):Int):=by simp[oj]
   have i:gA (List.replicate k x++List.replicate (N-k) z) k N (List.replicate k x)=List.replicate (k+min (N-k) k) x++List.replicate (N-(k+min (N-k) k)) z:=by unfold gA;simp only[vw (show(List.replicate k x).length=k by simp),List.take_replicate,pD];rw[Cv,ie (by simp),pq,pD,List.drop_replicate,<-fL,List.replicate_append_replicate];congr 2;omega
   rw[e,i,bT O O,show((k:Int)+((min (N-k) k:Nat):Int))=((k+min (N-k) k:Nat):Int) by omega];exact NI d fu (k+min (N-k) k) N O O j O
theorem XR(y:BitVec 64):(y&&&(4294967295:BitVec 64))>>>32=0:=by apply nD;simp only[py,rL,kP,vv];rw[show 4294967295%2^64=2^32-1 from X,GO,pw];have:y.toNat%2^32<2^32:=tG _ ab;rw[zb this]
theorem X8(y:BitVec 64):((((y&&&(4294967295:BitVec 64))>>>32)&&&(4294967295:BitVec 64))+(y>>>32))>>>32=0:=by
 have a:(y&&&(4294967295:BitVec 64))>>>32=0:=by apply nD;simp only[py,rL,kP,vv];rw[show 4294967295%2^64=2^32-1 from X,GO,pw];have:y.toNat%2^32<2^32:=tG _ ab;rw[zb this]
 rw[a];apply nD;simp only[py,BitVec.toNat_add,rL,kP,vv,pw];have:=y.isLt;simp;omega
theorem Fw{α:Type}{l:List α}{p:α->Bool}{F:α->Option Bool}{body:Int×Int×List α->Option (di (Int×Int×List α) (List α))}(L:l.length<=2^40)(z:∀x∈l,F x=some (p x))
 (A:∀i j xs,body (i,j,xs)=bif decide (j<(xs.length:Int))then((bh xs j).bind λx=>(F x).bind λr=>bif !r then((bh xs i).bind λ_=>Let (xs.set i.toNat x) λq=>some (.go (ap (i+1),ap (j+1),q)))else some (.go (i,ap (j+1),xs)))else some (.brk (i,j,xs))):
 ∀(fu i j:Nat)(xs:List α),i<=j->j<=l.length->l.length-j<fu->xs.length=l.length->xs.take i=(l.take j).filter (λx=>!p x)->i=((l.take j).filter (λx=>!p x)).length->xs.drop j=l.drop j->
  ∃(k:Nat)(ys:List α),cw body fu ((i:Int),(j:Int),xs)=some (.inl ((k:Int),(l.length:Int),ys))/\ys.length=l.length/\k<=l.length/\ys.take k=l.filter (λx=>!p x)
 |0,i,j,xs,_,_,h,_,_,_,_=>by omega
 |fu+1,i,j,xs,B,Q,P,D,t,K,y=>by
  unfold cw;rw[A];by_cases C:j=l.length
  .subst C;rw[show decide ((l.length:Int)<(xs.length:Int))=false from cX O,rQ];refine⟨i,xs,X,D,B,?_⟩;rw[t,vx]
  .have d:j<l.length:=by omega
   rw[show decide ((j:Int)<(xs.length:Int))=true from dc O,pA];have H:xs[j]?=some l[j]:=by
    have M:xs[j]?=(xs.drop j)[0]?:=by simp
    rw[M,y];simp[d]
   have s:l.take (j+1)=l.take j++[l[j]]:=by rw[mN];simp[d]
   have o:∀ys:List α,ys.drop j=l.drop j->ys.drop (j+1)=l.drop (j+1):=λys h=>by rw[<-nC,h,nC]
   have e:∀q:Nat,q<=l.length->ap ((q:Int)+1)=((q+1:Nat):Int):=λq S=>by rw[bT O O];rfl
   rw[cK,H,lk,z _ (j6 d),lk]
   cases hp:p l[j]with
   |true=>
    simp only[fX,rQ,lk];rw[e j O];have a:(l.take (j+1)).filter (λx=>!p x)=(l.take j).filter (λx=>!p x):=by rw[s,tJ];simp[hp]
    exact Fw L z A fu i (j+1) xs O d O D (by rw[t,a]) (by rw[a];exact K) (o xs y)
   |false=>
    simp only[lO,pA];have hi:i<xs.length:=by omega
    rw[cK,gG hi,lk,eg,lk,e i O,e j O,lp];have a:(l.take (j+1)).filter (λx=>!p x)=(l.take j).filter (λx=>!p x)++[l[j]]:=by rw[s,tJ];simp[hp]
    refine Fw L z A fu (i+1) (j+1) (xs.set i l[j]) O d O (by simp[D]) ?_ ?_ ?_
    .rw[a,<-t,mN,List.take_set_of_le (dG _),fY hi];rfl
    .rw[a,cH,<-K];rfl
    .rw[List.drop_set_of_lt O];exact o xs y
theorem Uc{α:Type}{ys:List α}{k:Nat}{z:α}(h:k<=ys.length):bY (mD ys ((k:Int)).toNat ((ys.length:Int)).toNat z) 0 (k:Int)=some (ys.take k):=by
 have a:(mD ys ((k:Int)).toNat ((ys.length:Int)).toNat z).length=ys.length:=by simp[mD];omega
 unfold bY;rw[bE (by rw[a];omega)];simp[mD,List.take_append,h]
theorem Ml{l:List Int}{body:Int×Int->Option (di (Int×Int) Int)}(p:l.length<=2^40)(k:∀m i,body (m,i)=bif decide (i<(l.length:Int))then((bh l i).bind λx=>some (.go (min m x,ap (i+1))))else some (.brk (m,i))):
 ∀(fu i:Nat)(m:Int),i<=l.length->l.length-i<fu->∃r j,cw body fu (m,(i:Int))=some (.inl (r,j))/\∀c:Int,c<=r↔c<=m/\∀x∈l.drop i,c<=x
 |0,i,m,_,h=>by omega
 |fu+1,i,m,hi,q=>by
  unfold cw;rw[k];by_cases h:i=l.length
  .subst h;rw[show decide ((l.length:Int)<(l.length:Int))=false from cX O,rQ];exact⟨m,_,X,λc=>by simp⟩
  .have d:i<l.length:=by omega
   rw[show decide ((i:Int)<(l.length:Int))=true from dc O,pA,cK,gG d,lk,lk,bT O O];obtain⟨r,j,e,o⟩:=Ml p k fu (i+1) (min m l[i]) O O;refine⟨r,j,e,λc=>?_⟩;rw[o,jg d];simp only[fM,forall_eq_or_imp];constructor
   .rintro⟨a,b⟩;exact⟨by omega,by omega,b⟩
   .rintro⟨a,b,c⟩;exact⟨by omega,c⟩
theorem Mi{l:List Int}{body:Int×Int->Option (di (Int×Int) Int)}(s:l.length<=2^40)(p:∀m i,body (m,i)=bif decide (i<(l.length:Int))then((bh l i).bind λx=>some (.go (max m x,ap (i+1))))else some (.brk (m,i))):
 ∀(fu i:Nat)(m:Int),i<=l.length->l.length-i<fu->∃r j,cw body fu (m,(i:Int))=some (.inl (r,j))/\(∀c:Int,r<=c↔m<=c/\∀x∈l.drop i,x<=c)/\(r=m\/r∈l.drop i)
 |0,i,m,_,h=>by omega
 |fu+1,i,m,hi,t=>by
  unfold cw;rw[p];by_cases h:i=l.length
  .subst h;rw[show decide ((l.length:Int)<(l.length:Int))=false from cX O,rQ];exact⟨m,_,X,λc=>by simp,.inl X⟩
  .have d:i<l.length:=by omega
   rw[show decide ((i:Int)<(l.length:Int))=true from dc O,pA,cK,gG d,lk,lk,bT O O];obtain⟨r,j,e,q,o⟩:=Mi s p fu (i+1) (max m l[i]) O O;refine⟨r,j,e,λc=>?_,?_⟩
   .rw[q,jg d];simp only[fM,forall_eq_or_imp];constructor
    .rintro⟨a,b⟩;exact⟨by omega,by omega,b⟩
    .rintro⟨a,b,c⟩;exact⟨by omega,c⟩
   .rw[jg d,fM];rcases o with o|o
    .by_cases k:m<=l[i]
     .right;left;omega
     .left;omega
    .exact .inr (.inr o)
theorem xh{n:Nat}(a b:BitVec n):((a.toNat:Int)==(b.toNat:Int))=(a==b):=by rw[ew,gO,gO,mR,BitVec.toNat_inj]
theorem acA{n:Nat}(a b:BitVec n):((a.toNat:Int)!=(b.toNat:Int))=(a !=b):=by unfold bne;rw[xh]
abbrev mo:=@cc.E6
abbrev dX:=@cc.J7
abbrev mW:=@cc.TL
abbrev vV:=@cc.Ut
abbrev oK:=@cc.eq
abbrev kT:=@cc.Vk
abbrev qG:=@cc.Xf
abbrev fc:=@cc.GH
abbrev qH:=@cc.Xw
abbrev lU:=@cc.XM
abbrev kU:=@cc.bC
abbrev co:=@cc.mx
abbrev t7:=@cc.acE
abbrev lW:=@cc.cw
end Go.Proofs.YteagbdjohkfneaaGreatDoor
namespace Go.Proofs.YteagbdjohkfneaaGreatDoor
open Go.RowKit an
set_option maxRecDepth 100000
def CD:Go.Shelf.Ren:=⟨λ|156=>43|165=>92|166=>69|169=>71|240=>123|241=>147|276=>175|277=>201|n=>n,λ|31=>22|9=>9|3=>3|4=>4|0=>0|20=>20|72=>126|76=>129|70=>124|37=>112|75=>128|127=>184|164=>249|5=>5|80=>132|n=>n,λ|n=>n⟩
theorem eP:Go.Proofs.Lays.n156 Tryz.prog CD:=
 ⟨by kernel_rfl,Tryz.func43.trans (congrArg some (by kernel_rfl)),Tryz.func92.trans (congrArg some (by kernel_rfl)),Tryz.func69.trans (congrArg some (by kernel_rfl)),Tryz.func71.trans (congrArg some (by kernel_rfl)),Tryz.func123.trans (congrArg some (by kernel_rfl)),Tryz.func147.trans (congrArg some (by kernel_rfl)),Tryz.func175.trans (congrArg some (by kernel_rfl)),Tryz.func201.trans (congrArg some (by kernel_rfl)),Tryz.underlying0,Tryz.isAgg0,Tryz.sizeOf0,Tryz.zeroValue0,Tryz.underlying3,Tryz.isAgg3,Tryz.sizeOf3,Tryz.zeroValue3,Tryz.underlying4,Tryz.isAgg4,Tryz.sizeOf4,Tryz.zeroValue4,Tryz.underlying9,Tryz.isAgg9,Tryz.sizeOf9,Tryz.zeroValue9,Tryz.underlying20,Tryz.isAgg20,Tryz.sizeOf20,Tryz.zeroValue20,Tryz.underlying22,Tryz.isAgg22,Tryz.sizeOf22,Tryz.zeroValue22,Tryz.underlying112,Tryz.isAgg112,Tryz.sizeOf112,Tryz.zeroValue112,Tryz.underlying124,Tryz.isAgg124,Tryz.sizeOf124,Tryz.zeroValue124,Tryz.underlying126,Tryz.isAgg126,Tryz.sizeOf126,Tryz.zeroValue126,Tryz.underlying128,Tryz.isAgg128,Tryz.sizeOf128,Tryz.zeroValue128,Tryz.underlying129,Tryz.isAgg129,Tryz.sizeOf129,Tryz.zeroValue129,Tryz.underlying184,Tryz.isAgg184,Tryz.sizeOf184,Tryz.zeroValue184,Tryz.underlying249,Tryz.isAgg249,Tryz.sizeOf249,Tryz.zeroValue249⟩
theorem rB:Builder.Extra Tryz.prog CD where
 sizeBuilder:=by kernel_rfl
 liesBuilder:=by kernel_rfl
 t5:=Tryz.underlying5
 a5:=Tryz.isAgg5
 z5:=Tryz.sizeOf5
 v5:=Tryz.zeroValue5
 infoByte:=by kernel_rfl
 cellsByte:=by kernel_rfl
 sizeByte:=by kernel_rfl
 neB5:=by decide
set_option maxRecDepth 100000
def XB:Go.Shelf.Ren:=⟨λ|171=>15|243=>27|246=>66|283=>116|284=>117|285=>118|286=>119|129=>167|317=>166|318=>168|319=>169|320=>170|337=>210|338=>211|n=>n,λ|3=>3|9=>9|2=>2|4=>4|171=>172|0=>0|53=>173|37=>112|5=>5|173=>176|212=>245|51=>241|20=>20|213=>246|46=>171|232=>297|233=>298|n=>n,λ|17=>3|18=>6|19=>7|n=>n⟩
theorem XA:Go.Proofs.LaysM.n171 Tryz.prog XB:={mixed:=by kernel_rfl,f129:=Tryz.func167.trans (congrArg some (by kernel_rfl)),f171:=Tryz.func15.trans (congrArg some (by kernel_rfl)),f243:=Tryz.func27.trans (congrArg some (by kernel_rfl)),f246:=Tryz.func66.trans (congrArg some (by kernel_rfl)),f283:=Tryz.func116.trans (congrArg some (by kernel_rfl)),f284:=Tryz.func117.trans (congrArg some (by kernel_rfl)),f285:=Tryz.func118.trans (congrArg some (by kernel_rfl)),f286:=Tryz.func119.trans (congrArg some (by kernel_rfl)),f317:=Tryz.func166.trans (congrArg some (by kernel_rfl)),f318:=Tryz.func168.trans (congrArg some (by kernel_rfl)),f319:=Tryz.func169.trans (congrArg some (by kernel_rfl)),f320:=Tryz.func170.trans (congrArg some (by kernel_rfl)),f337:=Tryz.func210.trans (congrArg some (by kernel_rfl)),f338:=Tryz.func211.trans (congrArg some (by kernel_rfl)),t0:=Tryz.underlying0,a0:=Tryz.isAgg0,z0:=Tryz.sizeOf0,v0:=Tryz.zeroValue0,t2:=Tryz.underlying2,a2:=Tryz.isAgg2,z2:=Tryz.sizeOf2,v2:=Tryz.zeroValue2,t3:=Tryz.underlying3,a3:=Tryz.isAgg3,z3:=Tryz.sizeOf3,v3:=Tryz.zeroValue3,t4:=Tryz.underlying4,a4:=Tryz.isAgg4,z4:=Tryz.sizeOf4,v4:=Tryz.zeroValue4,t5:=Tryz.underlying5,a5:=Tryz.isAgg5,z5:=Tryz.sizeOf5,v5:=Tryz.zeroValue5,t9:=Tryz.underlying9,a9:=Tryz.isAgg9,z9:=Tryz.sizeOf9,v9:=Tryz.zeroValue9,t20:=Tryz.underlying20,a20:=Tryz.isAgg20,z20:=Tryz.sizeOf20,v20:=Tryz.zeroValue20,t37:=Tryz.underlying112,a37:=Tryz.isAgg112,z37:=Tryz.sizeOf112,v37:=Tryz.zeroValue112,t46:=Tryz.underlying171,a46:=Tryz.isAgg171,z46:=Tryz.sizeOf171,v46:=Tryz.zeroValue171,t51:=Tryz.underlying241,a51:=Tryz.isAgg241,z51:=Tryz.sizeOf241,v51:=Tryz.zeroValue241,t53:=Tryz.underlying173,a53:=Tryz.isAgg173,z53:=Tryz.sizeOf173,v53:=Tryz.zeroValue173,t171:=Tryz.underlying172,a171:=Tryz.isAgg172,z171:=Tryz.sizeOf172,v171:=Tryz.zeroValue172,t173:=Tryz.underlying176,a173:=Tryz.isAgg176,z173:=Tryz.sizeOf176,v173:=Tryz.zeroValue176,t212:=Tryz.underlying245,a212:=Tryz.isAgg245,z212:=Tryz.sizeOf245,v212:=Tryz.zeroValue245,t213:=Tryz.underlying246,a213:=Tryz.isAgg246,z213:=Tryz.sizeOf246,t232:=Tryz.underlying297,a232:=Tryz.isAgg297,z232:=Tryz.sizeOf297,v232:=Tryz.zeroValue297,t233:=Tryz.underlying298,a233:=Tryz.isAgg298,z233:=Tryz.sizeOf298,v233:=Tryz.zeroValue298,g17:=by kernel_rfl,g18:=by kernel_rfl,g19:=by kernel_rfl,i0:=by kernel_rfl,i2:=by kernel_rfl,i3:=by kernel_rfl,i4:=by kernel_rfl,i5:=by kernel_rfl,i9:=by kernel_rfl,i20:=by kernel_rfl,i37:=by kernel_rfl,i46:=by kernel_rfl,i51:=by kernel_rfl,i53:=by kernel_rfl,i171:=by kernel_rfl,i173:=by kernel_rfl,i212:=by kernel_rfl,i232:=by kernel_rfl,i233:=by kernel_rfl,m17:=by kernel_rfl,m18:=by kernel_rfl,m19:=by kernel_rfl}
def J6:Shelf.Ren:={CD with f:=λn=>if n=167 then 70 else CD.f n}
open Go.Shelf in
theorem XD:Lays.n167 Tryz.prog J6 where
 mixed:=eP.mixed
 f167:=Tryz.func70.trans (by kernel_rfl)
 f240:=eP.f240.trans (by kernel_rfl)
 f276:=eP.f276.trans (by kernel_rfl)
 t0:=eP.t0
 a0:=eP.a0
 z0:=eP.z0
 v0:=eP.v0
 t4:=eP.t4
 a4:=eP.a4
 z4:=eP.z4
 v4:=eP.v4
 t5:=rB.t5
 a5:=rB.a5
 z5:=rB.z5
 v5:=rB.v5
 t9:=eP.t9
 a9:=eP.a9
 z9:=eP.z9
 v9:=eP.v9
 t20:=eP.t20
 a20:=eP.a20
 z20:=eP.z20
 v20:=eP.v20
 t37:=eP.t37
 a37:=eP.a37
 z37:=eP.z37
 v37:=eP.v37
 t70:=eP.t70
 a70:=eP.a70
 z70:=eP.z70
 v70:=eP.v70
 t72:=eP.t72
 a72:=eP.a72
 z72:=eP.z72
 v72:=eP.v72
 t75:=eP.t75
 a75:=eP.a75
 z75:=eP.z75
 v75:=eP.v75
 t164:=eP.t164
 a164:=eP.a164
 z164:=eP.z164
 v164:=eP.v164
theorem TI:Builder.Extra Tryz.prog J6 where
 sizeBuilder:=by kernel_rfl
 liesBuilder:=by kernel_rfl
 t5:=Tryz.underlying5
 a5:=Tryz.isAgg5
 z5:=Tryz.sizeOf5
 v5:=Tryz.zeroValue5
 infoByte:=by kernel_rfl
 cellsByte:=by kernel_rfl
 sizeByte:=by kernel_rfl
 neB5:=by decide
theorem J5(B b:Nat)(bs:List Value)(s:ByteArray)(w:World)(h:Lib.IsBuilder 126 5 B b bs w)(a:bs.length+s.size<=140737488355328)(d:B<=w.heap.size):
 Calls Tryz.prog 69 #[.pointer (some ⟨b,0,none⟩),.string s] w λe f=>e=.returned (.tuple #[.int .i64 s.size,.nilIface])/\(Lib.BuilderAt 126 5 B b (.pointer (some ⟨b,0,none⟩)) (bs++Lib.strCells s) f/\Below B w f):=Any.Builder_WriteString {eP with} rB B b bs s w h a d
theorem J4(B b:Nat)(bs:List Value)(c:Int)(w:World)(h:Lib.IsBuilder 126 5 B b bs w)(a:bs.length+1<=140737488355328)(d:B<=w.heap.size):
 Calls Tryz.prog 70 #[.pointer (some ⟨b,0,none⟩),.int .u8 c] w λe f=>e=.returned .nilIface/\(Lib.BuilderAt 126 5 B b (.pointer (some ⟨b,0,none⟩)) (bs++[.int .u8 c]) f/\Below B w f):=Any.Builder_WriteByte XD TI B b bs c w h a d
theorem J3(B b:Nat)(l:List UInt8)(w:World)(h:Lib.IsBuilder 126 5 B b (Lib.byteCells l) w)(a:B<=w.heap.size):
 Calls Tryz.prog 71 #[.pointer (some ⟨b,0,none⟩)] w λe d=>e=.returned (.string ⟨l.toArray⟩)/\Below B w d:=Any.Builder_String_any {eP with} rB B b l w h a
theorem BJ(n:Int)(a:-9223372036854775808<=n)(d:n<=9223372036854775807)(w:World)(f:Lib.TabIs Tryz.prog w "internal/strconv.uint64pow10" .u64 Lib.pow10Tab):
 Calls Tryz.prog 15 #[.int .i64 n] w λe g=>e=.returned (.string ⟨(Lib.itoa n).toArray⟩)/\∃k os,g=Sort.grow (w.drewN k) os:=Any.strconv_Itoa XA n a d w f
end Go.Proofs.YteagbdjohkfneaaGreatDoor
namespace Go.Proofs.YteagbdjohkfneaaGreatDoor
open Go.RowKit an Go.Lib
set_option maxRecDepth 100000
theorem Ot{xs:List Int}{k:Nat}{x:Int}(h:xs[k]?=some x):hY (xs.take (k+1))=hY (xs.take k)++Lib.itoa x++[32]:=by unfold hY;rw[mN,h,GW];simp
theorem D5{xs:List Int}(d:∀x∈xs,-9223372036854775808<=x/\x<=9223372036854775807):(hY xs).length<=22*xs.length:=by
 induction xs with
 |nil=>exact dG 0
 |cons a l g=>have e:=g λx f=>d x (j7 _ f);have h:=Lib.itoa_length_le a (d a (mj ..)).1 (d a (mj ..)).2;unfold hY at e ⊢;rw[Cy,cH,cH,eB,eB,iX];omega
theorem Og{w d:World}(a:Lib.TabIs Tryz.prog w "internal/strconv.uint64pow10" .u64 Lib.pow10Tab)(e:Below w.heap.size w d):Lib.TabIs Tryz.prog d "internal/strconv.uint64pow10" .u64 Lib.pow10Tab:=by
 obtain⟨g,f⟩:∃g,Tryz.prog.globalNamed "internal/strconv.uint64pow10"=some g:=by
  unfold Lib.TabIs World.var? at a
  cases h:Tryz.prog.globalNamed "internal/strconv.uint64pow10" with
  |none=>rw[h]at a;cases a
  |some g=>exact⟨g,X⟩
 exact fA.now (P:=Tryz.prog) (w0:=w) a f e
theorem LV{T e:TypeId}{B b:Nat}{bs:List Value}{w:World}(h:Lib.IsBuilder T e B b bs w)(k:Nat)(os:Array Obj):Lib.IsBuilder T e B b bs (Sort.grow (w.drewN k) os):=by
 have f:∀p,Lib.BuilderAt T e B b p bs w->Lib.BuilderAt T e B b p bs (Sort.grow (w.drewN k) os):=λp⟨d,v,a,g,i⟩=>⟨d,v,(Lib.heap_grow_old w k os b (lP.1 a).1).trans a,Lib.ownsRow_grow g k os,i⟩
 exact h.imp (f _) (f _)
set_option maxHeartbeats 2000000 in
theorem acw(xs:List Int)(ys:List Int)(hy:ys=xs.map (λx:Int=>x))(a:Option Addr)(c:Nat)(w:World)(ox:∀(j:Nat)x,xs[j]?=some x->∃b o,a=some ⟨b,o,none⟩/\b<w.heap.size/\w.cell? ⟨b,o+j,none⟩=some (.int .i64 x))(hN:xs.length<=1048576)
 (hr:∀x∈ys,-9223372036854775808<=x/\x<=9223372036854775807) (ht:Lib.TabIs Tryz.prog w "internal/strconv.uint64pow10" .u64 Lib.pow10Tab):
 Calls Tryz.prog 32 #[.slice a xs.length c] w λe w'=>e=.returned (.string ⟨(hY ys++[46]).toArray⟩)/\Below w.heap.size w w':=by
 go_enter Tryz.func32,Tryz.ntmps32
 go_wp2_with fail
 go_loopw [8] (λi wr=>∃k:Nat,k<=xs.length/\i=.int .i64 k/\Lib.IsBuilder 126 5 w.heap.size w.heap.size (Lib.byteCells (hY (ys.take k))) wr/\Below w.heap.size w wr) (λi _=>xs.length-(RowKit.intOf i).toNat)
 case atStart=>exact⟨0,kQ _,X,Lib.fresh_isBuilder 126 5 w,(Below.refl _ w).alloc (dG _) _⟩
 case round=>
  obtain⟨k,hk,rfl,HB,HW⟩:=hrel;have tu:w.heap.size<=wr.heap.size:=HW.size;by_cases ql:k<xs.length
  .obtain⟨x,hx⟩:∃x,xs[k]?=some x:=⟨xs[k],gG ql⟩
   obtain⟨bk,o,rfl,Gf,yG⟩:=ox k x hx;have hc:wr.cell? ⟨bk,o+k,none⟩=some (.int .i64 x):=(HW.cell (p:=⟨bk,o+k,none⟩) Gf).trans yG;have tz:ys[k]?=some x:=by rw[hy,jh,hx];rfl
   have qp:=hr _ (j8 tz);have hT:=Any.hidJ (Og ht HW);have H1:=Any.hidJ HB;have H2:=Any.hidJ HW;have H3:=Any.hidJ (Ot tz);have H4:=Any.hidJ (D5 (xs:=ys.take k) λy hy=>hr y (pF hy));have H5:=Any.hidJ (Lib.itoa_length_le _ qp.1 qp.2);have H6:=Any.hidJ qp;have H7:=Any.hidJ ox;have Gp:ys.length=xs.length:=by rw[hy,fk]
   clear HB HW hx tz hr ht qp ox yG hy
   go_wp2_with fail
   refine(BJ _ H6.out.1 H6.out.2 wr hT.out).mono ?_;rintro e w1 ⟨rfl,q,os,rfl⟩;have pn:w.heap.size<=(Sort.grow (wr.drewN q) os).heap.size:=kC tu (Lib.size_grow wr q os);have G1:=Any.hidJ (LV H1.out q os);have G2:=Any.hidJ (Lib.below_grow w.heap.size wr tu q os);generalize Sort.grow (wr.drewN q) os=w1 at pn G1 G2 ⊢
   go_wp2_with fail
   refine(J5 w.heap.size w.heap.size _ _ w1 G1.out ?_ pn).mono ?_
   .have:=H4.out;have:=H5.out;rw[Lib.byteCells_length,fE]at*
    simp only[ByteArray.size,tF];omega
   rintro e w2 ⟨rfl,h2,kB⟩;have qn:w.heap.size<=w2.heap.size:=kC pn kB.size;have K1:=Any.hidJ h2;have K2:=Any.hidJ kB;clear h2 kB
   go_wp2_with fail
   refine(J4 w.heap.size w.heap.size _ 32 w2 (Or.inr K1.out) ?_ qn).mono ?_
   .have:=H4.out;have:=H5.out;rw[cH,Lib.strCells_length,Lib.byteCells_length,fE]at*
    simp only[ByteArray.size,tF];omega
   rintro e w3 ⟨rfl,h3,yC⟩;have J1:=Any.hidJ (Or.inr h3:Lib.IsBuilder 126 5 w.heap.size w.heap.size _ w3);have J2:=Any.hidJ (((H2.out.trans G2.out).trans K2.out).trans yC);clear h3 yC
   go_wp2
   refine⟨⟨k+1,by omega,by go_num,?_,J2.out⟩,by simp[RowKit.intOf];omega⟩;have:=J1.out;rw[H3.out,Lib.byteCells_append,Lib.byteCells_append];rw[Lib.strCells_eq]at this;exact this
  .have Gl:k=xs.length:=by omega
   subst Gl;rw[gN (by rw[hy,fk];omega)]at HB;have Gp:ys.length=xs.length:=by rw[hy,fk]
   have H4:=Any.hidJ (D5 hr);have H1:=Any.hidJ HB;have H2:=Any.hidJ HW;clear HB HW hr ht ox hy
   go_wp2_with fail
   refine(J3 w.heap.size w.heap.size _ wr H1.out tu).mono ?_;rintro e w5 ⟨rfl,yD⟩;have J2:=Any.hidJ (H2.out.trans yD);clear yD
   go_wp2
   all_goals first
    |(exfalso;have:=H4.out;omega)
    |(go_ret;exact⟨by rw[show((⟨(hY ys).toArray⟩:ByteArray)++⟨#[46]⟩)=⟨(hY ys++[46]).toArray⟩from ByteArray.ext (by simp[ByteArray.data_append])];rfl,J2.out⟩)
set_option maxHeartbeats 2000000 in
theorem acx(xs:List (BitVec 16))(ys:List Int)(hy:ys=xs.map (λx:BitVec 16=>(x.toNat:Int)))(a:Option Addr)(c:Nat)(w:World)(ox:∀(j:Nat)x,xs[j]?=some x->∃b o,a=some ⟨b,o,none⟩/\b<w.heap.size/\w.cell? ⟨b,o+j,none⟩=some (.int .u16 x.toNat))(hN:xs.length<=1048576)
 (hr:∀x∈ys,-9223372036854775808<=x/\x<=9223372036854775807) (ht:Lib.TabIs Tryz.prog w "internal/strconv.uint64pow10" .u64 Lib.pow10Tab):
 Calls Tryz.prog 37 #[.slice a xs.length c] w λe w'=>e=.returned (.string ⟨(hY ys++[46]).toArray⟩)/\Below w.heap.size w w':=by
 go_enter Tryz.func37,Tryz.ntmps37
 go_wp2_with fail
 go_loopw [8] (λi wr=>∃k:Nat,k<=xs.length/\i=.int .i64 k/\Lib.IsBuilder 126 5 w.heap.size w.heap.size (Lib.byteCells (hY (ys.take k))) wr/\Below w.heap.size w wr) (λi _=>xs.length-(RowKit.intOf i).toNat)
 case atStart=>exact⟨0,kQ _,X,Lib.fresh_isBuilder 126 5 w,(Below.refl _ w).alloc (dG _) _⟩
 case round=>
  obtain⟨k,hk,rfl,HB,HW⟩:=hrel;have tu:w.heap.size<=wr.heap.size:=HW.size;by_cases ql:k<xs.length
  .obtain⟨x,hx⟩:∃x,xs[k]?=some x:=⟨xs[k],gG ql⟩
   obtain⟨bk,o,rfl,Gf,yG⟩:=ox k x hx;have hc:wr.cell? ⟨bk,o+k,none⟩=some (.int .u16 x.toNat):=(HW.cell (p:=⟨bk,o+k,none⟩) Gf).trans yG;have tz:ys[k]?=some (x.toNat:Int):=by rw[hy,jh,hx];rfl
   have qp:=hr _ (j8 tz);have hT:=Any.hidJ (Og ht HW);have H1:=Any.hidJ HB;have H2:=Any.hidJ HW;have H3:=Any.hidJ (Ot tz);have H4:=Any.hidJ (D5 (xs:=ys.take k) λy hy=>hr y (pF hy));have H5:=Any.hidJ (Lib.itoa_length_le _ qp.1 qp.2);have H6:=Any.hidJ qp;have H7:=Any.hidJ ox;have Gp:ys.length=xs.length:=by rw[hy,fk]
   clear HB HW hx tz hr ht qp ox yG hy
   go_wp2_with fail
   refine(BJ _ H6.out.1 H6.out.2 wr hT.out).mono ?_;rintro e w1 ⟨rfl,q,os,rfl⟩;have pn:w.heap.size<=(Sort.grow (wr.drewN q) os).heap.size:=kC tu (Lib.size_grow wr q os);have G1:=Any.hidJ (LV H1.out q os);have G2:=Any.hidJ (Lib.below_grow w.heap.size wr tu q os);generalize Sort.grow (wr.drewN q) os=w1 at pn G1 G2 ⊢
   go_wp2_with fail
   refine(J5 w.heap.size w.heap.size _ _ w1 G1.out ?_ pn).mono ?_
   .have:=H4.out;have:=H5.out;rw[Lib.byteCells_length,fE]at*
    simp only[ByteArray.size,tF];omega
   rintro e w2 ⟨rfl,h2,kB⟩;have qn:w.heap.size<=w2.heap.size:=kC pn kB.size;have K1:=Any.hidJ h2;have K2:=Any.hidJ kB;clear h2 kB
   go_wp2_with fail
   refine(J4 w.heap.size w.heap.size _ 32 w2 (Or.inr K1.out) ?_ qn).mono ?_
   .have:=H4.out;have:=H5.out;rw[cH,Lib.strCells_length,Lib.byteCells_length,fE]at*
    simp only[ByteArray.size,tF];omega
   rintro e w3 ⟨rfl,h3,yC⟩;have J1:=Any.hidJ (Or.inr h3:Lib.IsBuilder 126 5 w.heap.size w.heap.size _ w3);have J2:=Any.hidJ (((H2.out.trans G2.out).trans K2.out).trans yC);clear h3 yC
   go_wp2
   refine⟨⟨k+1,by omega,by go_num,?_,J2.out⟩,by simp[RowKit.intOf];omega⟩;have:=J1.out;rw[H3.out,Lib.byteCells_append,Lib.byteCells_append];rw[Lib.strCells_eq]at this;exact this
  .have Gl:k=xs.length:=by omega
   subst Gl;rw[gN (by rw[hy,fk];omega)]at HB;have Gp:ys.length=xs.length:=by rw[hy,fk]
   have H4:=Any.hidJ (D5 hr);have H1:=Any.hidJ HB;have H2:=Any.hidJ HW;clear HB HW hr ht ox hy
   go_wp2_with fail
   refine(J3 w.heap.size w.heap.size _ wr H1.out tu).mono ?_;rintro e w5 ⟨rfl,yD⟩;have J2:=Any.hidJ (H2.out.trans yD);clear yD
   go_wp2
   all_goals first
    |(exfalso;have:=H4.out;omega)
    |(go_ret;exact⟨by rw[show((⟨(hY ys).toArray⟩:ByteArray)++⟨#[46]⟩)=⟨(hY ys++[46]).toArray⟩from ByteArray.ext (by simp[ByteArray.data_append])];rfl,J2.out⟩)
end Go.Proofs.YteagbdjohkfneaaGreatDoor
namespace Go.Proofs.YteagbdjohkfneaaGreatDoor
open Go.RowKit an
set_option maxRecDepth 100000
def tQ:Go.Shelf.Ren:=⟨λ|153=>121|152=>172|226=>173|227=>140|228=>174|137=>122|119=>212|224=>114|225=>113|217=>112|266=>164|n=>n,λ|9=>9|3=>3|4=>4|5=>5|21=>21|117=>203|116=>202|0=>0|46=>171|124=>206|n=>n,λ|n=>n⟩
theorem vM:Go.Proofs.Lays.n153 Tryz.prog tQ:=
 ⟨by kernel_rfl,Tryz.func212.trans (congrArg some (by kernel_rfl)),Tryz.func122.trans (congrArg some (by kernel_rfl)),Tryz.func172.trans (congrArg some (by kernel_rfl)),Tryz.func121.trans (congrArg some (by kernel_rfl)),Tryz.func112.trans (congrArg some (by kernel_rfl)),Tryz.func114.trans (congrArg some (by kernel_rfl)),Tryz.func113.trans (congrArg some (by kernel_rfl)),Tryz.func173.trans (congrArg some (by kernel_rfl)),Tryz.func140.trans (congrArg some (by kernel_rfl)),Tryz.func174.trans (congrArg some (by kernel_rfl)),Tryz.func164.trans (congrArg some (by kernel_rfl)),Tryz.underlying0,Tryz.isAgg0,Tryz.sizeOf0,Tryz.zeroValue0,Tryz.underlying3,Tryz.isAgg3,Tryz.sizeOf3,Tryz.zeroValue3,Tryz.underlying4,Tryz.isAgg4,Tryz.sizeOf4,Tryz.zeroValue4,Tryz.underlying5,Tryz.isAgg5,Tryz.sizeOf5,Tryz.zeroValue5,Tryz.underlying9,Tryz.isAgg9,Tryz.sizeOf9,Tryz.zeroValue9,Tryz.underlying21,Tryz.isAgg21,Tryz.sizeOf21,Tryz.zeroValue21,Tryz.underlying171,Tryz.isAgg171,Tryz.sizeOf171,Tryz.zeroValue171,Tryz.underlying202,Tryz.isAgg202,Tryz.sizeOf202,Tryz.underlying203,Tryz.isAgg203,Tryz.sizeOf203,Tryz.zeroValue203,Tryz.underlying206,Tryz.isAgg206,Tryz.sizeOf206,Tryz.zeroValue206⟩
def iZ:ByteArray:=⟨#[108,115,116]⟩
theorem od{a:ByteArray}(h:a.size=2):∃x y,a=⟨#[x,y]⟩:=by
 obtain⟨⟨l⟩⟩:=a
 match l,h with
 |[x,y],_=>exact⟨x,y,X⟩
theorem TG{a:ByteArray}(h:a.size=3):∃x y z,a=⟨#[x,y,z]⟩:=by
 obtain⟨⟨l⟩⟩:=a
 match l,h with
 |[x,y,z],_=>exact⟨x,y,z,X⟩
theorem Ye{l:List UInt8}{y:UInt8}(d:∀b∈l,b.toNat<128)(i:128<=y.toNat):Lib.indexByte l y= -1:=by
 induction l with
 |nil=>rfl
 |cons b l h=>
  have f:=d b (mj ..);have a:(b==y)=false:=by rw[ll];intro e;rw[e]at f;omega
  unfold Lib.indexByte;rw[a,h λx g=>d x (j7 _ g)];rfl
theorem LM(s:ByteArray)(y:UInt8)(w:World)(a:∀b∈s.data.toList,b.toNat<128)(d:128<=y.toNat):Calls Tryz.prog 122 #[.string s,.int .u8 y.toNat] w λe f=>e=.returned (.int .i64 (-1))/\f=w:=by have:=Any.strings_IndexByte (ρ:=tQ) (P:=Tryz.prog) {vM with} s (y.toNat:Int) w;rw[lp,show y.toNat.toUInt8=y from UInt8.ofNat_toNat,Ye a d]at this;exact this
set_option maxHeartbeats 4000000 in
theorem Xn(r:Int)(h0:128<=r)(yQ:r≠65533)(w:World):Calls Tryz.prog 172 #[.string iZ,.int .i32 r] w λe w'=>e=.returned (.int .i64 (-1))/\∃q,w'=w.drewN q:=by
 have ae5:¬r<128:=by omega
 go_enter Tryz.func172,Tryz.ntmps172
 go_wp2_with fail
 refine(Any.utf8_ValidRune (ρ:=tQ) {vM with} r w).mono ?_;rintro e w1 ⟨rfl,rfl⟩;have GB:Lib.validRune r=true->Utf8.valid r=true:=by unfold Lib.validRune Utf8.valid;simp;omega
 generalize hb:Lib.validRune r=b at GB ⊢;cases b
 .go_wp2
  go_ret
  exact⟨X,0,X⟩
 obtain⟨e1,e2,e3⟩:=encode_facts r (GB X) h0;clear GB;have B8:iZ.size=3:=X;generalize LD:Utf8.encode r=rs at e1 e2 e3;have hcv:∀w,(convert 21 9 (.int .i32 r)).run Tryz.prog w=.ok (.string rs) w:=λw=>by rw[<-LD];exact run_convert_int_string w 21 9 .i32 r (by kernel_rfl) (by kernel_rfl)
 have nu:rs.size=2\/rs.size=3\/rs.size=4:=by omega
 clear LD e1 e2;rcases nu with nu|nu|nu
 .obtain⟨x,y,rfl⟩:=od nu;have hy:128<=y.toNat:=e3 (show 2-1<2 by decide);clear e3
  go_wp2_with fail
  go_step3
  go_wp2_with fail
  go_loopw [9] (λi wr=>i=.int .i64 1/\wr=w1) (λ_ _=>0)
  case atStart=>exact⟨X,X⟩
  case round=>
   obtain⟨rfl,rfl⟩:=hrel
   go_wp2_with fail
   go_step3
   go_wp2_with fail
   go_region
   go_wp2_with fail
   .go_region_with (go_at_call 122;refine(LM _ y _ ab hy).mono ?_;rintro e w' ⟨rfl,rfl⟩)
    all_goals go_wp2_with fail
    all_goals first
     |(refine(show bodyPost Tryz.prog Tryz.f172 (λe w'=>e=Ending.returned (Value.int IntKind.i64 (-1))/\∃q,w'=wr.drewN q) Exit.ret _ _ from ?_);go_ret;exact⟨X,2,X⟩)
     |(exfalso;have hh:=‹¬(0<=IntKind.i64.wrap 2/\_)›;exact hh ab)
     |(exfalso;have hh:=‹¬(0<=_/\_)›;exact hh ab)
     |skip
    all_goals trace_state
   .exfalso;have hh:=‹((_:Int)!=_)=false›
    revert hh
    show ¬(((115:Nat):Int)!=((y.toNat:Nat):Int))=false;simp;omega
 .obtain⟨x0,x,y,rfl⟩:=TG nu;have hy:128<=y.toNat:=e3 (show 3-1<3 by decide);clear e3
  go_wp2_with fail
  go_step3
  go_wp2_with fail
  go_loopw [9] (λi wr=>i=.int .i64 2/\wr=w1) (λ_ _=>0)
  case atStart=>exact⟨X,X⟩
  case round=>
   obtain⟨rfl,rfl⟩:=hrel
   go_wp2_with fail
   go_step3
   go_wp2_with fail
   go_region
   go_wp2_with fail
   .go_region_with (go_at_call 122;refine(LM _ y _ ab hy).mono ?_;rintro e w' ⟨rfl,rfl⟩)
    all_goals go_wp2_with fail
    all_goals first
     |(refine(show bodyPost Tryz.prog Tryz.f172 (λe w'=>e=Ending.returned (Value.int IntKind.i64 (-1))/\∃q,w'=wr.drewN q) Exit.ret _ _ from ?_);go_ret;exact⟨X,2,X⟩)
     |(exfalso;have hh:=‹¬(0<=IntKind.i64.wrap 3/\_)›;exact hh ab)
     |(exfalso;have hh:=‹¬(0<=_/\_)›;exact hh ab)
     |skip
    all_goals trace_state
   .exfalso;have hh:=‹((_:Int)!=_)=false›
    revert hh
    show ¬(((116:Nat):Int)!=((y.toNat:Nat):Int))=false;simp;omega
 .clear e3
  go_wp2_with fail
  go_step3
  go_wp2_with fail
  go_loopw [9] (λi wr=>i=.int .i64 3/\wr=w1) (λ_ _=>0)
  case atStart=>exact⟨X,X⟩
  case round=>
   obtain⟨rfl,rfl⟩:=hrel
   go_wp2_with fail
   refine(show bodyPost Tryz.prog Tryz.f172 (λe w'=>e=Ending.returned (Value.int IntKind.i64 (-1))/\∃q,w'=wr.drewN q) Exit.ret _ _ from ?_)
   go_ret
   exact⟨X,0,X⟩
set_option maxRecDepth 100000
theorem XT(pos:Nat)(h:pos<3):∃c:Nat,c<128/\Utf8.decode iZ pos=(c,1):=by
 have:pos=0\/pos=1\/pos=2:=by omega
 rcases this with rfl|rfl|rfl
 .exact⟨108,by omega,by decide⟩
 .exact⟨115,by omega,by decide⟩
 .exact⟨116,by omega,by decide⟩
set_option maxHeartbeats 4000000 in
theorem Xm(w:World):Calls Tryz.prog 172 #[.string iZ,.int .i32 65533] w λe w'=>e=.returned (.int .i64 (-1))/\Below w.heap.size w w':=by
 have B8:iZ.size=3:=X
 go_enter Tryz.func172,Tryz.ntmps172
 go_wp2_with fail
 go_loopw [] (λwr=>∃pos:Nat,pos<=3/\wr.heap[w.heap.size]?=some (.stringIter iZ pos)/\Below w.heap.size w wr) (λwr=>3-wr.iterPos w.heap.size)
 case atStart=>exact⟨0,by omega,World.iter_heap w iZ 0,(Below.refl _ w).alloc (dG _) _⟩
 case round=>
  obtain⟨pos,WO,hit,vm⟩:=hrel;have nu:w.heap.size<wr.heap.size:=(lP.1 hit).1;by_cases hp:pos<3
  .obtain⟨c,hc,hd⟩:=XT pos hp;have lM:=λty=>Lib.run_next_any_at (P:=Tryz.prog) wr w.heap.size iZ pos ty hit (by rw[B8];exact hp);rw[hd]at lM;have qk:=Lib.iterAt_heap wr w.heap.size iZ pos (pos+1) hit;have vn:=Lib.below_iterAt vm (k:=w.heap.size) (dG _) iZ (pos+1);have yQ:((c:Int)==65533)=false:=ll.2 O
   go_wp2
   go_roundw
   case rel=>exact⟨pos+1,by omega,qk,vn⟩
   case measure=>simp only[World.iterPos,qk,hit];omega
  .have lM:=λty=>Lib.run_next_end_at (P:=Tryz.prog) wr w.heap.size iZ pos ty hit (by rw[B8];exact hp)
   go_wp2
   go_ret
   exact⟨X,vm⟩
theorem Xl(r:Int)(d:128<=r)(w:World):Calls Tryz.prog 172 #[.string iZ,.int .i32 r] w λe a=>e=.returned (.int .i64 (-1))/\Below w.heap.size w a:=by
 by_cases h:r=65533
 .subst h;exact Xm w
 .refine(Xn r d h w).mono ?_;rintro e a ⟨rfl,q,rfl⟩;exact⟨X,⟨X,X,X,dG _,λ_ _=>rfl⟩⟩
set_option maxRecDepth 100000
theorem Vi{s:ByteArray}{k:Nat}(h:k<s.size):s.get! k=s[k]'h:=by simp[ByteArray.get!,getElem!_pos,h];rfl
theorem Uw{s:ByteArray}{pos:Nat}(h:pos<s.size)(t:128<=(s[pos]'h).toNat):
 pos+(Utf8.decode s pos).2<=s.size/\∀j b,pos<=j->j<pos+(Utf8.decode s pos).2->s.data.toList[j]?=some b->128<=b.toNat:=by
 have l:∀b,s.data.toList[pos]?=some b->128<=b.toNat:=by intro b a;have:=Lib.data_getElem? s pos h;rw[a]at this;cases this;exact t
 have d:∀k,(decide (pos+k<s.size)&&(s.get! (pos+k)).toNat/64==2)=true->pos+k<s.size/\∀b,s.data.toList[pos+k]?=some b->128<=b.toNat:=by intro k i;rw[eu,eW,gO]at i;refine⟨i.1,λb a=>?_⟩;have:=Lib.data_getElem? s (pos+k) i.1;rw[a]at this;cases this;have f:=i.2;rw[Vi i.1]at f;omega
 have one:∀n,n=1->pos+n<=s.size/\∀j b,pos<=j->j<pos+n->s.data.toList[j]?=some b->128<=b.toNat:=by
  rintro n rfl;refine⟨h,λj b o f a=>?_⟩;obtain rfl:j=pos:=by omega
  exact l b a
 have x:¬(s[pos]'h).toNat<128:=by omega
 simp only[Utf8.decode,get_at s pos h,x,if_false];split
 .rename_i g;rw[eu]at g;obtain⟨c1,e⟩:=d 1 g.2;split
  .refine⟨c1,λj b o f a=>?_⟩;have:j=pos\/j=pos+1:=by omega
   rcases this with rfl|rfl
   .exact l b a
   .exact e b a
  .exact one _ X
 split
 .rename_i g;rw[eu,eu]at g;obtain⟨c1,e⟩:=d 1 g.1.2;obtain⟨c2,m⟩:=d 2 g.2;split
  .refine⟨c2,λj b o f a=>?_⟩;have:j=pos\/j=pos+1\/j=pos+2:=by omega
   rcases this with rfl|rfl|rfl
   .exact l b a
   .exact e b a
   .exact m b a
  .exact one _ X
 split
 .rename_i g;rw[eu,eu,eu]at g;obtain⟨c1,e⟩:=d 1 g.1.1.2;obtain⟨c2,m⟩:=d 2 g.1.2;obtain⟨p,q⟩:=d 3 g.2;split
  .refine⟨p,λj b o f a=>?_⟩;have:j=pos\/j=pos+1\/j=pos+2\/j=pos+3:=by omega
   rcases this with rfl|rfl|rfl|rfl
   .exact l b a
   .exact e b a
   .exact m b a
   .exact q b a
  .exact one _ X
 .exact one _ X
theorem XU{b:UInt8}(h:128<=b.toNat):[108,115,116].contains b=false:=by simp only[List.contains_cons,List.contains_nil,zj,zi,ll];refine⟨?_,?_,?_⟩<;>(rintro rfl;exact absurd h ab)
set_option maxHeartbeats 4000000 in
theorem Tv(s:ByteArray)(h8:s.size<=8)(w:World):
 Calls Tryz.prog 121 #[.string s,.string iZ] w λe w'=>e=.returned (.int .i64 (Lib.indexAny s.data.toList [108,115,116]))/\Below w.heap.size w w':=by
 have ae0:iZ.toList.isEmpty=false:=by rw[Lib.toList_data];rfl
 have B8:iZ.size=3:=X;have hn1:((iZ.size:Int)==1)=false:=X;have Vn:decide ((8:Int)<(s.size:Int))=false:=cX O;have aep:∀args w,(callFunc 172 args).run Tryz.prog w=.ok (.enter 172 args) w:=enters_of Tryz.func172 (by kernel_rfl) X;have aeq:∀args w,(callFunc 173 args).run Tryz.prog w=.ok (.enter 173 args) w:=enters_of Tryz.func173 (by kernel_rfl) X
 go_enter Tryz.func121,Tryz.ntmps121
 go_wp2_with (go_at_fn (173);refine(Any.strings_shouldUseASCIISet (ρ:=tQ) {vM with} _ _).mono ?_;rintro e w' ⟨rfl,hw⟩;rw[hw,Vn])
 go_loopw [9,10] (λ_ _ wr=>∃pos:Nat,pos<=s.size/\wr.heap[w.heap.size]?=some (.stringIter s pos)/\Below w.heap.size w wr/\Lib.NoAny s.data.toList [108,115,116] pos) (λ_ _ wr=>s.size-wr.iterPos w.heap.size)
 case atStart=>exact⟨0,by omega,World.iter_heap w s 0,(Below.refl _ w).alloc (dG _) _,Lib.NoAny.zero _ _⟩
 case round=>
  obtain⟨pos,WO,hit,vm,rH⟩:=hrel;have HN:Aside (Lib.NoAny s.data.toList [108,115,116] pos):=rH;clear rH;have nu:w.heap.size<wr.heap.size:=(lP.1 hit).1;by_cases hp:pos<s.size
  .by_cases hx:(s[pos]'hp).toNat<128
   .obtain⟨x,qo⟩:∃x:UInt8,s[pos]'hp=x:=⟨_,X⟩
    have rI:s.data.toList[pos]?=some x:=by rw[<-qo];exact Lib.data_getElem? s pos hp
    have lM:=λty=>Lib.run_next_ascii_at (P:=Tryz.prog) wr w.heap.size s pos ty hit hp hx;rw[qo]at lM hx;have Hx:Aside (s.data.toList[pos]?=some x):=rI;clear rI qo;have qk:=Lib.iterAt_heap wr w.heap.size s pos (pos+1) hit;have vn:=Lib.below_iterAt vm (k:=w.heap.size) (dG _) s (pos+1);have vp:=Lib.contains_iff_indexByte [108,115,116] x;have Lt:((x.toNat:Int)).toNat.toUInt8=x:=by simp
    cases yM:[108,115,116].contains x
    .rw[yM]at vp;have aH:¬((0:Int)<=Lib.indexByte [108,115,116] x):=ln vp.symm;clear vp
     go_wp2_with (go_at_fn (172);refine(Any.strings_IndexRune_ascii (ρ:=tQ) (P:=Tryz.prog) {vM with} iZ _ _ O O).mono ?_;rintro e w' ⟨rfl,hw⟩;rw[hw,Lt,show iZ.data.toList=[108,115,116]from X])
     go_roundw
     case rel=>exact⟨pos+1,by omega,qk,vn,HN.out.succ Hx.out yM⟩
     case measure=>simp only[World.iterPos,qk,hit];omega
    .rw[yM]at vp;have hge:(0:Int)<=Lib.indexByte [108,115,116] x:=j5 vp.symm;clear vp
     go_wp2_with (go_at_fn (172);refine(Any.strings_IndexRune_ascii (ρ:=tQ) (P:=Tryz.prog) {vM with} iZ _ _ O O).mono ?_;rintro e w' ⟨rfl,hw⟩;rw[hw,Lt,show iZ.data.toList=[108,115,116]from X])
     go_ret
     exact⟨by rw[Lib.indexAny_hit HN.out Hx.out yM];rfl,vn⟩
   .have lM:=λty=>Lib.run_next_any_at (P:=Tryz.prog) wr w.heap.size s pos ty hit hp;obtain⟨Lu,Lv⟩:=decode_high s pos hp O;obtain⟨pn,qn⟩:=Uw hp O;generalize Utf8.decode s pos=d at lM Lu Lv pn qn;obtain⟨c,n⟩:=d;have qk:=Lib.iterAt_heap wr w.heap.size s pos (pos+n) hit;have vn:=Lib.below_iterAt vm (k:=w.heap.size) (dG _) s (pos+n);have LB:Lib.NoAny s.data.toList [108,115,116] (pos+n):=by
     intro j b hj hb;by_cases h1:j<pos
     .exact HN.out j b h1 hb
     .exact XU (qn j b O hj hb)
    have RO:Aside (Lib.NoAny s.data.toList [108,115,116] (pos+n)):=LB;clear LB qn;dsimp only at Lu Lv pn lM
    go_wp2_with (go_at_fn (172);refine(Xl _ O _).mono ?_;rintro e w' ⟨rfl,hw⟩)
    have Ly:w'.heap[w.heap.size]?=some (.stringIter s (pos+n)):=by rw[hw.block _ (lP.1 qk).1];exact qk
    go_roundw
    case rel=>exact⟨pos+n,by omega,Ly,vn.trans (hw.mono (Nat.le_of_lt (lP.1 qk).1)),RO.out⟩
    case measure=>simp only[World.iterPos,Ly,hit];omega
  .have lM:=λty=>Lib.run_next_end_at (P:=Tryz.prog) wr w.heap.size s pos ty hit hp;obtain rfl:pos=s.size:=by omega
   go_wp2
   go_ret
   exact⟨by rw[Lib.indexAny_none (by rw[<-Lib.size_eq];exact HN.out)];rfl,vm⟩
theorem W9(s:ByteArray)(i:s.size<4294967281)(w:World):
 Calls Tryz.prog 121 #[.string s,.string iZ] w λe a=>e=.returned (.int .i64 (Lib.indexAny s.data.toList [108,115,116]))/\Below w.heap.size w a:=by
 by_cases g:s.size<=8
 .exact Tv s g w
 .refine(Any.strings_IndexAny_long (ρ:=tQ) vM (λ_=>by kernel_rfl) X s iZ w ab O i ab ?_).mono λe a⟨d,f⟩=>⟨d,?_⟩
  .intro j b h;have:b∈[108,115,116]:=j8 h;simp only[fM,List.not_mem_nil,or_false]at this;rcases this with rfl|rfl|rfl<;>decide
  .rw[f];exact((Below.refl _ _).alloc (dG _) _).alloc (by simp) _
end Go.Proofs.YteagbdjohkfneaaGreatDoor
namespace Go.Proofs.YteagbdjohkfneaaGreatDoor
open Go.RowKit an Go.Lib
set_option maxRecDepth 100000
theorem My(x:Int)(d:0<=x)(f:x<=65535)(w:World):Calls Tryz.prog 182 #[.int .u16 x] w λe a=>e=.returned (.int .i64 ((pop8 (x/256)+pop8 (x%256))%256))/\∃q,a=w.drewN q:=by
 have g:0<=x/256:=by omega
 have h:x/256<=255:=by omega
 have i:0<=x%256:=by omega
 have j:x%256<=255:=by omega
 have k:bits .and .u16 x 255=x%256:=by rw[u16_and x 255 O O O O];have:=GO x.toNat 8;rw[show(255:Int).toNat=2^8-1 from X,this];omega
 go_enter Tryz.func182,Tryz.ntmps182
 go_wp2
 go_quiet (fail)
 go_wp2
 go_ret
 exact⟨X,nq,X⟩
theorem X9(x:Int)(w:World):Calls Tryz.prog 222 #[.int .i64 x] w λe a=>e=.returned (.bool false)/\a=w:=by
 go_enter Tryz.func222,Tryz.ntmps222
 go_wp2
 go_ret
 exact⟨by simp,X⟩
theorem Ya(x:Int)(w:World):Calls Tryz.prog 223 #[.int .u16 x] w λe a=>e=.returned (.bool false)/\a=w:=by
 go_enter Tryz.func223,Tryz.ntmps223
 go_wp2
 go_ret
 exact⟨by simp,X⟩
theorem Uo(x y:Int)(w:World):Calls Tryz.prog 181 #[.int .i64 x,.int .i64 y] w λe w'=>e=.returned (.int .i64 (compareInt x y))/\w'=w:=by
 have aer:∀args w,(callFunc 222 args).run Tryz.prog w=.ok (.enter 222 args) w:=enters_of Tryz.func222 (by kernel_rfl) X
 go_enter Tryz.func181,Tryz.ntmps181
 go_wp2_with (go_at_fn 222;refine(X9 _ _).mono ?_;rintro e w' ⟨rfl,hw⟩;rw[hw])
 all_goals (go_ret;refine⟨?_,X⟩;unfold compareInt;(repeat' split)<;>first|rfl|(exfalso;omega))
theorem Up(x y:Int)(w:World):Calls Tryz.prog 183 #[.int .u16 x,.int .u16 y] w λe w'=>e=.returned (.int .i64 (compareInt x y))/\w'=w:=by
 have aes:∀args w,(callFunc 223 args).run Tryz.prog w=.ok (.enter 223 args) w:=enters_of Tryz.func223 (by kernel_rfl) X
 go_enter Tryz.func183,Tryz.ntmps183
 go_wp2_with (go_at_fn 223;refine(Ya _ _).mono ?_;rintro e w' ⟨rfl,hw⟩;rw[hw])
 all_goals (go_ret;refine⟨?_,X⟩;unfold compareInt;(repeat' split)<;>first|rfl|(exfalso;omega))
theorem Yp(x y:Int)(b c:Nat)(w:World)(l:w.cell? ⟨b,0,none⟩=some (.int .i64 x))(c1:w.cell? ⟨b,1,none⟩=some (.int .i64 y)):
 Calls Tryz.prog 180 #[.slice (some ⟨b,0,none⟩) 2 c] w λe j=>e=.returned (.int .i64 (if x=0 then y else x))/\j=w:=by
 go_enter Tryz.func180,Tryz.ntmps180
 go_wp2
 go_loop [8] (λi=>∃k:Nat,k<=2/\i=.int .i64 k/\(0<k->x=0)/\(1<k->y=0)) (λi=>2-(RowKit.intOf i).toNat)
 case atStart=>exact⟨0,by omega,X,λh=>absurd h O,λh=>absurd h O⟩
 case round=>
  obtain⟨k,m,rfl,a,d⟩:=hrel;have f:k=0\/k=1\/k=2:=by omega
  rcases f with rfl|rfl|rfl
  .clear a d;by_cases g:x=0
   .subst g
    go_wp2
    go_round
    case rel=>exact⟨1,by omega,X,by simp,by simp⟩
    case measure=>decide
   .go_wp2
    go_ret
    exact⟨X,X⟩
  .obtain rfl:=a O;clear a d;by_cases g:y=0
   .subst g
    go_wp2
    go_round
    case rel=>exact⟨2,by omega,X,by simp,by simp⟩
    case measure=>decide
   .go_wp2
    go_ret
    exact⟨X,X⟩
  .obtain rfl:=a O;obtain rfl:=d O;clear a d
   go_wp2
   go_ret
   exact⟨X,X⟩
theorem Uf(x y:BitVec 16)(w:World):Calls Tryz.prog 128 #[.int .u16 x.toNat,.int .u16 y.toNat] w λe w'=>e=.returned (.int .i64 (lb x y))/\∃q os,w'=Sort.grow (w.drewN q) os:=by
 have hx:=x.isLt;have hy:=y.isLt
 go_enter Tryz.func128,Tryz.ntmps128
 go_wp2_with fail
 refine(My _ O O _).mono ?_;rintro e w1 ⟨rfl,q,rfl⟩
 go_wp2_with fail
 refine(My _ O O _).mono ?_;rintro e w1 ⟨rfl,q2,rfl⟩
 go_wp2_with fail
 refine(Uo _ _ _).mono ?_;rintro e w1 ⟨rfl,rfl⟩
 go_wp2_with fail
 refine(Up _ _ _).mono ?_;rintro e w1 ⟨rfl,rfl⟩
 go_wp2_with fail
 refine(Yp (compareInt (iI x) (iI y)) (compareInt x.toNat y.toNat) _ _ _ ?_ ?_).mono ?_
 .simp[World.cell?,World.alloc,iI]
 .simp[World.cell?,World.alloc,iI]
 rw[show(if compareInt (iI x) (iI y)=0 then compareInt x.toNat y.toNat else compareInt (iI x) (iI y))=lb x y from X];rintro e w1 ⟨rfl,rfl⟩
 go_wp2
 go_ret
 exact⟨X,q+q2,_,Sort.alloc_eq_grow _ _⟩
def XC:Go.Shelf.Ren:=⟨λ|6=>127|15=>179|14=>178|28=>221|29=>167|20=>213|21=>214|22=>215|23=>216|24=>217|25=>218|26=>219|27=>220|46=>237|47=>238|48=>239|49=>240|50=>241|57=>254|n=>n,λ|22=>86|24=>90|25=>190|3=>3|39=>171|0=>0|53=>241|55=>173|4=>4|46=>279|45=>278|50=>65|5=>5|9=>9|66=>299|70=>303|76=>314|77=>107|n=>n,λ|n=>n⟩
theorem L5:Go.Proofs.SlLaysF.n6 Tryz.prog XC:=
 ⟨by kernel_rfl,⟨Tryz.f127.name,by decide,Tryz.func127.trans (congrArg some (by kernel_rfl))⟩,⟨Tryz.f178.name,by decide,Tryz.func178.trans (congrArg some (by kernel_rfl))⟩,Tryz.func179.trans (congrArg some (by kernel_rfl)),⟨Tryz.f213.name,by decide,Tryz.func213.trans (congrArg some (by kernel_rfl))⟩,⟨Tryz.f214.name,by decide,Tryz.func214.trans (congrArg some (by kernel_rfl))⟩,⟨Tryz.f215.name,by decide,Tryz.func215.trans (congrArg some (by kernel_rfl))⟩,⟨Tryz.f216.name,by decide,Tryz.func216.trans (congrArg some (by kernel_rfl))⟩,⟨Tryz.f217.name,by decide,Tryz.func217.trans (congrArg some (by kernel_rfl))⟩,⟨Tryz.f218.name,by decide,Tryz.func218.trans (congrArg some (by kernel_rfl))⟩,⟨Tryz.f219.name,by decide,Tryz.func219.trans (congrArg some (by kernel_rfl))⟩,⟨Tryz.f220.name,by decide,Tryz.func220.trans (congrArg some (by kernel_rfl))⟩,Tryz.func221.trans (congrArg some (by kernel_rfl)),Tryz.func167.trans (congrArg some (by kernel_rfl)),⟨Tryz.f237.name,by decide,Tryz.func237.trans (congrArg some (by kernel_rfl))⟩,Tryz.func238.trans (congrArg some (by kernel_rfl)),Tryz.func239.trans (congrArg some (by kernel_rfl)),⟨Tryz.f240.name,by decide,Tryz.func240.trans (congrArg some (by kernel_rfl))⟩,⟨Tryz.f241.name,by decide,Tryz.func241.trans (congrArg some (by kernel_rfl))⟩,⟨Tryz.f254.name,by decide,Tryz.func254.trans (congrArg some (by kernel_rfl))⟩,Tryz.underlying0,Tryz.isAgg0,Tryz.sizeOf0,Tryz.zeroValue0,Tryz.underlying3,Tryz.isAgg3,Tryz.sizeOf3,Tryz.zeroValue3,Tryz.underlying4,Tryz.isAgg4,Tryz.sizeOf4,Tryz.zeroValue4,Tryz.underlying5,Tryz.isAgg5,Tryz.sizeOf5,Tryz.zeroValue5,Tryz.underlying9,Tryz.isAgg9,Tryz.sizeOf9,Tryz.zeroValue9,Tryz.underlying86,Tryz.isAgg86,Tryz.sizeOf86,Tryz.zeroValue86,Tryz.isAgg90,Tryz.sizeOf90,Tryz.underlying190,Tryz.isAgg190,Tryz.sizeOf190,Tryz.zeroValue190,Tryz.underlying171,Tryz.isAgg171,Tryz.sizeOf171,Tryz.zeroValue171,Tryz.underlying278,Tryz.isAgg278,Tryz.sizeOf278,Tryz.zeroValue278,Tryz.underlying279,Tryz.isAgg279,Tryz.sizeOf279,Tryz.zeroValue279,Tryz.underlying65,Tryz.isAgg65,Tryz.sizeOf65,Tryz.zeroValue65,Tryz.underlying241,Tryz.isAgg241,Tryz.sizeOf241,Tryz.zeroValue241,Tryz.underlying173,Tryz.isAgg173,Tryz.sizeOf173,Tryz.zeroValue173,Tryz.underlying299,Tryz.isAgg299,Tryz.sizeOf299,Tryz.zeroValue299,Tryz.underlying303,Tryz.isAgg303,Tryz.sizeOf303,Tryz.zeroValue303,Tryz.underlying314,Tryz.isAgg314,Tryz.sizeOf314,Tryz.zeroValue314,Tryz.underlying107,Tryz.isAgg107,Tryz.sizeOf107,Tryz.zeroValue107⟩
set_option maxRecDepth 100000
theorem Ub(b:Nat):Im Tryz.prog 14 [pv b 0]:=λw=>by
 refine callsD_of_wpS Tryz.func14 X λd cs i=>?_;apply wpS_seq;apply wpS_region;simp[wpOpsS,go_sem,recoverD,i,Tryz.ntmps14,Exit.thenS];refine wpS_of_wp ?_;generalize h:(λ(e:Exit)(k:Act)(l:World)=>bodyPostS Tryz.prog Tryz.f14 d cs _ e k (d::cs) l)=Q;have f:∀a,a.defers=[]->Q .ret a w:=by intro a g;rw[<-h];exact⟨g,.returning,by cases d;simp_all,.tuple #[],by simp[results,Tryz.results14],⟨_,X⟩,X,X⟩
 clear h;have g:(#[pv b 0]++((Array.replicate 17 undef).setIfInBounds 3 Value.nilIface).setIfInBounds 0 Value.nilIface)=#[.pointer (some ⟨b,0,none⟩),.nilIface,undef,undef,.nilIface,undef,undef,undef,undef,undef,undef,undef,undef,undef,undef,undef,undef,undef]:=X;rw[g];clear g i;have j:=Any.hidJ f;clear f
 go_wp2
 exact j.out _ X
theorem Fh(cap:List Value)(w:World):(invoke (.fn (.func 14) cap.toArray) #[]).run Tryz.prog w=.ok (.enter 14 cap.toArray) w:=by show(callFunc 14 (#[]++cap.toArray)).run Tryz.prog w=_;rw[Array.empty_append];exact Tryz.call14 _ w
set_option maxHeartbeats 1000000 in
theorem Ua(b:Nat)(i:Int)(h0:-9223372036854775808<=i)(h1:i<=9223372036854775807)(w:World)(ht:Lib.TabIs Tryz.prog w "internal/strconv.uint64pow10" .u64 Lib.pow10Tab)(x:Value)
 (hc:∀k os,(Sort.grow (w.drewN k) os).cell? ⟨b,0,none⟩=some x) (hz:∀k os,(Sort.grow (w.drewN k) os).frozen? ⟨b,0,none⟩=false):
 CallsD Tryz.prog 14 #[pv b 0] (.panicking [qR 23 i]) w λe u' w'=>(∃v,e=.returned v)/\u'=.panicking [{v:=.iface 23 (.int .i64 i),recovered:=true}]/\∃k os,w'=(Sort.grow (w.drewN k) os).setCell ⟨b,0,none⟩ (.string (⟨#[101,114,114,111,114,32]⟩++⟨(Lib.itoa i).toArray⟩)):=by
 refine callsD_of_wpS Tryz.func14 X λUv cs hu=>?_;apply wpS_seq;apply wpS_region;simp[wpOpsS,go_sem,recoverD,hu,qR,Tryz.ntmps14,Exit.thenS];refine wpS_of_wp ?_;generalize hQ:(λ(e:Exit)(a':Act)(w':World)=>bodyPostS Tryz.prog Tryz.f14 Uv cs _ e a' _ w')=Q;have Lp:∀a k os,a.defers=[]->Q .normal a ((Sort.grow (w.drewN k) os).setCell ⟨b,0,none⟩ (.string (⟨#[101,114,114,111,114,32]⟩++⟨(Lib.itoa i).toArray⟩))):=by intro a k os ha;rw[<-hQ];exact⟨ha,_,X,.tuple #[],by simp[results,Tryz.results14],⟨_,X⟩,X,k,os,X⟩
 clear hQ;have ha:(#[pv b 0]++((Array.replicate 17 undef).setIfInBounds 3 (Value.iface 23 (Value.int IntKind.i64 i))).setIfInBounds 0 (Value.iface 23 (Value.int IntKind.i64 i)))=#[.pointer (some ⟨b,0,none⟩),.iface 23 (.int .i64 i),undef,undef,.iface 23 (.int .i64 i),undef,undef,undef,undef,undef,undef,undef,undef,undef,undef,undef,undef,undef]:=X;rw[ha];clear ha hu;have HQ:=Any.hidJ Lp;have HT:=Any.hidJ ht;have HC:=Any.hidJ hc;have HZ:=Any.hidJ hz;clear Lp ht hc hz;have hta:∀W:World,(Instr.typeAssert (.iface 23 (.int .i64 i)) 20 23 true).run Tryz.prog W=.ok (.tuple #[.int .i64 i,.bool true]) W:=λW=>by kernel_rfl
 go_wp2_with fail
 refine(BJ i h0 h1 w HT.out).mono ?_;rintro e w1 ⟨rfl,k,os,rfl⟩;have hc:=HC.out k os;have hz:=HZ.out k os;have Ja:=Any.hidJ (HQ.out (k:=k) (os:=os));clear HQ HC HZ;generalize Sort.grow (w.drewN k) os=w1 at hc hz Ja ⊢
 go_wp2
 all_goals first|(exfalso;have:=Lib.itoa_length_le i h0 h1;omega)|exact Ja.out _ X
theorem Lw{w0:World}{F:bM}{L:List Item}{b:Nat}{i:Int}{r:Y}{x:Value}(H:oA i=some r)(g:fA Tryz.prog w0):Il Tryz.prog w0 14 [pv b 0] [qR 23 i] F (.ak b [x] 9::L) (.ak b [Y.v (om++r)] 9::L):=λw d=>by
 unfold oA at H;split at H
 .rename_i f;cases H;have a:∀k os,(Sort.grow (w.drewN k) os).heap[b]?=some (.cells #[x] 9 (0,0)):=λk os=>(d.grow k os).get (i:=0) X;refine(Ua b i f.1 f.2 w (g.now (show Tryz.prog.globalNamed "internal/strconv.uint64pow10"=some 3 by kernel_rfl) d.below) x (λk os=>by simp[World.cell?,a k os]) (λk os=>by simp[World.frozen?,a k os])).mono ?_;rintro e l m ⟨h,rfl,k,os,rfl⟩;refine⟨h,X,?_⟩;rw[Sort.setCell_eq];refine(show St w0 F ([]++.ak b [Y.v (om++Lib.itoa i)] 9::L) _ from St.change (L:=[]) (M:=L) (j:=.ak b [Y.v (om++Lib.itoa i)] 9) (b:=b) (d.grow k os) (by simp[Item.df]) X (Sort.onCells (·.setIfInBounds 0 _)) ?_);show((Sort.grow (w.drewN k) os).heap.modify b _)[b]?=_;rw[vC,bE X,a k os];rfl
 .cases H
set_option maxRecDepth 100000
section
variable {w0:World}{F:bM}{L:List Item}
theorem V7{n:Int}{r:Y}(H:oA n=some r)(a:fA Tryz.prog w0):Ok Tryz.prog w0 15 [iv n] F L (Is (Y.v r) L):=
 Ok.itoa H a (show Tryz.prog.globalNamed "internal/strconv.uint64pow10"=some 3 by kernel_rfl) BJ
theorem V8{s:Sl}{xs:List Y}{d r:Y}(H:yV xs d=some r)(j:Rd w0 F L s xs):Ok Tryz.prog w0 43 [Sl.v s,Y.v d] F L (Is (Y.v r) L):=
 Ok.join H j (λb o c xs d w e f g h i=>Any.strings_Join eP rB b o c xs d w e f g h i) (λa c d w=>Any.strings_Join_none eP rB a c d w)
theorem Wa{s:Sl}{xs:List Int}{r:Y}(H:sA (xs.map λx=>x)=some r)(h:fA Tryz.prog w0)(i:Rd w0 F L s xs):Ok Tryz.prog w0 32 [Sl.v s] F L (Is (Y.v r) L):=
 Jk (UK xs) X H i h (show Tryz.prog.globalNamed "internal/strconv.uint64pow10"=some 3 by kernel_rfl) λa c w d e f g=>acw xs _ X a c w d e f g
theorem Wb{s:Sl}{xs:List (BitVec 16)}{r:Y}(H:sA (xs.map λx=>(x.toNat:Int))=some r)(h:fA Tryz.prog w0)(i:Rd w0 F L s xs):Ok Tryz.prog w0 37 [Sl.v s] F L (Is (Y.v r) L):=
 Jk (KM xs) X H i h (show Tryz.prog.globalNamed "internal/strconv.uint64pow10"=some 3 by kernel_rfl) λa c w d e f g=>acx xs _ X a c w d e f g
theorem V6{s c:Y}{r:Int}(H:yS s c=some r):Ok Tryz.prog w0 121 [Y.v s,Y.v c] F L (Is (iv r) L):=Ok.indexAny H λs w h=>W9 s h w
theorem V9{s:Sl}{xs r:List (BitVec 16)}(H:w6 lb xs=some r):Ok Tryz.prog w0 127 [Sl.v s,.func (.func 128) #[] #[]] F (.own s 90 1 (aa xs)::L) (λ_ L' u=>u=.tuple #[]/\L'=.own s 90 1 (aa r)::L):=
 Su KM X H (λb o c d w e f g=>Any.slices_SortFunc_total L5 (λx:BitVec 16=>.int .u16 x.toNat) (λ_=>rfl) lb TT 128 #[] b o c d w (enters_of Tryz.func128 (by kernel_rfl) X) (λ_ _ _ _ x y=>Uf x y _) e f g TU)
  (λa c w=>AnyF.slices_SortFunc_none {L5 with} a c _ w)
end
