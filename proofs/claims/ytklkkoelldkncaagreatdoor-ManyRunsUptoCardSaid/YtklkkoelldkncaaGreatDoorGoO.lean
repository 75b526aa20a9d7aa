/-
  The rules of calls, results, and of the other operations.
-/
import Derived.Test.YtklkkoelldkncaaGreatDoorGoE
import Derived.Lib.Overlaps
set_option linter.unusedSimpArgs false
set_option linter.unusedVariables false
namespace Go.Proofs.YtklkkoelldkncaaGreatDoor
open Go.RowKit an
def cT{α:Type}(s:Sem α):Prop:=∀P w es,s.events P w es=es
theorem cT.bind{α g:Type}{s:Sem α}{f:α->Sem g}(h:cT s)(k:∀a,cT (f a)):cT (s>>=f):=λP w es=>by
 rw[Sem.events_bind,h P w es]
 cases s.run P w with
 |ok a w'=>exact k a P w' es
 |halt x w'=>rfl
theorem cT.map{α a:Type}{s:Sem α}{f:α->a}(h:cT s):cT (Functor.map f s):=λP w es=>by rw[Sem.events_map,h P w es]
theorem cT.pure{α:Type}(a:α):cT (Pure.pure a:Sem α):=λ_ _ _=>rfl
theorem HF{α:Type}{c:Prop}[Decidable c]{x y:Sem α}(h:cT x)(k:cT y):cT (if c then x else y):=by split<;>assumption
theorem HH{α g:Type}{f:α->Sem g}(h:∀a,cT (f a)):∀l:List α,cT (l.mapM f)
 |[]=>λ_ _ _=>by simp
 |a::l=>by rw[List.mapM_cons];exact(h a).bind λ_=>(HH h l).bind λ_=>cT.pure _
theorem cT.mapM{α g:Type}{f:α->Sem g}(h:∀a,cT (f a))(l:Array α):cT (l.mapM f):=by rw[<-Array.toArray_toList (xs:=l),List.mapM_toArray];exact(HH h _).map
theorem HG{α g:Type}{f:α->g->Sem (ForInStep g)}(h:∀a b,cT (f a b)):∀(l:List α)(b:g),cT (forIn l b f)
 |[],b=>by rw[List.forIn_nil];exact cT.pure _
 |a::l,b=>by
  rw[List.forIn_cons];refine(h a b).bind λr=>?_
  cases r with
  |done i=>exact cT.pure _
  |yield i=>exact HG h l i
theorem cT.forIn{α g:Type}{f:α->g->Sem (ForInStep g)}(h:∀a b,cT (f a b))(l:Array α)(b:g):cT (ForIn.forIn l b f):=by rw[<-Array.forIn_toList];exact HG h _ _
theorem dE.bind{α g:Type}{P:Program}{F:bk}{L:List Item}{N:Nat}{w:World}{es:Array Event}{x:Sem α}{f:α->Sem g}(h:dE F L N (x.events P w es))(k:∀a,cT (f a)):dE F L N ((x>>=f).events P w es):=by
 rw[Sem.events_bind]
 cases x.run P w with
 |ok a w'=>simp only[Result.evThen_ok,k a P w'];exact h
 |halt y w'=>exact h
theorem Wb{α:Type}(k:IntKind)(x y:Int)(c:BoundsCode):cT (α:=α) (boundsPanic k x y c):=by
 have tail:∀b:Bool,cT (runtimePanic (.bounds (IntKind.i64.wrap x) y b c):Sem α):=λb=>cT.bind (s:=program) (λP w es=>events_program P w es) λp=>λ_ _ _=>rfl;unfold boundsPanic;split
 .exact cT.bind (cT.map (λP w es=>events_choose P w es _)) tail
 .exact cT.bind (cT.pure _) tail
theorem Wa(v:Value):cT (asIntOf v):=by unfold asIntOf;split<;>exact λ_ _ _=>rfl
theorem Ky(x:Value)(y:Nat)(c:BoundsCode):cT (Instr.sliceBound x y c):=by unfold Instr.sliceBound;refine cT.bind (Wa x) λp=>?_;split;exact HF (cT.pure _) (Wb _ _ _ _)
theorem Wh(b:Bool)(len cap:Nat)(x y z:Option Value):cT (Instr.sliceBounds b len cap x y z):=by
 unfold Instr.sliceBounds;cases x<;>cases y<;>cases z<;>simp only[]<;>repeat' (first|exact cT.pure _|exact Ky _ _ _|refine cT.bind ?_ λ_=>?_|exact λ_ _ _=>rfl)
theorem Wc(t:TypeId)(ps:Array (Nat×Value)):cT (Instr.build t ps):=by
 unfold Instr.build;refine cT.bind (λP w es=>events_zeroValue P w es t) λz=>cT.bind (λP w es=>events_underlying P w es t) λd=>?_;split
 .refine cT.bind (cT.mapM (λf=>cT.bind (λP w es=>events_sizeOf P w es _) λ_=>cT.pure _) _) λa=>?_;split
  .exact cT.pure _
  .exact λ_ _ _=>rfl
 .refine cT.bind (λP w es=>events_sizeOf P w es _) λm=>?_;split
  .exact cT.pure _
  .exact λ_ _ _=>rfl
 .exact λ_ _ _=>rfl
theorem Kw(t:TypeId)(k:Nat)(ps:Array (Nat×Value)):cT (Instr.buildSlice t k ps):=by
 unfold Instr.buildSlice;refine cT.bind (λP w es=>events_underlying P w es t) λd=>?_;split
 .rename_i elem;refine cT.bind (λP w es=>events_sizeOf P w es _) λm=>?_
  have tail:∀z:Array Value,cT (match Instr.fill (λi=>some (i*m,m)) ((Array.range (k*m)).map (z[·%z.size]!)) ps.toList with
   |some f=>do pure (.slice (some (<-newRow elem f)) k k)
   |_=>stuck "buildSlice: a part of the wrong size":Sem Value):=λz=>by
   split
   .exact cT.bind (s:=newRow elem _) (λP w es=>by simp[newRow]) λ_=>cT.pure _
   .exact λ_ _ _=>rfl
  have a:=HF (c:=k*m=0) (cT.bind (cT.pure #[]) tail) (cT.bind (s:=zeroValue elem) (λP w es=>events_zeroValue P w es _) λz=>cT.bind (cT.pure z.cells) tail);by_cases g:k*m>2^24
  .simp only[g,jX];exact cT.bind (λ_ _ _=>rfl) λ_=>a
  .simp only[g,ol];exact a
 .exact λ_ _ _=>rfl
theorem Jf{P:Program}{f:FuncId}{fn:Func}{E:Array Value->Sem Value}(k:P.funcs[f]?=some fn)(a:(fn.name== "runtime.NumGoroutine")=false)(i:fn.body.isNone=true)(o:Extern.findNext fn=none)(j:Extern.find fn=some E)(args:Array Value)(w:World)(es:Array Event):
 (callFunc f args).events P w es=(E args).events P w (es.push ⟨.mark (.extern f),false,true⟩):=by
 have g:fn.name≠ "runtime.NumGoroutine":=by simpa using a
 have h:fn.body=none:=by simpa using i
 have m:(mark (.extern f)).run P w=.ok () w:=by simp[mark,Sem.run]
 simp[callFunc,k,g,h,o,j,m]
theorem dE.extern{F:bk}{L:List Item}{N f:Nat}:dE F L N #[⟨.mark (.extern f),false,true⟩]:=λe h=>by simp at h;subst h;exact .inl (.inl ⟨f,X⟩)
def lQ(w0:World)(F:bk)(post:bk->List Item->Value->Prop)(v:Value)(h:bG)(w':World):Prop:=
 ∃a L',cS F a/\SH w0 a L' h w'/\post a L' v
def Ok(P:Program)[C:Co P](w0:World)(f:FuncId)(args:List Value)(F:bk)(L:List Item)(post:bk->List Item->Value->Prop):Prop:=
 ∀hd w,SH w0 F L hd w->qj P f args.toArray hd w (lQ w0 F post)
def Is(v:Value)(L:List Item):bk->List Item->Value->Prop:=λ_ L' u=>u=v/\L'=L
theorem Ok.mono{P:Program}{C:Co P}{w0:World}{f:FuncId}{args:List Value}{F:bk}{L:List Item}{post a:bk->List Item->Value->Prop}(h:Ok P w0 f args F L post)(hp:∀g L' v,cS F g->post g L' v->a g L' v):Ok P w0 f args F L a:=
 λhd w m=>(h hd w m).mono λ_ _ _⟨g,L',i,j,k⟩=>⟨g,L',i,j,hp g L' _ i k⟩
def sg:Nat->List Value->List (Nat×Value)
 |_,[]=>[]
 |k,v::vs=>(k,v)::sg (k+1) vs
theorem Fl:∀(vs:List Value)(k t:Nat)(v:Value),look (sg k vs) t=some v->k<=t/\vs[t-k]?=some v
 |[],_,_,_,h=>by simp[sg,look]at h
 |u::vs,k,t,v,h=>by
  simp only[sg,look]at h;by_cases a:k=t
  .subst a;simp only[mC,l6]at h;simpa using h
  .have:(k==t)=false:=by simpa using a
   rw[this,lF]at h;obtain⟨g,f⟩:=Fl vs (k+1) t v h;refine⟨by omega,?_⟩;rw[show t-k=(t-(k+1))+1 by omega];simpa using f
theorem Ok.enter{P:Program}{C:Co P}{w0:World}{f:FuncId}{args:List Value}{F:bk}{L:List Item}{post:bk->List Item->Value->Prop}{fn:Func}{c:Code}{n m:Nat}(i:P.funcs[f]?=some fn)(g:fn.body=some c)(o:fn.ntmps=n)
 (k:args.length=m) (j:m<=n) (h:Cd P ⟨n,[]⟩ w0 (bodyPost P fn (lQ w0 F post)) c (sg 0 args) F L):Ok P w0 f args F L post:=λhd w q=>by
 subst o k;refine⟨fn,c,i,g,h _ hd w ⟨X,by simp;omega,λt v p=>?_⟩ q⟩;have:=(Fl args 0 t v p).2;simp only[qR]at this;have a:=(ff.1 this).1;rw[E8 (by simpa using a)];simpa using this
section
variable {P:Program}{C:Co P}{n:Fm}{w0:World}{ops:Array Oper}{Q:eC}{K:Act->Prop}{l:List Oper}{e:List (Nat×Value)}{F F0:bk}{L L':List Item}{v:Value}{dst:Option Nat}{d:Nat}{ty:TypeId}{pos:String}{aX:Array Edge}{gd:Option (Nat×Bool)}
 {post:bk->List Item->Value->Prop} {fn:Func}
def lN(f:Array Value)(r:ResultVar):Sem Value:=match r with
 |.tmp t=>pure (f.getD t undef)
 |.cell a t=>do loadVar t (<-asAddr (f.getD a undef))
theorem ZH(fn:Func)(f:Array Value):results fn f=(do let vs<-fn.results.mapM (lN f);pure (if h:vs.size=1 then vs[0]else .tuple vs)):=by
 have g:lN f=(λ|.tmp t=>pure (f.getD t undef)|.cell a t=>do loadVar t (<-asAddr (f.getD a undef))):=by funext r;cases r<;>rfl
 rw[g];rfl
def hU(P:Program)(n:Fm)(w0:World)(e:List (Nat×Value))(F:bk)(L:List Item)(r:ResultVar)(v:Value):Prop:=
 ∀a w,cG n a e->St w0 F L w->(lN a.tmps r).run P w=.ok v w/\dE F L w.heap.size ((lN a.tmps r).events P w #[])
theorem hU.tmp{t:Nat}(h:look e t=some v):hU P n w0 e F L (.tmp t) v:=λa w f _=>by exact⟨by simp[lN,oo,f.get t v h],lK (by simp[lN])⟩
theorem hU.cell{t:TypeId}{ad b i:Nat}{cs:List Value}{t':TypeId}(h:look e ad=some (.pointer (some ⟨b,0,none⟩)))(g:L[i]?=some (.blk b cs t'))(k:∀w,(isAgg t).run P w=.ok false w)(m:cs=[v]):hU P n w0 e F L (.cell ad t) v:=λa w f o=>by have j:w.heap[b]?=some (.cells cs.toArray t' (0,0)):=o.get g;subst m;refine⟨by simp[lN,oo,f.get ad _ h,asAddr,vB j k (iM [v])],?_⟩;have:=(qA (P:=P) (t:=t) (off:=0) j ks).reads (F:=F) (L:=L) (n:=w.heap.size) (.inl (fI (eN g) (by simp[Item.bH])));simpa[lN,oo,f.get ad _ h,asAddr]using this
theorem QU{t:TypeId}{ad b i s:Nat}{cs:List Value}{t':TypeId}(h:look e ad=some (.pointer (some ⟨b,0,none⟩)))(g:L[i]?=some (.blk b cs t'))(k:∀w,(isAgg t).run P w=.ok true w)(o:∀w,(sizeOf t).run P w=.ok s w)(m:cs.length=s):
 hU P n w0 e F L (.cell ad t) (.agg cs.toArray):=λa w f p=>by
 have j:w.heap[b]?=some (.cells cs.toArray t' (0,0)):=p.get g;refine⟨by simp[lN,oo,f.get ad _ h,asAddr,Ga j k o m (iM cs)],?_⟩;have:=(qA (P:=P) (t:=t) (off:=0) j ks).reads (F:=F) (L:=L) (n:=w.heap.size) (.inl (fI (eN g) (by simp[Item.bH])));simpa[lN,oo,f.get ad _ h,asAddr]using this
theorem At.out{x:Exit}(s:x=.ret\/x=.normal)(p:∀a w,cG n a e->St w0 F L w->(results fn a.tmps).run P w=.ok v w/\dE F L w.heap.size ((results fn a.tmps).events P w #[]))(m:cS F0 F)(q:L'.Sublist L)(hp:post F L' v)(o:n.ds=[]:=by exact X):At n w0 (bodyPost P fn (lQ w0 F0 post)) x e F L:=λa hd w i g=>by
 have h:a.defers=[]/\∀w1,eg hd w w1->∃v,(results fn a.tmps).run P w1=.ok v w1/\(∀f,jm hd w1 w1 (seen P f ((results fn a.tmps).events P w1 #[])))/\lQ w0 F0 post v hd w1:=
  ⟨i.defers.trans o,λw1 r=>have⟨j,k⟩:=p a w1 i (g.rely r).toSt;⟨v,j,λf=>(mO F L w1).wU k (g.rely r),F,L',m,(g.rely r).sublist q,hp⟩⟩
 rcases s with rfl|rfl<;>exact h
theorem Nk{x:Exit}(j:x=.ret\/x=.normal)(f:fn.results=#[])(g:cS F0 F)(i:L'.Sublist L)(hp:post F L' (.tuple #[]))(h:n.ds=[]:=by exact X):At n w0 (bodyPost P fn (lQ w0 F0 post)) x e F L:=
 At.out j (λa w k m=>⟨by simp[results,f],lK (by simp[results,f])⟩) g i hp h
theorem ZG{rs:List ResultVar}{vs:List Value}{a:Act}{w:World}(s:cG n a e)(x:St w0 F L w)(h:∀(i:Nat)(r:ResultVar),rs[i]?=some r->∃v,vs[i]?=some v/\hU P n w0 e F L r v)(m:rs.length=vs.length):∀{es:Array Event},dE F L w.heap.size es->
 (rs.mapM (lN a.tmps)).run P w=.ok vs w/\dE F L w.heap.size ((rs.mapM (lN a.tmps)).events P w es):=by
 induction rs generalizing vs with
 |nil=>
  intro es g;obtain rfl:vs=[]:=by cases vs<;>simp_all
  exact⟨by simp,by simpa using g⟩
 |cons r rs y=>
  intro es g
  cases vs with
  |nil=>simp at m
  |cons v vs=>
   obtain⟨A,o,t⟩:=h 0 r X;simp only[pB,gU]at o;subst o;have⟨j,p⟩:=t a w s x;have f:dE F L w.heap.size ((lN a.tmps r).events P w es):=by rw[Sem.events_acc];exact g.app p
   have⟨k,q⟩:=y (λi r hi=>h (i+1) r (by simpa using hi)) (by simpa using m) f;refine⟨by simp[List.mapM_cons,j,k],?_⟩;simp only[List.mapM_cons,Sem.events_bind,j,Result.evThen_ok,k,Sem.events_pure];exact q
theorem FU{r:List ResultVar}{vs:List Value}{u:Value}{a:Act}{w:World}(f:fn.results=r.toArray)(k:cG n a e)(p:St w0 F L w)(h:∀(i:Nat)(q:ResultVar),r[i]?=some q->∃v,vs[i]?=some v/\hU P n w0 e F L q v)(m:r.length=vs.length)(o:(if h:vs.toArray.size=1 then vs.toArray[0]else .tuple vs.toArray)=u):
 (results fn a.tmps).run P w=.ok u w/\dE F L w.heap.size ((results fn a.tmps).events P w #[]):=by
 have⟨g,j⟩:=ZG k p h m (es:=#[]) lJ;rw[ZH,f];simp only[List.mapM_toArray];refine⟨by simp[g];exact o,?_⟩;simp only[Sem.events_bind,Sem.events_map,Sem.events_pure];cases (Functor.map List.toArray (List.mapM (lN a.tmps) r)).run P w<;>exact j
theorem Nl{g:ResultVar}(f:fn.results=#[g])(j:hU P n w0 e F L g v)(k:cS F0 F)(p:L'.Sublist L)(hp:post F L' v)(o:n.ds=[]:=by exact X):At n w0 (bodyPost P fn (lQ w0 F0 post)) .ret e F L:=
 At.out (.inl X) (λa w m s=>FU (r:=[g]) (vs:=[v]) f m s (λi q h=>by match i with|0=>cases h;exact⟨_,X,j⟩|i+1=>simp at h) X X) k p hp o
theorem Nm{h j:ResultVar}{k m:Value}(f:fn.results=#[h,j])(o:hU P n w0 e F L h k)(p:hU P n w0 e F L j m)(s:cS F0 F)(y:L'.Sublist L)(hp:post F L' (.tuple #[k,m]))(x:n.ds=[]:=by exact X):At n w0 (bodyPost P fn (lQ w0 F0 post)) .ret e F L:=
 At.out (.inl X) (λa w t A=>FU (r:=[h,j]) (vs:=[k,m]) f t A (λi q g=>by match i with|0=>cases g;exact⟨_,X,o⟩|1=>cases g;exact⟨_,X,p⟩|i+2=>simp at g) X X) s y hp x
theorem Nn{h j k:ResultVar}{m o v3:Value}(f:fn.results=#[h,j,k])(p:hU P n w0 e F L h m)(s:hU P n w0 e F L j o)(t:hU P n w0 e F L k v3)(x:cS F0 F)(B:L'.Sublist L)(hp:post F L' (.tuple #[m,o,v3]))(A:n.ds=[]:=by exact X):
 At n w0 (bodyPost P fn (lQ w0 F0 post)) .ret e F L:=
 At.out (.inl X) (λa w y D=>FU (r:=[h,j,k]) (vs:=[m,o,v3]) f y D (λi q g=>by match i with|0=>cases g;exact⟨_,X,p⟩|1=>cases g;exact⟨_,X,s⟩|2=>cases g;exact⟨_,X,t⟩|i+3=>simp at g) X X) x B hp A
theorem FZ{f:FuncId}{xs:List Operand}{vs:List Value}{h:Array TypeId}{a:Act}{w:World}(i:cG n a e)(k:evs e xs vs)(g:∀(args:Array Value)(w:World),(callFunc f args).run P w=.ok (.enter f args) w):
 (execOp a.eval ⟨dst,.call ⟨.value (.func f),xs.toArray,h⟩,ty,pos,aX,gd⟩).run P w=.ok (.enter f vs.toArray) w:=by
 have j:=i.wP k;simp[execOp,resolve,Deferred.ofValue,Act.eval,invoke,g];exact j
theorem Iz{f:FuncId}{fn:Func}{c:Code}(g:P.funcs[f]?=some fn)(a:fn.body=some c)(args:Array Value)(w:World)(es:Array Event):(callFunc f args).events P w es=es:=by unfold callFunc;simp only[Sem.events_bind,events_program,run_program,Result.evThen_ok,g,a];split<;>simp
theorem D2{f:FuncId}{fn:Func}{c:Code}{xs:List Operand}{g:Array TypeId}{a:Act}{w:World}(i:P.funcs[f]?=some fn)(h:fn.body=some c):
 lI P a ⟨dst,.call ⟨.value (.func f),xs.toArray,g⟩,ty,pos,aX,gd⟩ w:=by
 unfold lI;simp[execOp,resolve,Deferred.ofValue,Act.eval,invoke,Iz i h]
theorem Ok.op{f:FuncId}{xs:List Operand}{vs:List Value}{i:Array TypeId}{K:Way}{a:Act}{hd:bG}{w:World}(s:cG n a e)(D:evs e xs vs)(g:∀(args:Array Value)(w:World),(callFunc f args).run P w=.ok (.enter f args) w)(q:Ok P w0 f vs F L post)(B:SH w0 F L hd w)
 (k:∀h L' v j w',cS F h->SH w0 h L' j w'->post h L' v->K (a.put dst v) j w'):fX P ⟨dst,.call ⟨.value (.func f),xs.toArray,i⟩,ty,pos,aX,gd⟩ a hd w K:=by
 unfold fX;rw[FZ s D g];have m:=q hd w B;have y:lI P a ⟨dst,.call ⟨.value (.func f),xs.toArray,i⟩,ty,pos,aX,gd⟩ w:=by obtain⟨fn,c,x,t,_⟩:=m;exact D2 x t
 exact⟨X,y,m.mono λv o w'⟨h,L',p,A,hp⟩=>k h L' v o w' p A hp⟩
theorem a9.call{f:FuncId}{xs:List Operand}{vs:List Value}{j:Array TypeId}(s:gd=none)(i:dst=some d)(t:d<n.n)(A:evs e xs vs)(g:∀(args:Array Value)(w:World),(callFunc f args).run P w=.ok (.enter f args) w)(q:Ok P w0 f vs F L post)
 (k:∀h L' v,cS F h->post h L' v->a9 P n w0 ops Q l ((d,v)::e) h L'):a9 P n w0 ops Q (⟨dst,.call ⟨.value (.func f),xs.toArray,j⟩,ty,pos,aX,gd⟩::l) e F L:=
 a9.op s λa hd w o y=>by subst i;exact Ok.op o A g q y λh L' v m w' p x hp=>k h L' v p hp _ m w' (o.put t v) x
theorem PZ{j:Nat}{g:Bool}{t:Nat}{b:Bool}{f:FuncId}{xs:List Operand}{vs:List Value}{o:Array TypeId}(A:gd=some (j,g))(B:(ops[j]?).bind (·.dst)=some t)(M:look e t=some (.bool b))(y:b=g)(m:dst=some d)(D:d<n.n)(T:evs e xs vs)
 (h:∀(args:Array Value)(w:World),(callFunc f args).run P w=.ok (.enter f args) w) (x:Ok P w0 f vs F L post)
 (k:∀i L' v,cS F i->post i L' v->a9 P n w0 ops Q l ((d,v)::e) i L'):a9 P n w0 ops Q (⟨dst,.call ⟨.value (.func f),xs.toArray,o⟩,ty,pos,aX,gd⟩::l) e F L:=
 Dl A B M y λa hd w q S=>by subst m;exact Ok.op q T h x S λi L' v p w' s H hp=>k i L' v s hp _ p w' (q.put D v) H
theorem PX{f:FuncId}{xs:List Operand}{vs:List Value}{i:Array TypeId}(s:gd=none)(h:dst=some d)(t:d<n.n)(y:evs e xs vs)(g:∀(args:Array Value)(w:World),(callFunc f args).run P w=.ok (.enter f args) w)(p:Ok P w0 f vs F L (Is v L))
 (k:a9 P n w0 ops Q l ((d,v)::e) F L):a9 P n w0 ops Q (⟨dst,.call ⟨.value (.func f),xs.toArray,i⟩,ty,pos,aX,gd⟩::l) e F L:=
 a9.call s h t y g p λ_ _ _ o⟨j,m⟩=>by subst j m;exact λa hd w q x=>k a hd w q (x.weaken o)
theorem PY{j:Nat}{g:Bool}{t:Nat}{b:Bool}{f:FuncId}{xs:List Operand}{vs:List Value}{m:Array TypeId}(A:gd=some (j,g))(B:(ops[j]?).bind (·.dst)=some t)(H:look e t=some (.bool b))(y:b=g)(i:dst=some d)(D:d<n.n)(S:evs e xs vs)
 (h:∀(args:Array Value)(w:World),(callFunc f args).run P w=.ok (.enter f args) w) (s:Ok P w0 f vs F L (Is v L))
 (k:a9 P n w0 ops Q l ((d,v)::e) F L):a9 P n w0 ops Q (⟨dst,.call ⟨.value (.func f),xs.toArray,m⟩,ty,pos,aX,gd⟩::l) e F L:=
 PZ A B H y i D S h s λ_ _ _ q⟨o,p⟩=>by subst o p;exact λa hd w x M=>k a hd w x (M.weaken q)
theorem Ok.quiet{f:FuncId}{xs:List Operand}{vs:List Value}{h:Array TypeId}{a:Act}(i:dst=some d)(y:d<n.n)(j:cG n a e)(H:evs e xs vs)(g:∀(args:Array Value)(w:World),(callFunc f args).run P w=.ok (.enter f args) w)(s:Ok P w0 f vs F L (Is v L))
 (k:Qt P n w0 ops K l ((d,v)::e) F L):YtklkkoelldkncaaGreatDoor.quiet P ⟨dst,.call ⟨.value (.func f),xs.toArray,h⟩,ty,pos,aX,gd⟩ a (SH w0 F L) (il P ops (SH w0 F L) K l):=by
 subst i;refine⟨v,λhd w D=>?_,k _ (j.put y v)⟩;unfold quietAt;rw[FZ j H g];have m:=s hd w D;have A:lI P a ⟨some d,.call ⟨.value (.func f),xs.toArray,h⟩,ty,pos,aX,gd⟩ w:=by obtain⟨fn,c,x,t,_⟩:=m;exact D2 x t
 exact⟨X,A,m.mono λu S w'⟨M,L',q,B,o,p⟩=>by subst o p;exact⟨X,B.weaken q⟩⟩
theorem Qt.call{f:FuncId}{xs:List Operand}{vs:List Value}{i:Array TypeId}(o:gd=none)(h:dst=some d)(p:d<n.n)(q:evs e xs vs)(g:∀(args:Array Value)(w:World),(callFunc f args).run P w=.ok (.enter f args) w)(j:Ok P w0 f vs F L (Is v L))
 (k:Qt P n w0 ops K l ((d,v)::e) F L):Qt P n w0 ops K (⟨dst,.call ⟨.value (.func f),xs.toArray,i⟩,ty,pos,aX,gd⟩::l) e F L:=by
 intro a m;unfold il;rw[ce (by simp[Region.wanted,o])];exact j.quiet h p m q g k
theorem Ac{j:Nat}{g:Bool}{t:Nat}{b:Bool}{f:FuncId}{xs:List Operand}{vs:List Value}{m:Array TypeId}(s:gd=some (j,g))(x:(ops[j]?).bind (·.dst)=some t)(A:look e t=some (.bool b))(q:b=g)(i:dst=some d)(y:d<n.n)(B:evs e xs vs)
 (h:∀(args:Array Value)(w:World),(callFunc f args).run P w=.ok (.enter f args) w) (p:Ok P w0 f vs F L (Is v L))
 (k:Qt P n w0 ops K l ((d,v)::e) F L):Qt P n w0 ops K (⟨dst,.call ⟨.value (.func f),xs.toArray,m⟩,ty,pos,aX,gd⟩::l) e F L:=by
 intro a o;unfold il;rw[ce (by rw[rD o s x A,q];simp)];exact p.quiet i y o B h k
theorem Ev.extract{x:Operand}{vs:Array Value}{i:Nat}(g:ev e x=some (.tuple vs))(f:vs[i]?=some v):Ev P n w0 e F L ⟨dst,.extract x i,ty,pos,aX,gd⟩ v:=λa w h j=>by exact cK (by simp[execOp,h.eval g,Instr.extract,f]) (by simp[execOp,h.eval g,Instr.extract,f])
theorem Ev.nilCheck{x:Operand}{ad:Addr}(f:ev e x=some (.pointer (some ad))):Ev P n w0 e F L ⟨dst,.nilCheck x,ty,pos,aX,gd⟩ (.pointer (some ad)):=λa w h g=>by exact cK (by simp[execOp,h.eval f]) (by simp[execOp,h.eval f])
theorem N7{α:Type}[an α]{x:Operand}{s:Sl}{xs:List α}{ch:List Value}{k:Nat}(g:ev e x=some (s.at k))(p:Rd w0 F L s xs)(m:bu (I xs) k ch)(i:(ch.length==0)=false):Ev P n w0 e F L ⟨dst,.nilCheck x,ty,pos,aX,gd⟩ (s.at k):=λa w h q=>by
 have j:¬ch.length=0:=by simpa using i
 obtain⟨b,o,cs,t,f,y,A⟩:=(p w q).choose_spec.choose_spec.block m O;exact cK (by simp[execOp,h.eval g,f]) (by simp[execOp,h.eval g,f])
theorem Ev.makeFunc{f:Fn}{xs ys:List Operand}{us vs:List Value}(j:evs e xs us)(k:evs e ys vs):Ev P n w0 e F L ⟨dst,.makeFunc f xs.toArray ys.toArray,ty,pos,aX,gd⟩ (.func f us.toArray vs.toArray):=λa w h m=>by have g:=h.wP j;have i:=h.wP k;exact cK (by simp[execOp,Instr.makeFunc,g,i]) (by simp[execOp,Instr.makeFunc,g,i])
theorem tP{x:Operand}{s t:TypeId}{k k':IntKind}{i:Int}{d1:TypeDesc}(j:ev e x=some (.int k i))(f:∀w,(underlying s).run P w=.ok d1 w)(g:∀w,(underlying t).run P w=.ok (.int k') w):
 Ev P n w0 e F L ⟨dst,.convert s t x,ty,pos,aX,gd⟩ (.int k' (k'.wrap i)):=λa w h m=>by
 exact cK (by simp[execOp,h.eval j,convert,f,g,Conv.intToInt]) (by simp[execOp,h.eval j,convert,f,g,Conv.intToInt])
theorem NH{x:Operand}{s t:TypeId}{k k':IntKind}{i j:Int}{d1:TypeDesc}(h:ev e x=some (.int k i))(a:∀w,(underlying s).run P w=.ok d1 w)(f:∀w,(underlying t).run P w=.ok (.int k') w)(g:k'.wrap i=j):
 Ev P n w0 e F L ⟨dst,.convert s t x,ty,pos,aX,gd⟩ (.int k' j):=by subst g;exact tP h a f
theorem NY{α:Type}[an α]{x:Operand}{s:Sl}{t el:TypeId}{xs:List α}{f:Array TypeId}(hp:0<sz α)(j:ev e x=some s.v)(g:f[0]?=some t)(i:∀w,(underlying t).run P w=.ok (.slice el) w)(k:Rd w0 F L s xs):
 Ev P n w0 e F L ⟨dst,.call ⟨.builtin .len,#[x],f⟩,ty,pos,aX,gd⟩ (.int .i64 xs.length):=λa w h m=>by
 have:=(k w m).choose_spec.choose_spec.len hp;exact cK (by simp[execOp,resolve,invoke,builtin,Builtin.len_,g,h.eval j,i,Sl.v,goInt,this]) (by simp[execOp,resolve,invoke,builtin,Builtin.len_,g,h.eval j,i,Sl.v,goInt,this])
theorem NZ{x:Operand}{s:Y}{t:TypeId}{f:Array TypeId}(j:ev e x=some (Y.v s))(g:f[0]?=some t)(i:∀w,(underlying t).run P w=.ok .string w):
 Ev P n w0 e F L ⟨dst,.call ⟨.builtin .len,#[x],f⟩,ty,pos,aX,gd⟩ (.int .i64 s.length):=λa w h k=>by
 exact cK (by simp[execOp,resolve,invoke,builtin,Builtin.len_,g,h.eval j,i,Y.v,Y.b,goInt];rfl) (by simp[execOp,resolve,invoke,builtin,Builtin.len_,g,h.eval j,i,Y.v,Y.b,goInt])
theorem Ev.max2{x y:Operand}{i j:Int}{f:Array TypeId}(g:ev e x=some (.int .i64 i))(k:ev e y=some (.int .i64 j)):
 Ev P n w0 e F L ⟨dst,.call ⟨.builtin .max,#[x,y],f⟩,ty,pos,aX,gd⟩ (.int .i64 (max i j)):=λa w h m=>by
 refine cK ?_ (by simp[execOp,resolve,invoke,builtin,Builtin.max_,Builtin.max2,h.eval g,h.eval k]);simp[execOp,resolve,invoke,builtin,Builtin.max_,Builtin.max2,h.eval g,h.eval k];split<;>omega
theorem Ev.min2{x y:Operand}{i j:Int}{f:Array TypeId}(g:ev e x=some (.int .i64 i))(k:ev e y=some (.int .i64 j)):
 Ev P n w0 e F L ⟨dst,.call ⟨.builtin .min,#[x,y],f⟩,ty,pos,aX,gd⟩ (.int .i64 (min i j)):=λa w h m=>by
 refine cK ?_ (by simp[execOp,resolve,invoke,builtin,Builtin.min_,Builtin.min2,h.eval g,h.eval k]);simp[execOp,resolve,invoke,builtin,Builtin.min_,Builtin.min2,h.eval g,h.eval k];split<;>omega
theorem bu.extract{cs ch:List Value}{off:Nat}(h:bu cs off ch){s:Nat}(a:ch.length=s):cs.toArray.extract off (off+s)=ch.toArray:=by obtain⟨A,B,rfl,rfl⟩:=h;subst a;simp
theorem Mn:∀(vs:List Value)(A old B:List Value)(k:Nat),old.length=vs.length->((vs.zipIdx k).foldl (λcs(p:Value×Nat)=>cs.setIfInBounds (A.length-k+p.2) p.1) (A++(old++B)).toArray)=(A++(vs++B)).toArray\/k>A.length
 |[],A,old,B,k,h=>by
  have:old=[]:=by simpa using h
  subst this;simp
 |v::vs,A,old,B,k,h=>by
  cases old with
  |nil=>simp at h
  |cons o old=>
   by_cases i:k>A.length
   .exact .inr i
   .left;have a:=Mn vs (A++[v]) old B (k+1) (by simpa using h);rcases a with a|a
    .simp only[List.zipIdx_cons,List.foldl_cons];rw[show A.length-k+k=A.length by omega];have f:(A++(o::old++B)).toArray.setIfInBounds A.length v=(A++[v]++(old++B)).toArray:=by
      apply lc;simp
     rw[f];have g:(A++[v]).length-(k+1)=A.length-k:=by simp
     rw[g]at a;rw[a];simp
    .simp at a;omega
theorem kz{a:Nat->Option (Nat×Nat)}{cs:Array Value}:Instr.fill a cs []=some cs:=X
theorem eX{a:Nat->Option (Nat×Nat)}{cs cs' vs:List Value}{i off s:Nat}{v:Value}{rest:List (Nat×Value)}{r:Array Value}(hp:a i=some (off,s))(j:v.cells=vs.toArray)(m:vs.length=s)(h:bA cs off vs cs')
 (k:Instr.fill a cs'.toArray rest=some r):Instr.fill a cs.toArray ((i,v)::rest)=some r:=by
 have f:=h.le;obtain⟨A,old,B,rfl,rfl,o,rfl⟩:=h;unfold Instr.fill;simp only[hp];have g:v.cells.size=s:=by rw[j];simpa using m
 rw[ck (by rw[g];simp only[py,gL,cj];simp at f ⊢;omega)];have:=Mn vs A old B 0 o;simp only[qR]at this;rcases this with this|this
 .rw[j];have e:(vs.toArray.zipIdx).foldl (λcs(p:Value×Nat)=>cs.setIfInBounds (A.length+p.2) p.1) (A++(old++B)).toArray=(A++(vs++B)).toArray:=by
   rw[<-Array.foldl_toList];simpa using this
  rw[<-e]at k;exact k
 .omega
theorem p6{P:Program}{t:TypeId}{g:Array Field}{z:Value}{places:Array (Nat×Nat)}{zs cs:List Value}{pv:List (Nat×Value)}(j:∀w,(zeroValue t).run P w=.ok z w)(a:z.cells=zs.toArray)(i:∀w,(underlying t).run P w=.ok (.struct g) w)
 (hp:∀w,(g.mapM λf=>do pure (f.offset,<-sizeOf f.type):Sem (Array (Nat×Nat))).run P w=.ok places w) (h:Instr.fill (places[·]?) zs.toArray pv=some cs.toArray) (w:World):(Instr.build t pv.toArray).run P w=.ok (.agg cs.toArray) w:=by
 simp[Instr.build,j,i,a];simp at hp;simp[hp,h]
def qB(e:List (Nat×Value)):List (Nat×Operand)->List (Nat×Value)->Prop
 |[],[]=>True
 |(i,x)::xs,(j,v)::vs=>i=j/\ev e x=some v/\qB e xs vs
 |_,_=>False
theorem cG.qB{a:Act}(h:cG n a e):∀{xs:List (Nat×Operand)}{vs:List (Nat×Value)},qB e xs vs->xs.map (λp=>(p.1,a.eval p.2))=vs
 |[],[],_=>rfl
 |(i,x)::xs,(j,v)::vs,⟨f,g,k⟩=>by subst f;rw[ow,h.eval g,h.qB k]
 |[],_::_,h=>h.elim
 |_::_,[],h=>h.elim
theorem Ev.build{t:TypeId}{ps:List (Nat×Operand)}{pv:List (Nat×Value)}(j:YtklkkoelldkncaaGreatDoor.qB e ps pv)(g:∀w,(Instr.build t pv.toArray).run P w=.ok v w):Ev P n w0 e F L ⟨dst,.build t ps.toArray,ty,pos,aX,gd⟩ v:=λa w h k=>by have i:=h.qB j;have f:=g w;simp only[<-i]at f;refine⟨by simp[execOp];simp[f],lK ?_⟩;simp[execOp];exact Wc _ _ P w #[]
theorem gc{α:Type}[an α]{m:Nat}{z0 x:α}{v:Value}(f:v.cells=(enc x).toArray)(a:sz α=m):Instr.fill (λi=>some (i*m,m)) (I (List.replicate 1 z0)).toArray [(0,v)]=some (I [x]).toArray:=
 eX (cs:=I (List.replicate 1 z0)) (cs':=I [x]) (vs:=enc x) X f ((an.len x).trans a) ((d5 (l:=List.replicate 1 z0) (i:=0) (x:=z0) (y:=x) a X (cm ((an.len _).trans (an.len _).symm))).off X) kz
theorem a9.buildSlice{α:Type}[an α]{t el:TypeId}{k m:Nat}{ps:List (Nat×Operand)}{pv:List (Nat×Value)}{xs:List α}(A:gd=none)(f:dst=some d)(H:d<n.n)(T:YtklkkoelldkncaaGreatDoor.qB e ps pv)
 (y:∀w,(Instr.buildSlice t k pv.toArray).run P w=.ok (.slice (some ⟨w.heap.size,0,none⟩) k k) {w with heap:=w.heap.push (.cells (I xs).toArray el)}) (B:xs.length=k) (D:sz α=m) (p:k<=2^63-1)
 (V:∀s:Sl,s.len=k->a9 P n w0 ops Q l ((d,s.v)::e) F (.own s el m (I xs)::L)):a9 P n w0 ops Q (⟨dst,.buildSlice t k ps.toArray,ty,pos,aX,gd⟩::l) e F L:=
 lh A f H λa w h S=>by
  subst f D;have x:=h.qB T;have o:=y w;simp only[<-x]at o;have M:(execOp a.eval ⟨some d,.buildSlice t k ps.toArray,ty,pos,aX,gd⟩).run P w=.ok (.value (.slice (some ⟨w.heap.size,0,none⟩) k k)) {w with heap:=w.heap.push (.cells (I xs).toArray el)}:=by simp[execOp];simp at o;simp[o]
  have j:(I xs).length=k*sz α:=by rw[d7,B]
  refine⟨_,_,F,_,M,lK ?_,u6 (i:=.own ⟨some ⟨w.heap.size,0,none⟩,k,k⟩ el (sz α) (I xs)) _ X,S.new _ X λg q=>?_,V ⟨some ⟨w.heap.size,0,none⟩,k,k⟩ X⟩
  .simp[execOp];exact Kw _ _ _ P w #[]
  .exact⟨j,p,.inr ⟨_,0,[],[],X,by simpa using q,X,dO _,by simp[j]⟩⟩
end
abbrev ij:=@Nk
abbrev bp:=@Nl
abbrev dC:=@Nm
abbrev pK:=@Nn
abbrev cQ:=@Ev.build
abbrev md:=@NH
abbrev cn:=@Ev.extract
abbrev cw:=@NY
abbrev fK:=@NZ
abbrev pP:=@Ev.max2
abbrev td:=@Ev.min2
abbrev bP:=@Ev.nilCheck
abbrev kM:=@N7
abbrev BD:=@dE.extern
abbrev fm:=@a9.buildSlice
abbrev rc:=@PY
abbrev nz:=@cT.bind
abbrev mI:=@cT.pure
abbrev kL:=@Qt.call
abbrev dQ:=@QU
abbrev aO:=@hU.tmp
end Go.Proofs.YtklkkoelldkncaaGreatDoor
namespace Go.Proofs.YtklkkoelldkncaaGreatDoor
open Go.RowKit Go.Conc an
theorem set_perm{L:List Item}{i:Nat}{x y:Item}(h:L[i]?=some x):(y::L.eraseIdx i).Perm (L.set i y):=by have hi:=(ff.1 h).1;rw[kP h,Fc];exact List.perm_middle.symm
theorem St.lY{w0:World}{F:bk}{L:List Item}{w:World}(h:St w0 F L w)(t:TypeId)(s:Nat):St w0 F (.own Sl.nil t s []::L) w:=by
 refine⟨h.below,h.gh,λb a=>h.apart b ?_,λi hi=>?_,?_⟩
 .rw[eQ]at a;simpa[Item.bH,Sl.bH,Sl.nil]using a
 .rcases fB.1 hi with rfl|hi
  .exact⟨by simp[Sl.nil],by simp[Sl.nil],.inl ⟨X,X⟩⟩
  .exact h.holds i hi
 .rw[eQ];simpa[Item.bH,Sl.bH,Sl.nil]using h.nodup
theorem SH.lY{w0:World}{F:bk}{L:List Item}{h:bG}{w:World}(f:SH w0 F L h w)(t:TypeId)(s:Nat):SH w0 F (.own Sl.nil t s []::L) h w:=
 f.to (f.toSt.lY t s) (λb a=>by rw[eQ]at a;simpa[Item.bH,Sl.bH,Sl.nil]using a) λb o a=>.inr (by rw[a];rfl)
section
variable {P:Program}{w:World}
theorem tx{o:Nat×Nat}{s:Sl}{t:TypeId}{m:Nat}{xs:List Value}(h:gX o (World.hp w) s t m xs):(Builtin.firstCells m s.len s.v).run P w=.ok xs.toArray w:=by
 rcases h.2.2 with⟨f,x⟩|⟨b,off,pre,post,p,q,y,_⟩
 .have:xs=[]:=by have:=h.1;rw[f]at this;simpa using this
  subst this
  cases g:s.a with
  |none=>simp[Builtin.firstCells,Sl.v,g]
  |some a=>simp[Builtin.firstCells,Sl.v,g,f,loadCells,loadCellsFrom]
 .have i:=run_loadCells_list (P:=P) (w:=w) ⟨b,off,none⟩ xs (λj v k=>by
   rw[ia,wK q];rw[pz O,ou (by have:=(ff.1 k).1;omega)]
   rw[show off+j-pre.length=j by omega];exact k)
  rw[h.1]at i;simp only[Builtin.firstCells,Sl.v,p];exact i
theorem Jg{F:bk}{L:List Item}{N b off:Nat}{cs:Array Value}{t':TypeId}{a:Nat×Nat}{es:Array Event}(f:w.heap[b]?=some (.cells cs t' a))(h:b∈cu L\/(F b).isSome=true)(g:dE F L N es)(n i:Nat)(acc:Array Value):dE F L N ((loadCellsFrom ⟨b,off,none⟩ i n acc).events P w es):=by rw[Sem.events_acc];exact g.app ((DZ n i acc f ks).reads h)
theorem qz{F:bk}{L:List Item}{N:Nat}{k:Nat×Nat}{s:Sl}{t:TypeId}{m:Nat}{xs:List Value}{es:Array Event}(h:gX k (World.hp w) s t m xs)(q:∀b off,0<s.len->s.a=some ⟨b,off,none⟩->b∈cu L\/(F b).isSome=true)(g:dE F L N es):
 dE F L N ((Builtin.firstCells m s.len s.v).events P w es):=by
 cases f:s.a with
 |none=>simpa[Builtin.firstCells,Sl.v,f]using g
 |some a=>
  have e:Builtin.firstCells m s.len s.v=loadCells a (s.len*m):=by simp[Builtin.firstCells,Sl.v,f]
  rw[e];by_cases i:s.len=0
  .simpa[i,loadCells,loadCellsFrom]using g
  .rcases h.2.2 with⟨o,_⟩|⟨b,off,pre,post,j,p,_⟩
   .exact absurd o i
   .obtain rfl:a=⟨b,off,none⟩:=by rw[j]at f;exact(dF f).symm
    exact Jg p (q b off O j) g _ _ _
theorem Rd.bH{α:Type}[an α]{w0:World}{F:bk}{L:List Item}{s:Sl}{xs:List α}(j:Rd w0 F L s xs)(k:St w0 F L w):∀b off,0<s.len->s.a=some ⟨b,off,none⟩->b∈cu L\/(F b).isSome=true:=λb off o h=>
 k.touch λw' f=>by
  obtain⟨_,_,g⟩:=j w' f;rcases g.2.2 with⟨p,_⟩|⟨m,off',pre,post,a,i,_⟩
  .omega
  .rw[h]at a;simp only[gU,Addr.mk.injEq]at a;obtain⟨rfl,_⟩:=a;exact⟨_,_,_,i⟩
theorem wN{F:bk}{L:List Item}{N b:Nat}{es:Array Event}(f:dE F L N es):dE F L N ((askRoom b).events P w es):=λe h=>by
 rcases events_askRoom b w es e h with h|⟨m,rfl,a⟩
 .exact f e h
 .exact .inl (.inr (by unfold Neutral at a;subst a;rfl))
theorem B1(b:Nat):(askRoom b).run P w=.ok () w:=by unfold askRoom;split<;>simp
theorem gX.drew{a:Nat×Nat}{s:Sl}{t:TypeId}{m:Nat}{xs:List Value}(h:gX a (World.hp w) s t m xs):gX a (World.hp {w with drawn:=w.drawn+1}) s t m xs:=h
end
section
variable {P:Program}{w0:World}{F:bk}{L:List Item}
theorem St.append{D9:Nat×Nat}{w:World}{t ty el Aw:TypeId}{i m:Nat}{inf:TypeInfo}{z:Value}{s p:Sl}{xs ys:List Value}(hw:St w0 F L w)(hu:∀w,(underlying t).run P w=.ok (.slice el) w)(hi:∀w,(typeInfo el).run P w=.ok inf w)(y:inf.size=m)(hz:inf.zero=some z)(lD:z.cells.size=m)
 (M:L[i]?=some (.own s el m xs)) (S:gX D9 (World.hp w) p Aw m ys) (h1:ys.all pS=true) (mr:s.len+p.len<=2^40) (no:inf.bytes<=128) (qK:∀b off,0<p.len->p.a=some ⟨b,off,none⟩->b∈cu L\/(F b).isSome=true):
 ∃s' w',(Builtin.append_ #[t,t] ty #[s.v,p.v]).run P w=.ok s'.v w'/\s'.len=s.len+p.len/\St w0 F (L.set i (.own s' el m (xs++ys))) w'/\gb F L w F (L.set i (.own s' el m (xs++ys))) w'/\dE F L w.heap.size ((Builtin.append_ #[t,t] ty #[s.v,p.v]).events P w #[]):=by
 have Uo:∀b off,0<s.len->s.a=some ⟨b,off,none⟩->b∈cu L\/(F b).isSome=true:=λb off _ ha=>.inl (fI (eN M) (by simp[Item.bH,Sl.bH,ha]));have hs:gW (World.hp w) s el m xs:=hw.get M;have W:=tx (P:=P) S;have T:(s.len+p.len)*inf.bytes<=140737488355328:=iU (qQ mr no) ab;have hl:(xs++ys).length=(s.len+p.len)*m:=by rw[cr,hs.1,S.1,mz]
 by_cases q:s.len+p.len<=s.cap
 .rcases hs.2.2 with⟨g2,g3⟩|⟨b,off,pre,post,D,hh,ho,qJ,kZ⟩
  .have B:p.len=0:=by omega
   have ey:ys=[]:=by have:=S.1;rw[B]at this;simpa using this
   subst ey;have ET:L.set i (.own s el m (xs++[]))=L:=by rw[jH,kP M];exact(kQ M).symm
   have k:=qz (P:=P) (es:=#[]) S qK (N:=w.heap.size) lJ;refine⟨s,w,?_,by omega,?_,by rw[ET];exact mO _ _ _,?_⟩
   .have j:=W;rw[B]at j;simp[Sl.v,B]at j
    cases ha:s.a with
    |none=>simp[Builtin.append_,hu,sizeOf,hi,y,Builtin.lenOf,Sl.v,ha,g2,g3,B,j]
    |some a=>simp[Builtin.append_,hu,sizeOf,hi,y,Builtin.lenOf,Sl.v,ha,g2,g3,B,j,storeCells]
   .rw[jH];have:L.set i (.own s el m xs)=L:=by rw[kP M];exact(kQ M).symm
    rw[this];exact hw
   .cases ha:s.a with
    |none=>simp only[B]at k;simp[Builtin.append_,hu,sizeOf,hi,y,Builtin.lenOf,Sl.v,ha,g2,g3,B]at k ⊢;exact k
    |some a=>simp only[B]at k;have j:=W;rw[B]at j;simp[Sl.v,B]at j;simp[Builtin.append_,hu,sizeOf,hi,y,Builtin.lenOf,Sl.v,ha,g2,g3,B,j,storeCells]at k ⊢;exact k
  . -- room in the block
   have xn:=hs.1;have AQ:=S.1;have Ux:p.len*m<=post.length:=by have h3:(s.len+p.len)*m<=s.cap*m:=oh m q;rw[mz]at h3;rw[cr]at kZ;omega
   have xl:bA (pre++(xs++post)) (off+s.len*m) ys (pre++((xs++ys)++post.drop ys.length)):=by refine⟨pre++xs,post.take ys.length,post.drop ys.length,by simp,by simp;omega,by simp;omega,by simp⟩
   have iS:=run_storeCells_at (P:=P) b (off+s.len*m) el ys 0 (pre++(xs++post)).toArray w hh (by have:=xl.le;simp at this ⊢;omega) (by intro u ns;exact mD.1 h1 u ns);simp only[mA]at iS;rw[xl.eq]at iS;have H:b∈(Item.own s el m xs).bH:=by simp[Item.bH,Sl.bH,D]
   have k:=qz (P:=P) (es:=#[]) S qK (N:=w.heap.size) lJ;refine⟨⟨s.a,s.len+p.len,s.cap⟩,w.setRow b (pre++((xs++ys)++post.drop ys.length)).toArray,?_,X,?_,u7 M H X,?_⟩
   .have j:=W;simp[Sl.v]at j;simp[Builtin.append_,hu,sizeOf,hi,y,Builtin.lenOf,Sl.v,D,q,j,ia];simp at iS;simp[iS]
   .refine hw.setRow M (by simp[Item.bH,Sl.bH,D]) (by simp[Item.bH,Sl.bH,D]) λg jE=>?_;refine⟨hl,by simp only;omega,.inr ⟨b,off,pre,post.drop ys.length,D,jE _ _ _ hh,ho,q,?_⟩⟩;simp only[cr,gM]at kZ ⊢;omega
   .have j:=W;simp[Sl.v]at j k;simp[Builtin.append_,hu,sizeOf,hi,y,Builtin.lenOf,Sl.v,D,q,j,ia];rw[Sem.events_acc];exact k.app ((wO (P:=P) (off:=off+s.len*m) ys 0 hh ks).lists (fI (eN M) H))
 . -- a new block
  have JJ:¬(281474976710656<Builtin.nextslicecap (s.len+p.len) s.cap*inf.bytes):=by have:=growslice_fits (need:=s.len+p.len) (old:=s.cap) (bytes:=inf.bytes) O T;omega
  have ni:¬(9223372036854775807<((s.len:Int)+(p.len:Int))):=by omega
  have V:=tx (P:=P) (w:={w with drawn:=w.drawn+1}) hs.drew;have A:=tx (P:=P) (w:={w with drawn:=w.drawn+1}) S.drew;have hg:s.len+p.len<=grownCap w (s.len+p.len) s.cap el:=by unfold grownCap Question.cut;exact pt _ _
  refine⟨⟨some ⟨w.heap.size,0,none⟩,s.len+p.len,grownCap w (s.len+p.len) s.cap el⟩,
   {w with drawn:=w.drawn+1,heap:=w.heap.push (.cells ((xs++ys)++(Builtin.zeroCells z.cells (grownCap w (s.len+p.len) s.cap el-(s.len+p.len))).toList).toArray el)},?_,X,?_,?_,?_⟩
  .simp[Sl.v]at V A;simp[Builtin.append_,hu,sizeOf,zeroValue,hi,y,hz,Builtin.lenOf,Sl.v,q,ni,JJ,Question.forced,V,A,newRow,grownCap];generalize Builtin.zeroCells z.cells _=f;have sx:xs.toArray++(ys.toArray++f)=(xs++(ys++f.toList)).toArray:=by apply lc;simp
   rw[sx];rfl
  .have sC:=(hw.sublist (L':=L.eraseIdx i) (Bd L i)).drew
   refine(sC.new (i:=.own ⟨some ⟨w.heap.size,0,none⟩,s.len+p.len,grownCap w (s.len+p.len) s.cap el⟩ el m (xs++ys))
    (.cells ((xs++ys)++(Builtin.zeroCells z.cells (grownCap w (s.len+p.len) s.cap el-(s.len+p.len))).toList).toArray el) X λg jE=>?_).perm (set_perm M)
   refine⟨hl,by simp only;omega,.inr ⟨_,0,[],_,X,by simpa using jE,X,hg,?_⟩⟩;simp only[cr,hs.1,S.1,Builtin.zeroCells,lD];simp;rw[<-mz,<-mz,Nat.add_sub_cancel' hg];exact dO _
  .refine⟨X,X,X,by simp,λb D _=>by show(w.heap.push _)[b]?=_;rw[pC,ck O],λb D=>?_,λb o D=>.inr (.inl (by rw[D];rfl))⟩;obtain⟨x,hx,sG⟩:=pE.1 D;rcases kH hx with h|h
   .exact .inl (fI h sG)
   .subst h;simp[Item.bH,Sl.bH]at sG;subst sG;right;simp
  .simp[Sl.v]at V A;have hA:=qz (P:=P) (w:={w with drawn:=w.drawn+1}) hs.drew Uo (wN (P:=P) (w:={w with drawn:=w.drawn+1}) (b:=grownCap w (s.len+p.len) s.cap el*inf.bytes) (lJ (F:=F) (L:=L) (n:=w.heap.size)));have hB:=qz (P:=P) (w:={w with drawn:=w.drawn+1}) S.drew qK hA;simp[Sl.v]at hA hB;simp[Builtin.append_,hu,sizeOf,zeroValue,hi,y,hz,Builtin.lenOf,Sl.v,q,ni,JJ,Question.forced,V,A,newRow,grownCap,B1]at hB ⊢;exact hB
end
theorem I0{α:Type}[an α](g:0<sz α)(z0:α):∀(k j:Nat),j<k*sz α->(I (List.replicate k z0))[j]?=(enc z0)[j%sz α]?
 |0,j,h=>by omega
 |k+1,j,h=>by
  rw[xr,kY];by_cases f:j<sz α
  .rw[ou (by rw[an.len];exact f),sL f]
  .rw[pz (by rw[an.len];omega),an.len,I0 g z0 k _ (by rw[oj]at h;omega),Nat.mod_eq_sub_mod (a:=j) O]
theorem yA{α:Type}[an α](g:0<sz α){z:Value}{z0:α}(a:z.cells=(enc z0).toArray)(k:Nat):(Array.range (k*sz α)).map (λi=>z.cells[i%z.cells.size]!)=(I (List.replicate k z0)).toArray:=by
 have f:z.cells.size=sz α:=by rw[a];simp[an.len]
 apply AX;intro j;rw[show(I (List.replicate k z0)).toArray[j]?=(I (List.replicate k z0))[j]? from by simp];by_cases h:j<k*sz α
 .rw[I0 g z0 k j h];have m:j%sz α<(enc z0).length:=by rw[an.len];exact uG _ g
  simp[h,f];rw[a];simp[m]
 .rw[nv (by rw[d7];simp;omega)];simp;omega
theorem fq{P:Program}{α:Type}[an α]{t el k m:Nat}{z:Value}{z0:α}{xs:List α}{pv:List (Nat×Value)}(H:∀w,(underlying t).run P w=.ok (.slice el) w)(D:∀w,(sizeOf el).run P w=.ok m w)(M:∀w,(zeroValue el).run P w=.ok z w)(j:z.cells=(enc z0).toArray)(B:m=sz α)
 (q:(sz α==0)=false) (A:decide (k*sz α<=2^24)=true) (g:(k==0)=false) (y:Instr.fill (λi=>some (i*m,m)) (I (List.replicate k z0)).toArray pv=some (I xs).toArray) (w:World):
 (Instr.buildSlice t k pv.toArray).run P w=.ok (.slice (some ⟨w.heap.size,0,none⟩) k k) {w with heap:=w.heap.push (.cells (I xs).toArray el)}:=by
 subst B;have s:¬sz α=0:=by simpa using q
 have o:¬k=0:=by simpa using g
 have a:¬(2^24<k*sz α):=by simp at A;omega
 have h:¬(k*sz α=0):=by intro f;rcases A4.1 f with p|p<;>omega
 have x:=yA O j k;simp only[Nat.reducePow]at a;simp[Instr.buildSlice,H,D,M,a,newRow];rw[x];simp[y];exact λf=>absurd f h
section
variable {P:Program}{C:Co P}{n:Fm}{w0:World}{ops:Array Oper}{Q:eC}{K:Act->Prop}{l:List Oper}{e:List (Nat×Value)}{F F0:bk}{L L':List Item}{v:Value}{dst:Option Nat}{d:Nat}{ty:TypeId}{pos:String}{aX:Array Edge}{gd:Option (Nat×Bool)}
theorem a9.lY(t:TypeId)(s:Nat)(h:a9 P n w0 ops Q l e F (.own Sl.nil t s []::L)):a9 P n w0 ops Q l e F L:=λa hd w f g=>h a hd w f (g.lY t s)
theorem Cd.lY{c:Code}(t:TypeId)(s:Nat)(h:Cd P n w0 Q c e F (.own Sl.nil t s []::L)):Cd P n w0 Q c e F L:=λa hd w f g=>h a hd w f (g.lY t s)
theorem At.lY{x:Exit}(t:TypeId)(s:Nat)(h:At n w0 Q x e F (.own Sl.nil t s []::L)):At n w0 Q x e F L:=λa hd w f g=>h a hd w f (g.lY t s)
theorem a9.append{α:Type}[an α]{x y:Operand}{t el:TypeId}{i m:Nat}{inf:TypeInfo}{z:Value}{s W:Sl}{xs ys:List α}{cs:List Value}(hg:gd=none)(f:dst=some d)(hn:d<n.n)(hx:ev e x=some s.v)(hy:ev e y=some W.v)(hu:∀w,(underlying t).run P w=.ok (.slice el) w)
 (hi:∀w,(typeInfo el).run P w=.ok inf w) (T:inf.size=m) (hz:inf.zero=some z) (V:z.cells.size=m) (M:m=sz α) (hL:L[i]?=some (.own s el m cs)) (D:cs=I xs) (g:Rd w0 F L W ys) (hm:(m==0)=false) (mr:xs.length+ys.length<=2^40) (B:(decide (inf.bytes<=128))=true)
 (k:∀q:Sl,a9 P n w0 ops Q l ((d,q.v)::e) F (L.set i (.own q el m (I (xs++ys))))):a9 P n w0 ops Q (⟨dst,.call ⟨.builtin .append,#[x,y],#[t,t]⟩,ty,pos,aX,gd⟩::l) e F L:=
 lh hg f hn λa w h A=>by
  subst f D M;have h0:0<sz α:=by(have:¬sz α=0:=by simpa using hm);omega
  have TX:s.len=xs.length:=(A.get hL:gW (World.hp w) s el (sz α) (I xs)).len h0;have S:=g;obtain⟨Aw,_,g⟩:=g w A;have JN:W.len=ys.length:=g.len h0;obtain⟨q,w',hr,_,o,p,H⟩:=St.append (P:=P) (ty:=ty) A hu hi T hz V hL g (qy ys) O (by simpa using B) (S.bH A);have j:(execOp a.eval ⟨some d,.call ⟨.builtin .append,#[x,y],#[t,t]⟩,ty,pos,aX,gd⟩).run P w=.ok (.value q.v) w':=by simp[execOp,resolve,invoke,builtin,h.eval hx,h.eval hy,hr]
  rw[<-iG]at o p;refine⟨_,w',F,_,j,?_,p,o,k q⟩;simp[execOp,resolve,invoke,builtin,h.eval hx,h.eval hy];exact H
theorem zQ{x:Operand}{t el:TypeId}{b off k:Nat}(i:ev e x=some (.pointer (some ⟨b,off,none⟩)))(g:∀w,(underlying t).run P w=.ok (.array k el) w){m:Nat}(f:∀w,(sizeOf el).run P w=.ok m w):
 Ev P n w0 e F L ⟨dst,.slice t x none none none,ty,pos,aX,gd⟩ (Sl.v ⟨some ⟨b,off,none⟩,k,k⟩):=λa w h j=>by
 exact cK (by simp[execOp,Instr.sliceAt,h.eval i,g,Instr.sureAddr,Instr.sliceBounds,f,Sl.v,ia]) (by simp[execOp,Instr.sliceAt,h.eval i,g,Instr.sureAddr,Instr.sliceBounds,f,Sl.v,ia])
theorem a9.make{α:Type}[an α]{x y:Operand}{t el:TypeId}{m k:Nat}{inf:TypeInfo}{z:Value}{z0:α}(hg:gd=none)(o:dst=some d)(hn:d<n.n)(hx:ev e x=some (.int .i64 (k:Int)))(hy:ev e y=some (.int .i64 (k:Int)))(hu:∀w,(underlying t).run P w=.ok (.slice el) w)
 (hi:∀w,(typeInfo el).run P w=.ok inf w) (D:inf.size=m) (hz:inf.zero=some z) (lD:z.cells=(enc z0).toArray) (W:m=sz α) (hm:(m==0)=false) (H:k<=2^40) (M:(decide (inf.bytes<=128))=true)
 (kk:∀s':Sl,a9 P n w0 ops Q l ((d,s'.v)::e) F (.own s' el m (I (List.replicate k z0))::L)):a9 P n w0 ops Q (⟨dst,.makeSlice t x y,ty,pos,aX,gd⟩::l) e F L:=
 lh hg o hn λa w h hw=>by
  subst o W;have h0:0<sz α:=by(have:¬sz α=0:=by simpa using hm);omega
  have A:inf.bytes<=128:=by simpa using M
  have q:IntKind.i64.wrap (k:Int)=k:=bO O O;have f:¬((2:Int)^48<(inf.bytes:Int)*(k:Int)):=by have:inf.bytes*k<=128*2^40:=qQ A H;omega
  have j:=yA h0 lD k;have B:(execOp a.eval ⟨some d,.makeSlice t x y,ty,pos,aX,gd⟩).run P w=.ok (.value (.slice (some ⟨w.heap.size,0,none⟩) k k)) {w with heap:=w.heap.push (.cells (I (List.replicate k z0)).toArray el)}:=by
   have s:¬((k:Int)<0):=by omega
   simp only[Int.reducePow]at f;by_cases hk:k=0
   .subst hk;have UU:IntKind.i64.wrap 0=0:=bO O O;simp[execOp,Instr.makeSlice,h.eval hx,h.eval hy,hu,asInt,asIntOf,hi,UU,newRow,sizeOf];rw[show(Array.map (λ_=>default) (Array.range 0):Array Value)=(I ([]:List α)).toArray from by simp[I]]
   .have V:¬(k*sz α=0):=by
     intro T;rcases A4.1 T with h'|h'<;>omega
    simp[execOp,Instr.makeSlice,h.eval hx,h.eval hy,hu,asInt,asIntOf,hi,q,newRow,sizeOf,D,zeroValue,hz,f,s,j];exact λT=>absurd T V
  have p:(I (List.replicate k z0)).length=k*sz α:=by rw[d7];simp
  refine⟨_,_,F,_,B,?_,u6 (i:=.own ⟨some ⟨w.heap.size,0,none⟩,k,k⟩ el (sz α) (I (List.replicate k z0))) _ X,hw.new _ X λg S=>?_,kk ⟨some ⟨w.heap.size,0,none⟩,k,k⟩⟩
  .have s:¬((k:Int)<0):=by omega
   simp only[Int.reducePow]at f;simp[execOp,Instr.makeSlice,h.eval hx,h.eval hy,hu,asInt,asIntOf,hi,q,newRow,sizeOf,D,zeroValue,hz,f,s,B1];exact wN lJ
  .exact⟨p,by simp only;omega,.inr ⟨_,0,[],[],X,by simpa using S,X,dO _,by simp[p]⟩⟩
end
abbrev j7:=@At.lY
abbrev dx:=@a9.lY
abbrev fk:=@a9.append
end Go.Proofs.YtklkkoelldkncaaGreatDoor
namespace Go.Proofs.YtklkkoelldkncaaGreatDoor
open Go.RowKit an
theorem fH{L:List Item}{i:Nat}{a:Item}(f:L[i]?=some a):L.Perm (a::L.eraseIdx i):=by
 have hi:=(ff.1 f).1;have g:L[i]=a:=(ff.1 f).2;have e:L=L.take i++a::L.drop (i+1):=by rw[<-g,<-jd hi,eD]
 rw[Fc];exact(List.Perm.of_eq e).trans List.perm_middle
section
variable {P:Program}{C:Co P}{n:Fm}{w0:World}{ops:Array Oper}{Q:eC}{K:Act->Prop}{l:List Oper}{e:List (Nat×Value)}{F F0:bk}{L L':List Item}{v:Value}{dst:Option Nat}{d:Nat}{ty:TypeId}{pos:String}{aX:Array Edge}{gd:Option (Nat×Bool)}
 {post:bk->List Item->Value->Prop} {fn:Func}
theorem P5{i:Nat}{f:Item}(g:L[i]?=some f)(a:f::L.eraseIdx i=L')(h:a9 P n w0 ops Q l e F L'):a9 P n w0 ops Q l e F L:=by subst a;exact a9.perm (fH g) h
theorem Nd{x:Exit}{i:Nat}{f:Item}(g:L[i]?=some f)(a:f::L.eraseIdx i=L')(h:At n w0 Q x e F L'):At n w0 Q x e F L:=by subst a;exact At.perm (fH g) h
theorem we{c:Code}{i:Nat}{g:Item}(j:L[i]?=some g)(f:g::L.eraseIdx i=L')(h:Cd P n w0 Q c e F L'):Cd P n w0 Q c e F L:=by subst f;exact λa hd w k m=>h a hd w k (m.perm (fH j))
theorem Qz{e':List (Nat×Value)}(g:sub e e')(h:Qt P n w0 ops K l e' F L):Qt P n w0 ops K l e F L:=λa f=>h a (f.sub g)
theorem a9.bound{α:Prop}(i:∀w,St w0 F L w->α)(h:α->a9 P n w0 ops Q l e F L):a9 P n w0 ops Q l e F L:=λa hd w g f=>h (i w f.toSt) a hd w g f
theorem At.bound{α:Prop}{x:Exit}(i:∀w,St w0 F L w->α)(h:α->At n w0 Q x e F L):At n w0 Q x e F L:=λa hd w g f=>h (i w f.toSt) a hd w g f
theorem LZ{f:FuncId}{x:Operand}{xs:List Operand}{vs cs:List Value}{h:Array TypeId}{a:Act}{w:World}(i:cG n a e)(k:ev e x=some (.func (.func f) #[] cs.toArray))(o:evs e xs vs)(g:∀(args:Array Value)(w:World),(callFunc f args).run P w=.ok (.enter f args) w):
 (execOp a.eval ⟨dst,.call ⟨.value x,xs.toArray,h⟩,ty,pos,aX,gd⟩).run P w=.ok (.enter f (vs++cs).toArray) w:=by
 have j:=i.wP o;have m:(List.map a.eval xs).toArray=vs.toArray:=by rw[j]
 simp[execOp,resolve,Deferred.ofValue,i.eval k,invoke,g];rw[j]
theorem Je{f:FuncId}{fn:Func}{c:Code}{x:Operand}{xs:List Operand}{cs:List Value}{g:Array TypeId}{a:Act}{w:World}(h:cG n a e)(k:ev e x=some (.func (.func f) #[] cs.toArray))(j:P.funcs[f]?=some fn)(i:fn.body=some c):
 lI P a ⟨dst,.call ⟨.value x,xs.toArray,g⟩,ty,pos,aX,gd⟩ w:=by
 unfold lI;simp[execOp,resolve,Deferred.ofValue,h.eval k,invoke,Iz j i]
theorem HI{f:FuncId}{x:Operand}{xs:List Operand}{vs cs:List Value}{i:Array TypeId}{K:Way}{a:Act}{hd:bG}{w:World}(m:cG n a e)(p:ev e x=some (.func (.func f) #[] cs.toArray))(M:evs e xs vs)(g:∀(args:Array Value)(w:World),(callFunc f args).run P w=.ok (.enter f args) w)(t:Ok P w0 f (vs++cs) F L post)(H:SH w0 F L hd w)
 (k:∀h L' v j w',cS F h->SH w0 h L' j w'->post h L' v->K (a.put dst v) j w'):fX P ⟨dst,.call ⟨.value x,xs.toArray,i⟩,ty,pos,aX,gd⟩ a hd w K:=by
 unfold fX;rw[LZ m p M g];have o:=t hd w H;have B:lI P a ⟨dst,.call ⟨.value x,xs.toArray,i⟩,ty,pos,aX,gd⟩ w:=by obtain⟨fn,c,A,y,_⟩:=o;exact Je m p A y
 exact⟨X,B,o.mono λv q w'⟨h,L',s,D,hp⟩=>k h L' v q w' s D hp⟩
theorem Ok.KY{f:FuncId}{x:Operand}{xs:List Operand}{vs cs:List Value}{h:Array TypeId}{a:Act}(i:dst=some d)(B:d<n.n)(j:cG n a e)(o:ev e x=some (.func (.func f) #[] cs.toArray))(S:evs e xs vs)(g:∀(args:Array Value)(w:World),(callFunc f args).run P w=.ok (.enter f args) w)(t:Ok P w0 f (vs++cs) F L (Is v L))
 (k:Qt P n w0 ops K l ((d,v)::e) F L):YtklkkoelldkncaaGreatDoor.quiet P ⟨dst,.call ⟨.value x,xs.toArray,h⟩,ty,pos,aX,gd⟩ a (SH w0 F L) (il P ops (SH w0 F L) K l):=by
 subst i;refine⟨v,λhd w M=>?_,k _ (j.put B v)⟩;unfold quietAt;rw[LZ j o S g];have m:=t hd w M;have D:lI P a ⟨some d,.call ⟨.value x,xs.toArray,h⟩,ty,pos,aX,gd⟩ w:=by obtain⟨fn,c,A,y,_⟩:=m;exact Je j o A y
 exact⟨X,D,m.mono λu V w'⟨T,L',s,H,p,q⟩=>by subst p q;exact⟨X,H.weaken s⟩⟩
theorem P0{f:FuncId}{x:Operand}{xs:List Operand}{vs cs:List Value}{j:Array TypeId}(t:gd=none)(i:dst=some d)(y:d<n.n)(s:ev e x=some (.func (.func f) #[] cs.toArray))(D:evs e xs vs)(g:∀(args:Array Value)(w:World),(callFunc f args).run P w=.ok (.enter f args) w)(q:Ok P w0 f (vs++cs) F L post)
 (k:∀h L' v,cS F h->post h L' v->a9 P n w0 ops Q l ((d,v)::e) h L'):a9 P n w0 ops Q (⟨dst,.call ⟨.value x,xs.toArray,j⟩,ty,pos,aX,gd⟩::l) e F L:=
 a9.op t λa hd w o B=>by subst i;exact HI o s D g q B λh L' v m w' p A hp=>k h L' v p hp _ m w' (o.put y v) A
theorem P1{f:FuncId}{x:Operand}{xs:List Operand}{vs cs:List Value}{i:Array TypeId}(t:gd=none)(h:dst=some d)(y:d<n.n)(s:ev e x=some (.func (.func f) #[] cs.toArray))(B:evs e xs vs)(g:∀(args:Array Value)(w:World),(callFunc f args).run P w=.ok (.enter f args) w)(p:Ok P w0 f (vs++cs) F L (Is v L))
 (k:a9 P n w0 ops Q l ((d,v)::e) F L):a9 P n w0 ops Q (⟨dst,.call ⟨.value x,xs.toArray,i⟩,ty,pos,aX,gd⟩::l) e F L:=
 P0 t h y s B g p λ_ _ _ o⟨j,m⟩=>by subst j m;exact λa hd w q A=>k a hd w q (A.weaken o)
theorem P2{j:Nat}{g:Bool}{t:Nat}{b:Bool}{f:FuncId}{x:Operand}{xs:List Operand}{vs cs:List Value}{o:Array TypeId}(D:gd=some (j,g))(H:(ops[j]?).bind (·.dst)=some t)(T:look e t=some (.bool b))(A:b=g)(m:dst=some d)(M:d<n.n)(B:ev e x=some (.func (.func f) #[] cs.toArray))(W:evs e xs vs)
 (h:∀(args:Array Value)(w:World),(callFunc f args).run P w=.ok (.enter f args) w) (y:Ok P w0 f (vs++cs) F L post)
 (k:∀i L' v,cS F i->post i L' v->a9 P n w0 ops Q l ((d,v)::e) i L'):a9 P n w0 ops Q (⟨dst,.call ⟨.value x,xs.toArray,o⟩,ty,pos,aX,gd⟩::l) e F L:=
 Dl D H T A λa hd w q V=>by subst m;exact HI q B W h y V λi L' v p w' s S hp=>k i L' v s hp _ p w' (q.put M v) S
theorem Dk{j:Nat}{g:Bool}{t:Nat}{b:Bool}{f:FuncId}{x:Operand}{xs:List Operand}{vs cs:List Value}{m:Array TypeId}(D:gd=some (j,g))(H:(ops[j]?).bind (·.dst)=some t)(S:look e t=some (.bool b))(A:b=g)(i:dst=some d)(M:d<n.n)(B:ev e x=some (.func (.func f) #[] cs.toArray))(V:evs e xs vs)
 (h:∀(args:Array Value)(w:World),(callFunc f args).run P w=.ok (.enter f args) w) (s:Ok P w0 f (vs++cs) F L (Is v L))
 (k:a9 P n w0 ops Q l ((d,v)::e) F L):a9 P n w0 ops Q (⟨dst,.call ⟨.value x,xs.toArray,m⟩,ty,pos,aX,gd⟩::l) e F L:=
 P2 D H S A i M B V h s λ_ _ _ q⟨o,p⟩=>by subst o p;exact λa hd w y T=>k a hd w y (T.weaken q)
theorem acs{f:FuncId}{x:Operand}{xs:List Operand}{vs cs:List Value}{i:Array TypeId}(p:gd=none)(h:dst=some d)(q:d<n.n)(o:ev e x=some (.func (.func f) #[] cs.toArray))(s:evs e xs vs)(g:∀(args:Array Value)(w:World),(callFunc f args).run P w=.ok (.enter f args) w)(j:Ok P w0 f (vs++cs) F L (Is v L))
 (k:Qt P n w0 ops K l ((d,v)::e) F L):Qt P n w0 ops K (⟨dst,.call ⟨.value x,xs.toArray,i⟩,ty,pos,aX,gd⟩::l) e F L:=by
 intro a m;unfold il;rw[ce (by simp[Region.wanted,p])];exact j.KY h q m o s g k
theorem acu{j:Nat}{g:Bool}{t:Nat}{b:Bool}{f:FuncId}{x:Operand}{xs:List Operand}{vs cs:List Value}{m:Array TypeId}(y:gd=some (j,g))(A:(ops[j]?).bind (·.dst)=some t)(D:look e t=some (.bool b))(q:b=g)(i:dst=some d)(B:d<n.n)(s:ev e x=some (.func (.func f) #[] cs.toArray))(H:evs e xs vs)
 (h:∀(args:Array Value)(w:World),(callFunc f args).run P w=.ok (.enter f args) w) (p:Ok P w0 f (vs++cs) F L (Is v L))
 (k:Qt P n w0 ops K l ((d,v)::e) F L):Qt P n w0 ops K (⟨dst,.call ⟨.value x,xs.toArray,m⟩,ty,pos,aX,gd⟩::l) e F L:=by
 intro a o;unfold il;rw[ce (by rw[rD o y A D,q];simp)];exact p.KY i B o s H h k
def lo?(e:List (Nat×Value)):Option Operand->Int->Prop
 |none,i=>i=0
 |some x,i=>ev e x=some (.int .i64 i)
def hi?(e:List (Nat×Value))(n:Nat):Option Operand->Int->Prop
 |none,i=>i=n
 |some x,i=>ev e x=some (.int .i64 i)
theorem run_sliceBound{i:Int}{m:Nat}{c:BoundsCode}{w:World}(a:0<=i)(f:i<=m):(Instr.sliceBound (.int .i64 i) m c).run P w=.ok i.toNat w:=by simp[Instr.sliceBound,asIntOf,a,f]
theorem ZP{a:Act}{x y:Option Operand}{b:Bool}{len cap:Nat}{i j:Int}{w:World}(h:cG n a e)(o:lo? e x i)(k:hi? e len y j)(p:0<=i)(q:i<=j)(s:j<=len)(t:len<=cap):
 (Instr.sliceBounds b len cap (x.map a.eval) (y.map a.eval) none).run P w=.ok (i.toNat,j.toNat,cap) w:=by
 have A:(i.toNat:Int)<=j:=by omega
 cases x with
 |none=>
  obtain rfl:i=0:=o
  cases y with
  |none=>obtain rfl:j=len:=k;simp[Instr.sliceBounds]
  |some y=>have f:ev e y=some (.int .i64 j):=k;simp[Instr.sliceBounds,h.eval f,run_sliceBound (P:=P) (w:=w) (i:=j) (m:=cap) O O]
 |some x=>
  have g:ev e x=some (.int .i64 i):=o
  cases y with
  |none=>obtain rfl:j=len:=k;simp[Instr.sliceBounds,h.eval g,run_sliceBound (P:=P) (w:=w) (i:=i) (m:=len) O O]
  |some y=>have f:ev e y=some (.int .i64 j):=k;simp[Instr.sliceBounds,h.eval g,h.eval f,run_sliceBound (P:=P) (w:=w) (i:=j) (m:=cap) O O,run_sliceBound (P:=P) (w:=w) (i:=i) (m:=j.toNat) O O]
theorem Ev.cut{α:Type}[an α]{x:Operand}{a b:Option Operand}{t el:TypeId}{s:Sl}{xs:List α}{i j:Int}{m:Nat}(y:ev e x=some s.v)(D:lo? e a i)(H:hi? e xs.length b j)(q:∀w,(underlying t).run P w=.ok (.slice el) w)(T:∀w,(sizeOf el).run P w=.ok m w)(M:m=sz α)(hp:0<sz α)
 (S:Rd w0 F L s xs) (A:0<=i) (o:i<=j) (B:j<=xs.length):Ev P n w0 e F L ⟨dst,.slice t x a b none,ty,pos,aX,gd⟩ (Sl.v (s.cut i.toNat j.toNat m)):=λac w h V=>by
 subst M;obtain⟨_,_,p⟩:=S w V;have k:=p.len hp;have g:s.len<=s.cap:=by rcases p.2.2 with⟨o,B⟩|⟨_,_,_,_,_,_,_,W,_⟩<;>omega
 have f:=ZP (P:=P) (b:=true) (len:=s.len) (cap:=s.cap) (w:=w) h D (by rw[k];exact H) A o O g;exact cK (by simp[execOp,Instr.sliceAt,h.eval y,q,Sl.v,Instr.slice,f,T,Sl.cut]) (by simp[execOp,Instr.sliceAt,h.eval y,q,Sl.v,Instr.slice,f];exact Wh _ _ _ _ _ _ P w #[])
theorem St.wL{w:World}{i:Nat}{v:Sl}{t:TypeId}{m lo hi:Nat}{xs:List Value}(h:St w0 F L w)(j:L[i]?=some (.own v t m xs))(k:lo<=hi)(o:hi<=v.len):St w0 F (L.set i (.own (v.cut lo hi m) t m ((xs.drop (lo*m)).take ((hi-lo)*m)))) w:=by
 have x:gW (World.hp w) v t m xs:=h.get j;have q:=x.cut k o;have s:(v.cut lo hi m).bH=v.bH:=by
  unfold Sl.cut Sl.bH;split
  .rfl
  .cases v.a with
   |none=>rfl
   |some a=>simp only[mB,xv];congr 1;unfold Addr.add;split<;>rfl
 have f:cu (L.set i (.own (v.cut lo hi m) t m ((xs.drop (lo*m)).take ((hi-lo)*m))))=cu L:=by
  rw[kP j]
  conv=>rhs;rw[kQ j]
  rw[ob,eQ,ob,eQ];simp only[Item.bH,s]
 refine⟨h.below,h.gh,λb p=>h.apart b (by rwa[f]at p),λy g=>?_,by rw[f];exact h.nodup⟩;rcases kH g with g|rfl
 .exact h.holds y g
 .exact q
theorem DU{v:Sl}{lo hi m:Nat}:(v.cut lo hi m).bH=v.bH:=by
 unfold Sl.cut Sl.bH;split
 .rfl
 .cases v.a with
  |none=>rfl
  |some a=>simp only[mB,xv];congr 1;unfold Addr.add;split<;>rfl
theorem Jj{i:Nat}{x y:Item}(f:L[i]?=some x)(j:∀b∈y.bH,b∈x.bH):∀b∈cu (L.set i y),b∈cu L:=λb g=>by
 obtain⟨z,k,a⟩:=pE.1 g;rcases kH k with h|h
 .exact fI h a
 .subst h;exact fI (eN f) (j b a)
theorem SH.re{h:bG}{w:World}(i:SH w0 F L h w)(g:St w0 F L' w)(f:∀b∈cu L',b∈cu L):SH w0 F L' h w:=i.to g f λb o a=>.inr (by rw[a];rfl)
theorem a9.wL{α:Type}[an α]{i:Nat}{s:Sl}{t:TypeId}{m lo hi:Nat}{cs:List Value}{xs:List α}(f:L[i]?=some (.own s t m cs))(j:cs=I xs)(A:m=sz α)(hp:0<sz α)(p:lo<=hi)(B:hi<=xs.length)
 (g:L.set i (.own (s.cut lo hi m) t m (I ((xs.drop lo).take (hi-lo))))=L') (h:a9 P n w0 ops Q l e F L'):a9 P n w0 ops Q l e F L:=by
 subst g j A;intro a hd w q k;have y:gW (World.hp w) s t (sz α) (I xs):=k.toSt.get f;have o:=y.len hp;refine h a hd w q ?_;have:=k.re (k.toSt.wL f p O) (Jj f λb x=>by simpa[Item.bH,DU]using x);rwa[<-wM,<-uc]at this
def Item.rows{α:Type}[an α](u:TypeId)(rs:List (LR α)):Item:=.gen (rs.flatMap (·.h.bH)) (λh=>∀x∈rs,gW h x.h u (sz α) (I x.v))
def Item.row{α:Type}[an α](u:TypeId)(x:LR α):Item:=.own x.h u (sz α) (I x.v)
theorem BZ{α:Type}[an α]{h:Nat->Option Obj}{u:TypeId}{rs:List (LR α)}:(Item.rows u rs).holds h↔∀x∈rs,gW h x.h u (sz α) (I x.v):=by
 constructor
 .intro H x a;refine sV (λb f=>?_) (H x a);have:b∈rs.flatMap (·.h.bH):=pE.2 ⟨x,a,f⟩;simp[this]
 .intro H x a;refine sV (λb f=>?_) (H x a);have:b∈rs.flatMap (·.h.bH):=pE.2 ⟨x,a,f⟩;simp[this]
theorem ZK{α:Type}[an α](u:TypeId)(rs:List (LR α))(M:List Item):cu (rs.map (Item.row u)++M)=cu (.rows u rs::M):=by
 rw[ob,eQ];congr 1
 induction rs with
 |nil=>rfl
 |cons r rs a=>rw[ow,eQ,a];simp[Item.row,Item.bH,Item.rows]
theorem St.rows{α:Type}[an α]{u:TypeId}{rs:List (LR α)}{M:List Item}{w:World}:St w0 F (.rows u rs::M) w↔St w0 F (rs.map (Item.row u)++M) w:=by
 have f:=ZK u rs M;constructor
 .intro h;refine⟨h.below,h.gh,λb g=>h.apart b (by rwa[f]at g),λj a=>?_,by rw[f];exact h.nodup⟩;rcases e9.1 a with a|a
  .obtain⟨x,i,rfl⟩:=mE.1 a;exact BZ.1 (h.holds _ (List.mem_cons_self ..)) x i
  .exact h.holds j (nw _ a)
 .intro h;refine⟨h.below,h.gh,λb g=>h.apart b (by rwa[<-f]at g),λj a=>?_,by rw[<-f];exact h.nodup⟩;rcases fB.1 a with rfl|a
  .exact BZ.2 λx i=>h.holds (Item.row u x) (qY _ (mE.2 ⟨x,i,X⟩))
  .exact h.holds j (uP _ a)
theorem Rd.row{α:Type}[an α]{j k:Nat}{u:TypeId}{rs:List (LR α)}{r:LR α}(a:L[j]?=some (.rows u rs))(f:rs[k]?=some r):Rd w0 F L r.h r.v:=λ_ g=>⟨u,_,BZ.1 (g.get a) r (eN f)⟩
theorem aL.frozen{α:Type}[an α]{a:bk}{u:TypeId}{rs:List (LR α)}(h:∀w,St w0 a [] w->(Item.rows u rs).holds (World.hp w)):aL LR.rel w0 a [] rs:=λx g w f=>⟨u,_,BZ.1 (h w f) x g⟩
theorem St.FY{α:Type}[an α]{u:TypeId}{rs:List (LR α)}{k:Nat}{r:LR α}{M:List Item}{w:World}(h:St w0 F (.rows u rs::M) w)(g:rs[k]?=some r):St w0 F (.row u r::.rows u (rs.set k ⟨[],Sl.nil⟩)::M) w:=by
 have f:=(ff.1 g).1;have s:=(ff.1 g).2;have m:=St.rows.1 h;have a:=(m.lY u (sz α))
 have q:(Item.own Sl.nil u (sz α) [])=Item.row u (⟨[],Sl.nil⟩:LR α):=X;rw[q]at a;have i:rs=rs.take k++r::rs.drop (k+1):=by rw[<-s,<-jd f,eD]
 have j:rs.set k ⟨[],Sl.nil⟩=rs.take k++⟨[],Sl.nil⟩::rs.drop (k+1):=by rw[A1,ce f]
 have hp:(Item.row u (⟨[],Sl.nil⟩:LR α)::(rs.map (Item.row u)++M)).Perm (Item.row u r::((rs.set k ⟨[],Sl.nil⟩).map (Item.row u)++M)):=by
  rw[j]
  conv=>lhs;rw[i]
  simp only[kG,ow,f9,qU];refine(List.Perm.cons _ List.perm_middle).trans ?_;refine(List.Perm.swap _ _ _).trans (List.Perm.cons _ ?_);exact List.perm_middle.symm
 have o:=a.perm hp;have p:St w0 F ((rs.set k ⟨[],Sl.nil⟩).map (Item.row u)++(Item.row u r::M)) w:=o.perm List.perm_middle.symm;exact(St.rows.2 p).perm (List.Perm.swap _ _ _)
theorem St.FX{α:Type}[an α]{u:TypeId}{rs:List (LR α)}{k:Nat}{r0 r:LR α}{M:List Item}{w:World}(h:St w0 F (.row u r::.rows u rs::M) w)(f:rs[k]?=some r0):St w0 F (.rows u (rs.set k r)::M) w:=by
 have a:=(ff.1 f).1;have o:=(ff.1 f).2;have j:St w0 F (.rows u rs::.row u r::M) w:=h.perm (List.Perm.swap _ _ _);have m:=St.rows.1 j;have g:rs=rs.take k++r0::rs.drop (k+1):=by rw[<-o,<-jd a,eD]
 have i:rs.set k r=rs.take k++r::rs.drop (k+1):=by rw[A1,ce a]
 have hp:(rs.map (Item.row u)++Item.row u r::M).Perm (Item.row u r0::((rs.set k r).map (Item.row u)++M)):=by
  rw[i]
  conv=>lhs;rw[g]
  simp only[kG,ow,f9,qU];refine List.perm_middle.trans (List.Perm.cons _ ?_);refine List.Perm.append_left _ ?_;exact List.perm_middle
 exact St.rows.2 ((m.perm hp).sublist (List.sublist_cons_self _ _))
theorem St.FW{α:Type}[an α]{u:TypeId}{rs:List (LR α)}{r:LR α}{M:List Item}{w:World}(h:St w0 F (.row u r::.rows u rs::M) w):St w0 F (.rows u (rs++[r])::M) w:=by have a:St w0 F (.rows u rs::.row u r::M) w:=h.perm (List.Perm.swap _ _ _);have f:=St.rows.1 a;refine St.rows.2 ?_;simpa using f
theorem St.nL{α:Type}[an α]{u:TypeId}{k:Nat}{M:List Item}{w:World}(h:St w0 F M w):St w0 F (.rows u (List.replicate k (⟨[],Sl.nil⟩:LR α))::M) w:=by
 refine St.rows.2 ?_
 induction k with
 |zero=>simpa using h
 |succ k a=>rw[xr,ow,qU];exact a.lY u (sz α)
theorem ny{α:Type}[an α]{u:TypeId}{rs:List (LR α)}{M:List Item}{b:Nat}:b∈cu (.rows u rs::M)↔(∃x∈rs,b∈x.h.bH)\/b∈cu M:=by rw[eQ];simp[Item.rows,Item.bH]
theorem SH.FY{α:Type}[an α]{u:TypeId}{rs:List (LR α)}{k:Nat}{r:LR α}{M:List Item}{h:bG}{w:World}(j:SH w0 F (.rows u rs::M) h w)(i:rs[k]?=some r):SH w0 F (.row u r::.rows u (rs.set k ⟨[],Sl.nil⟩)::M) h w:=
 j.re (j.toSt.FY i) λb a=>by
  rw[eQ]at a;rcases e9.1 a with a|a
  .exact ny.2 (.inl ⟨r,eN i,a⟩)
  .rcases ny.1 a with⟨x,g,f⟩|a
   .rcases kH g with g|rfl
    .exact ny.2 (.inl ⟨x,g,f⟩)
    .simp[Sl.bH,Sl.nil]at f
   .exact ny.2 (.inr a)
theorem SH.FX{α:Type}[an α]{u:TypeId}{rs:List (LR α)}{k:Nat}{r0 r:LR α}{M:List Item}{h:bG}{w:World}(i:SH w0 F (.row u r::.rows u rs::M) h w)(j:rs[k]?=some r0):SH w0 F (.rows u (rs.set k r)::M) h w:=
 i.re (i.toSt.FX j) λb f=>by
  rw[eQ];rcases ny.1 f with⟨x,g,a⟩|f
  .rcases kH g with g|rfl
   .exact uP _ (ny.2 (.inl ⟨x,g,a⟩))
   .exact qY _ a
  .exact uP _ (ny.2 (.inr f))
theorem SH.FW{α:Type}[an α]{u:TypeId}{rs:List (LR α)}{r:LR α}{M:List Item}{h:bG}{w:World}(i:SH w0 F (.row u r::.rows u rs::M) h w):SH w0 F (.rows u (rs++[r])::M) h w:=
 i.re i.toSt.FW λb g=>by
  rw[eQ];rcases ny.1 g with⟨x,a,f⟩|g
  .rcases e9.1 a with a|a
   .exact uP _ (ny.2 (.inl ⟨x,a,f⟩))
   .simp at a;subst a;exact qY _ f
  .exact uP _ (ny.2 (.inr g))
theorem SH.nL{α:Type}[an α]{u:TypeId}{k:Nat}{M:List Item}{h:bG}{w:World}(g:SH w0 F M h w):SH w0 F (.rows u (List.replicate k (⟨[],Sl.nil⟩:LR α))::M) h w:=
 g.re g.toSt.nL λb f=>by
  rcases ny.1 f with⟨x,i,a⟩|f
  .rw[List.eq_of_mem_replicate i]at a;simp[Sl.bH,Sl.nil]at a
  .exact f
theorem HC{α:Type}[an α]{u:TypeId}{m:Nat}{rs:List (LR α)}{k:Nat}{r:LR α}{M:List Item}(i:rs[k]?=some r)(g:sz α=m)(h:a9 P n w0 ops Q l e F (.own r.h u m (I r.v)::.rows u (rs.set k ⟨[],Sl.nil⟩)::M)):a9 P n w0 ops Q l e F (.rows u rs::M):=by subst g;exact λa hd w f j=>h a hd w f (j.FY i)
theorem HB{α:Type}[an α]{u:TypeId}{m:Nat}{rs:List (LR α)}{k:Nat}{r0:LR α}{s:Sl}{xs:List α}{M:List Item}(i:rs[k]?=some r0)(g:sz α=m)(h:a9 P n w0 ops Q l e F (.rows u (rs.set k ⟨xs,s⟩)::M)):a9 P n w0 ops Q l e F (.own s u m (I xs)::.rows u rs::M):=by subst g;exact λa hd w f j=>h a hd w f (SH.FX (r:=⟨xs,s⟩) j i)
theorem P8{α:Type}[an α]{u:TypeId}{m:Nat}{rs:List (LR α)}{s:Sl}{xs:List α}{M:List Item}(g:sz α=m)(h:a9 P n w0 ops Q l e F (.rows u (rs++[⟨xs,s⟩])::M)):a9 P n w0 ops Q l e F (.own s u m (I xs)::.rows u rs::M):=by subst g;exact λa hd w f i=>h a hd w f (SH.FW (r:=⟨xs,s⟩) i)
theorem a9.nL(α:Type)[an α](u:TypeId)(k:Nat)(h:a9 P n w0 ops Q l e F (.rows u (List.replicate k (⟨[],Sl.nil⟩:LR α))::L)):a9 P n w0 ops Q l e F L:=λa hd w f g=>h a hd w f g.nL
theorem Mg{ρ:Type}{rs:List ρ}{k:Nat}{r:ρ}(h:rs[k]?=some r):rs.set k r=rs:=by
 obtain⟨a,f⟩:=ff.1 h;apply sP;intro j;by_cases e:k=j
 .subst e;rw[ir a,<-f];simp[a]
 .rw[jI e]
theorem Cd.gC{c:Code}(a:L=L')(h:Cd P n w0 Q c e F L'):Cd P n w0 Q c e F L:=by subst a;exact h
theorem At.gC{x:Exit}(a:L=L')(h:At n w0 Q x e F L'):At n w0 Q x e F L:=by subst a;exact h
theorem Cd.less{c:Code}(g:L'.Sublist L)(h:Cd P n w0 Q c e F L'):Cd P n w0 Q c e F L:=λa hd w f i=>h a hd w f (i.sublist g)
theorem a9.less(g:L'.Sublist L)(h:a9 P n w0 ops Q l e F L'):a9 P n w0 ops Q l e F L:=λa hd w f i=>h a hd w f (i.sublist g)
theorem NX{o:Oper}{a b:Nat}(h:a=b)(f:Ev P n w0 e F L o (.int .i64 a)):Ev P n w0 e F L o (.int .i64 b):=by subst h;exact f
section
variable {ρ:Type}{rel:World->bk->List Item->ρ->Prop}
theorem aL.app{rs a:List ρ}(f:aL rel w0 F L rs)(g:aL rel w0 F L a):aL rel w0 F L (rs++a):=λx h=>(e9.1 h).elim (f x) (g x)
theorem aL.cut{rs:List ρ}{i j:Nat}(h:aL rel w0 F L rs):aL rel w0 F L ((rs.drop i).take j):=λx a=>h x (oy (qZ a))
theorem aL.cons{r:ρ}{rs:List ρ}(f:rel w0 F L r)(g:aL rel w0 F L rs):aL rel w0 F L (r::rs):=λx a=>by
 rcases fB.1 a with rfl|a
 .exact f
 .exact g x a
theorem Nb{a:ρ}(f:rel w0 F L a):aL rel w0 F L [a]:=aL.cons f aL.nil
theorem Nc{a b:ρ}(f:rel w0 F L a)(g:rel w0 F L b):aL rel w0 F L [a,b]:=aL.cons f (Nb g)
end
end
abbrev j6:=@Ev.cut
abbrev nF:=@NX
abbrev mH:=@P1
abbrev mK:=@Qz
end Go.Proofs.YtklkkoelldkncaaGreatDoor
namespace Go.Proofs.YtklkkoelldkncaaGreatDoor
open Go.RowKit Go.Conc an
section
variable {P:Program}{C:Co P}{n:Fm}{w0:World}{ops:Array Oper}{Q:eC}{K:Act->Prop}{l:List Oper}{e:List (Nat×Value)}{F F0:bk}{L L':List Item}{v:Value}{dst:Option Nat}{d:Nat}{ty:TypeId}{pos:String}{aX:Array Edge}{gd:Option (Nat×Bool)}
theorem ZL{t el:TypeId}{a:Option Addr}{i j:Nat}{w:World}(f:∀w,(underlying t).run P w=.ok (.slice el) w):(Op.equal t (.slice a i j) (.slice none 0 0)).run P w=.ok a.isNone w:=by have e:Op.equal t (.slice a i j) (.slice none 0 0)=Op.equalIn (9999+1) t (.slice a i j) (.slice none 0 0):=X;rw[e];unfold Op.equalIn;cases a<;>simp[f]
theorem CD{x:Operand}{t t2 el:TypeId}{s:Sl}(m:ev e x=some s.v)(k:∀w,(underlying t).run P w=.ok (.slice el) w):Ev P n w0 e F L ⟨dst,.binOp .eql t x (.const (.slice none 0 0)) t2,ty,pos,aX,gd⟩ (.bool s.a.isNone):=λa w f _=>by have h:=ZL (P:=P) (w:=w) (a:=s.a) (i:=s.len) (j:=s.cap) k;have g:a.eval (.const (.slice none 0 0))=.slice none 0 0:=X;refine cK (by simp[execOp,f.eval m,g,eqGuard,binOp,Sl.v,h]) ?_;simp[execOp,f.eval m,g,eqGuard,binOp,Sl.v];show(Op.equalIn (9999+1) t (.slice s.a s.len s.cap) (.slice none 0 0)).events P w #[]=#[];unfold Op.equalIn;cases s.a<;>simp[k]
theorem Dt{α:Type}[an α](i:0<sz α){v:Sl}{xs:List α}(h:Rd w0 F L v xs)(f:v.a.isNone=true):∀w,St w0 F L w->xs=[]:=λw j=>by
 obtain⟨_,_,a⟩:=h w j;have k:=a.len i;rcases a.2.2 with⟨g,_⟩|⟨b,off,pre,post,g,_⟩
 .exact sR.1 O
 .rw[g]at f;cases f
theorem Dj{t el m:TypeId}(j:gd=none)(f:dst=some d)(o:d<n.n)(x:∀w,(underlying t).run P w=.ok (.slice el) w)(q:∀w,(sizeOf el).run P w=.ok m w)
 (A:∀s:Sl,a9 P n w0 ops Q l ((d,s.v)::e) F (.own s el m []::L)):a9 P n w0 ops Q (⟨dst,.buildSlice t 0 #[],ty,pos,aX,gd⟩::l) e F L:=
 lh j f o λa w h y=>by
  subst f;have p:(execOp a.eval ⟨some d,.buildSlice t 0 #[],ty,pos,aX,gd⟩).run P w=.ok (.value (.slice (some ⟨w.heap.size,0,none⟩) 0 0)) {w with heap:=w.heap.push (.cells #[] el)}:=by simp[execOp,Instr.buildSlice,x,q,Instr.fill,newRow];rw[show(Array.map (λ_=>default) (Array.range 0):Array Value)=#[]from by simp]
  exact⟨_,_,F,_,p,lK (by simp[execOp];exact Kw _ _ _ P w #[]),u6 (i:=.own ⟨some ⟨w.heap.size,0,none⟩,0,0⟩ el m []) _ X,y.new _ X λg k=>⟨by simp,by simp,.inl ⟨X,X⟩⟩,A ⟨some ⟨w.heap.size,0,none⟩,0,0⟩⟩
theorem Au{s:Sl}{lo hi m b off:Nat}(a:s.a=some ⟨b,off,none⟩):(s.cut lo hi m).a=some ⟨b,off,none⟩/\s.cap=lo\/(s.cut lo hi m).a=some ⟨b,off+lo*m,none⟩:=by
 unfold Sl.cut;by_cases h:s.cap=lo
 .left;simp[h,a]
 .right;simp[h,a,ia]
theorem L1{i:Nat×Nat}{w:World}{s:Sl}{t:TypeId}{m k:Nat}{xs:List Value}(h:gX i (World.hp w) s t m xs)(o:k<=s.len):(Builtin.firstCells m k s.v).run P w=.ok (xs.take (k*m)).toArray w:=by
 have j:=h.cut (jF k) o;have:=tx (P:=P) j;simp only[Nat.zero_mul,eT,qR]at this;have e:(s.cut 0 k m).len=k:=by simp[Sl.cut]
 rw[e]at this;rw[<-this]
 cases g:s.a with
 |none=>simp[Builtin.firstCells,Sl.v,Sl.cut,g]
 |some a=>
  by_cases f:s.cap=0
  .simp[Builtin.firstCells,Sl.v,Sl.cut,g,f]
  .have:Addr.add a 0=a:=by unfold Addr.add;simp
   simp[Builtin.firstCells,Sl.v,Sl.cut,g,f,this]
theorem ud{w:World}{es:Array Event}(x:Value)(y:Nat)(c:BoundsCode):(Instr.sliceBound x y c).events P w es=es:=Ky x y c P w es
theorem Ja{j:Nat×Nat}{w:World}{s:Sl}{t:TypeId}{m k N:Nat}{xs:List Value}{es:Array Event}(h:gX j (World.hp w) s t m xs)(x:∀b off,0<s.len->s.a=some ⟨b,off,none⟩->b∈cu L\/(F b).isSome=true)(y:k<=s.len)(g:dE F L N es):dE F L N ((Builtin.firstCells m k s.v).events P w es):=by
 cases f:s.a with
 |none=>simpa[Builtin.firstCells,Sl.v,f]using g
 |some a=>
  have e:Builtin.firstCells m k s.v=loadCells a (k*m):=by simp[Builtin.firstCells,Sl.v,f]
  rw[e];by_cases o:s.len=0
  .obtain rfl:k=0:=by omega
   simpa[loadCells,loadCellsFrom]using g
  .rcases h.2.2 with⟨p,_⟩|⟨b,off,pre,post,i,q,_⟩
   .exact absurd p o
   .obtain rfl:a=⟨b,off,none⟩:=by rw[i]at f;exact(dF f).symm
    exact Jg q (x b off O i) g _ _ _
theorem WB{i:Nat}{s:Sl}{t:TypeId}{m:Nat}{xs:List Value}(a:L[i]?=some (.own s t m xs)):∀b off,0<s.len->s.a=some ⟨b,off,none⟩->b∈cu L\/(F b).isSome=true:=λb off _ f=>.inl (fI (eN a) (by simp[Item.bH,Sl.bH,f]))
theorem Az{b off i N:Nat}{cs:Array Value}{t':TypeId}{f:Nat×Nat}{a:Item}{w:World}{es:Array Event}{vs:List Value}(g:L[i]?=some a)(h:b∈a.bH)(k:w.heap[b]?=some (.cells cs t' f))(j:dE F L N es):dE F L N ((storeCells ⟨b,off,none⟩ vs).events P w es):=by rw[Sem.events_acc];exact j.app ((wO (P:=P) (off:=off) vs 0 k ks).lists (fI (eN g) h))
theorem a9.copy{α:Type}[an α]{x y:Operand}{t t2 el:TypeId}{i m lo hi:Nat}{s s2:Sl}{xs ys:List α}{cs:List Value}(hg:gd=none)(D:dst=some d)(hn:d<n.n)(hx:ev e x=some (s.cut lo hi m).v)(hy:ev e y=some s2.v)(hu:∀w,(underlying t).run P w=.ok (.slice el) w)
 (hs:∀w,(sizeOf el).run P w=.ok m w) (hm:m=sz α) (hp:0<sz α) (W:L[i]?=some (.own s el m cs)) (M:cs=I xs) (h2:Rd w0 F L s2 ys) (h0:lo<=hi) (h1:hi<=xs.length)
 (k:a9 P n w0 ops Q l ((d,.int .i64 ((min (hi-lo) ys.length:Nat):Int))::e) F (L.set i (.own s el m (I (iP xs lo hi ys))))):a9 P n w0 ops Q (⟨dst,.call ⟨.builtin .copy,#[x,y],#[t,t2]⟩,ty,pos,aX,gd⟩::l) e F L:=
 lh hg D hn λa w h hw=>by
  subst D M hm;have hl:gW (World.hp w) s el (sz α) (I xs):=hw.get W;have hlen:=hl.len hp;have qK:=h2.bH hw;obtain⟨Aw,D9,h3⟩:=h2 w hw;have S:=h3.len hp;have hq:min s2.len (hi-lo)=min (hi-lo) ys.length:=by rw[S,Nat.min_comm]
  have f:=L1 (P:=P) h3 (k:=min (hi-lo) ys.length) O;have j:=Ja (P:=P) (F:=F) (L:=L) (N:=w.heap.size) (es:=#[]) h3 qK (k:=min (hi-lo) ys.length) O lJ;rw[<-uc]at f;have V:ys.take (hi-lo)=ys.take (min (hi-lo) ys.length):=by
   by_cases hc:hi-lo<=ys.length
   .rw[iV hc]
   .rw[Nat.min_eq_right O,iI O,iI O]
  have sH:(ys.take (hi-lo)).length=min (hi-lo) ys.length:=by simp
  by_cases he:min (hi-lo) ys.length=0
  . -- nothing is copied
   have T:iP xs lo hi ys=xs:=by unfold iP;rw[V,he];simp
   rw[T,kP W,<-kQ W,he]at k;rw[he]at f;have A:(execOp a.eval ⟨some d,.call ⟨.builtin .copy,#[x,y],#[t,t2]⟩,ty,pos,aX,gd⟩).run P w=.ok (.value (.int .i64 0)) w:=by
    simp[execOp,resolve,invoke,builtin,Builtin.copy_,h.eval hx,h.eval hy,hu,hs,Sl.v,Builtin.lenOf,Sl.cut,hq,he,goInt];simp[Sl.v]at f;rw[f];cases uu:s.a<;>simp[sf,storeCells]
    split<;>simp
   refine⟨_,w,F,L,A,?_,mO _ _ _,hw,k⟩;rw[he]at j;simp[Sl.v]at f j;simp[execOp,resolve,invoke,builtin,Builtin.copy_,h.eval hx,h.eval hy,hu,hs,Sl.v,Builtin.lenOf,Sl.cut,hq,he,goInt,f];cases uu:s.a<;>simp[sf,storeCells]
   all_goals first|exact j|(split<;>first|exact j|simpa[storeCells]using j)
  .rcases hl.2.2 with⟨g2,_⟩|⟨b,off,pre,post,hb,hh,ho,qJ,M⟩
   .omega
   .have xb:(s.cut lo hi (sz α)).a=some ⟨b,off+lo*sz α,none⟩:=by
     rcases Au (s:=s) (lo:=lo) (hi:=hi) (m:=sz α) hb with⟨_,h9⟩|h9
     .omega
     .exact h9
    have e1:I xs=I (xs.take lo)++(I ((xs.drop lo).take (min (hi-lo) ys.length))++I (xs.drop (lo+min (hi-lo) ys.length))):=by rw[<-iG,<-iG];congr 1;rw[<-nu,eD,eD]
    have e2:I (iP xs lo hi ys)=I (xs.take lo)++(I (ys.take (hi-lo))++I (xs.drop (lo+min (hi-lo) ys.length))):=by unfold iP;rw[iG,iG]
    have q:bA (I xs) (lo*sz α) (I (ys.take (hi-lo))) (I (iP xs lo hi ys)):=by
     refine⟨I (xs.take lo),I ((xs.drop lo).take (min (hi-lo) ys.length)),I (xs.drop (lo+min (hi-lo) ys.length)),e1,?_,?_,e2⟩
     .rw[d7,gn,iV O]
     .rw[d7,d7,sH,gn,gM,iV O]
    have H:bA (pre++(I xs++post)) (off+lo*sz α) (I (ys.take (hi-lo))) (pre++(I (iP xs lo hi ys)++post)):=bU ho (eE q);have B:=run_storeCells_at (P:=P) b (off+lo*sz α) el (I (ys.take (hi-lo))) 0 (pre++(I xs++post)).toArray w hh (by have:=H.le;simp at this ⊢;omega) (by intro u ns;exact mD.1 (qy _) u ns);simp only[mA]at B;rw[H.eq]at B;have A:(execOp a.eval ⟨some d,.call ⟨.builtin .copy,#[x,y],#[t,t2]⟩,ty,pos,aX,gd⟩).run P w=.ok (.value (.int .i64 ((min (hi-lo) ys.length:Nat):Int))) (w.setRow b (pre++(I (iP xs lo hi ys)++post)).toArray):=by have p:(s.cut lo hi (sz α)).len=hi-lo:=X;rw[<-V]at f;simp[Sl.v]at f B;simp[execOp,resolve,invoke,builtin,Builtin.copy_,h.eval hx,h.eval hy,hu,hs,Sl.v,Builtin.lenOf,xb,p,hq,goInt,f,B]
    have o:b∈(Item.own s el (sz α) (I xs)).bH:=by simp[Item.bH,Sl.bH,hb]
    refine⟨_,_,F,_,A,?_,u7 (it':=.own s el (sz α) (I (iP xs lo hi ys))) W o X,hw.setRow W o X λg jE=>?_,k⟩
    .have p:(s.cut lo hi (sz α)).len=hi-lo:=X;rw[<-V]at f;simp[Sl.v]at f j;simp[execOp,resolve,invoke,builtin,Builtin.copy_,h.eval hx,h.eval hy,hu,hs,Sl.v,Builtin.lenOf,xb,p,hq,goInt,f];exact Az W o hh j
    have p:(I (iP xs lo hi ys)).length=(I xs).length:=q.len;refine⟨by rw[p];exact hl.1,hl.2.1,.inr ⟨b,off,pre,post,hb,jE _ _ _ hh,ho,qJ,?_⟩⟩;rw[cr,p,<-cr];exact M
theorem Qn{f:FuncId}{args:List Value}(hp:L.Perm L')(h:Ok P w0 f args F L' (Is v L')):Ok P w0 f args F L (Is v L):=
 λhd w o=>(h hd w (o.perm hp)).mono λ_ _ _⟨a,g,i,j,k,m⟩=>⟨a,L,i,by subst m;exact j.perm hp.symm,k,X⟩
theorem z9{α:Type}[an α]{i m:Nat}{s:Sl}{t:TypeId}{xs:List α}{cs:List Value}(o:L[i]?=some (.own s t m cs))(g:cs=I xs)(q:m=sz α)(hp:0<sz α)(h:s.len=xs.length->xs.length<=s.cap->a9 P n w0 ops Q l e F L):a9 P n w0 ops Q l e F L:=λa hd w p k=>by
 subst g q;have j:gW (World.hp w) s t (sz α) (I xs):=k.toSt.get o;have f:=j.len hp;have B:s.len<=s.cap:=by rcases j.2.2 with⟨x,y⟩|⟨_,_,_,_,_,_,_,A,_⟩<;>omega
 exact h f O a hd w p k
theorem NJ{x a b c:Operand}{t el:TypeId}{s:Sl}{i j k:Int}{m:Nat}(B:ev e x=some s.v)(o:ev e a=some (.int .i64 i))(p:ev e b=some (.int .i64 j))(q:ev e c=some (.int .i64 k))(A:∀w,(underlying t).run P w=.ok (.slice el) w)(y:∀w,(sizeOf el).run P w=.ok m w)
 (f:0<=i) (D:i<=j) (H:j<=k) (g:k<=s.cap):Ev P n w0 e F L ⟨dst,.slice t x (some a) (some b) (some c),ty,pos,aX,gd⟩ (.slice (if k.toNat=i.toNat then s.a else s.a.map (·.add (i.toNat*m))) (j.toNat-i.toNat) (k.toNat-i.toNat)):=λac w h M=>cK (by
 simp[execOp,Instr.sliceAt,h.eval B,h.eval o,h.eval p,h.eval q,A,Sl.v,Instr.slice,Instr.sliceBounds,run_sliceBound (P:=P) (w:=w) (i:=k) (m:=s.cap) O g,run_sliceBound (P:=P) (w:=w) (i:=j) (m:=k.toNat) O O,run_sliceBound (P:=P) (w:=w) (i:=i) (m:=j.toNat) f O,y]) (by simp[execOp,Instr.sliceAt,h.eval B,h.eval o,h.eval p,h.eval q,A,Sl.v,Instr.slice,Instr.sliceBounds,run_sliceBound (P:=P) (w:=w) (i:=k) (m:=s.cap) O g,run_sliceBound (P:=P) (w:=w) (i:=j) (m:=k.toNat) O O,run_sliceBound (P:=P) (w:=w) (i:=i) (m:=j.toNat) f O,y,ud])
theorem NK{x a b:Operand}{t el:TypeId}{s:Sl}{i j:Int}{m:Nat}(y:ev e x=some s.v)(k:ev e a=some (.int .i64 i))(o:ev e b=some (.int .i64 j))(q:∀w,(underlying t).run P w=.ok (.slice el) w)(p:∀w,(sizeOf el).run P w=.ok m w)
 (f:0<=i) (A:i<=j) (g:j<=s.cap):Ev P n w0 e F L ⟨dst,.slice t x (some a) (some b) none,ty,pos,aX,gd⟩ (Sl.v (s.cut i.toNat j.toNat m)):=λac w h B=>cK (by
 simp[execOp,Instr.sliceAt,h.eval y,h.eval k,h.eval o,q,Sl.v,Instr.slice,Instr.sliceBounds,run_sliceBound (P:=P) (w:=w) (i:=j) (m:=s.cap) O g,run_sliceBound (P:=P) (w:=w) (i:=i) (m:=j.toNat) f O,p,Sl.cut]) (by simp[execOp,Instr.sliceAt,h.eval y,h.eval k,h.eval o,q,Sl.v,Instr.slice,Instr.sliceBounds,run_sliceBound (P:=P) (w:=w) (i:=j) (m:=s.cap) O g,run_sliceBound (P:=P) (w:=w) (i:=i) (m:=j.toNat) f O,p,ud])
theorem a9.shift{α:Type}[an α]{x y:Operand}{t el:TypeId}{k i j m:Nat}{inf:TypeInfo}{s:Sl}{xs:List α}{cs:List Value}(hg:gd=none)(V:dst=some d)(hn:d<n.n)(hx:ev e x=some (s.cut 0 i m).v)(hy:ev e y=some (s.cut j xs.length m).v)(hu:∀w,(underlying t).run P w=.ok (.slice el) w)
 (hi:∀w,(typeInfo el).run P w=.ok inf w) (T:inf.size=m) (sB:m=sz α) (hp:0<sz α) (hL:L[k]?=some (.own s el m cs)) (kZ:cs=I xs) (h1:i<=j) (h2:j<=xs.length)
 (kk:a9 P n w0 ops Q l ((d,Sl.v ⟨s.a,i+(xs.length-j),s.cap⟩)::e) F (L.set k (.own ⟨s.a,i+(xs.length-j),s.cap⟩ el m (I (xs.take i++xs.drop j))))):a9 P n w0 ops Q (⟨dst,.call ⟨.builtin .append,#[x,y],#[t,t]⟩,ty,pos,aX,gd⟩::l) e F L:=
 lh hg V hn λa w h hw=>by
  subst V kZ sB;have hl:gW (World.hp w) s el (sz α) (I xs):=hw.get hL;have hlen:=hl.len hp;have q:=tx (P:=P) (hl.cut h2 (by omega:xs.length<=s.len));have f:(s.cut j xs.length (sz α)).len=xs.length-j:=X;have M:(s.cut 0 i (sz α)).len=i:=by simp[Sl.cut]
  have H:(s.cut 0 i (sz α)).cap=s.cap:=by simp[Sl.cut]
  have D:(s.cut 0 i (sz α)).a=s.a:=by
   cases uu:s.a with
   |none=>simp[Sl.cut,uu]
   |some ad=>(have:Addr.add ad 0=ad:=by unfold Addr.add;simp);simp[Sl.cut,uu,this]
  have qJ:s.len<=s.cap:=by rcases hl.2.2 with⟨h1,h2⟩|⟨_,_,_,_,_,_,_,h4,_⟩<;>omega
  have sA:=hl.cut h2 (by omega:xs.length<=s.len);have EO:∀b off,0<(s.cut j xs.length (sz α)).len->(s.cut j xs.length (sz α)).a=some ⟨b,off,none⟩->b∈cu L\/(F b).isSome=true:=λb off _ ha=>.inl (fI (eN hL) (by have:b∈(s.cut j xs.length (sz α)).bH:=(by simp[Sl.bH,ha]);rw[DU]at this;exact this));have um:=qz (P:=P) (F:=F) (L:=L) (N:=w.heap.size) (es:=#[]) sA EO lJ;rw[f]at q um;have Sj:((I xs).drop (j*sz α)).take ((xs.length-j)*sz α)=I (xs.drop j):=by rw[<-wM,<-uc,iI (by simp)]
  rw[Sj]at q;have p:i+(xs.length-j)<=s.cap:=by omega
  have JT:(I (xs.take i++xs.drop j)).length=(i+(xs.length-j))*sz α:=by rw[d7,cr,gn,gM,iV O]
  rcases hl.2.2 with⟨g2,g3⟩|⟨b,off,pre,post,hb,hh,ho,acW,kZ⟩
  . -- nothing there
   have U2:xs=[]:=sR.1 O;subst U2;have TR:j=0:=by simpa using h2
   have xf:i=0:=by omega
   subst TR xf;have B:(execOp a.eval ⟨some d,.call ⟨.builtin .append,#[x,y],#[t,t]⟩,ty,pos,aX,gd⟩).run P w=.ok (.value (Sl.v ⟨s.a,0+(([]:List α).length-0),s.cap⟩)) w:=by
    have Ee:∀a:Option Addr,(Builtin.firstCells (sz α) 0 (.slice a 0 0)).run P w=.ok #[] w:=λa=>by cases a<;>simp[Builtin.firstCells,loadCells,loadCellsFrom]
    simp[execOp,resolve,invoke,builtin,h.eval hx,h.eval hy,Builtin.append_,hu,sizeOf,hi,T,Builtin.lenOf,Sl.v,D,M,H,f,g3];cases s.a<;>simp[Ee,storeCells]
   have hq:L.set k (.own ⟨s.a,0+(([]:List α).length-0),s.cap⟩ el (sz α) (I (([]:List α).take 0++([]:List α).drop 0)))=L.set k (.own s el (sz α) (I ([]:List α))):=by
    have UH:s=⟨s.a,0,s.cap⟩:=by cases s;simp_all
    conv=>rhs;rw[UH]
    simp
   have UB:L.set k (.own ⟨s.a,0+(([]:List α).length-0),s.cap⟩ el (sz α) (I (([]:List α).take 0++([]:List α).drop 0)))=L:=by rw[hq,kP hL,<-kQ hL]
   rw[UB]at kk;refine⟨_,w,F,L,B,?_,mO _ _ _,hw,kk⟩;have Ee:∀a:Option Addr,(Builtin.firstCells (sz α) 0 (.slice a 0 0)).run P w=.ok #[] w:=λa=>by cases a<;>simp[Builtin.firstCells,loadCells,loadCellsFrom]
   have SE:∀a:Option Addr,(Builtin.firstCells (sz α) 0 (.slice a 0 0)).events P w #[]=#[]:=λa=>by cases a<;>simp[Builtin.firstCells,loadCells,loadCellsFrom]
   refine lK ?_;simp[execOp,resolve,invoke,builtin,h.eval hx,h.eval hy,Builtin.append_,hu,sizeOf,hi,T,Builtin.lenOf,Sl.v,D,M,H,f,g3];cases s.a<;>simp[Ee,SE,storeCells]
  .have e1:I xs=I (xs.take i)++(I ((xs.drop i).take (xs.length-j))++I (xs.drop (i+(xs.length-j)))):=by
    rw[<-iG,<-iG];congr 1;rw[<-nu,eD,eD]
   have A:bA (I xs) (i*sz α) (I (xs.drop j)) (I (xs.take i++xs.drop j)++I (xs.drop (i+(xs.length-j)))):=by
    refine⟨I (xs.take i),I ((xs.drop i).take (xs.length-j)),I (xs.drop (i+(xs.length-j))),e1,?_,?_,by rw[iG];simp⟩
    .rw[d7,gn,iV O]
    .rw[d7,d7,gn,gM,gM,iV O]
   have W:bA (pre++(I xs++post)) (off+i*sz α) (I (xs.drop j)) (pre++((I (xs.take i++xs.drop j)++I (xs.drop (i+(xs.length-j))))++post)):=bU ho (eE A);have S:=run_storeCells_at (P:=P) b (off+i*sz α) el (I (xs.drop j)) 0 (pre++(I xs++post)).toArray w hh (by have:=W.le;simp at this ⊢;omega) (by intro u ns;exact mD.1 (qy _) u ns);simp only[mA]at S;rw[W.eq]at S;have B:(execOp a.eval ⟨some d,.call ⟨.builtin .append,#[x,y],#[t,t]⟩,ty,pos,aX,gd⟩).run P w=.ok (.value (Sl.v ⟨s.a,i+(xs.length-j),s.cap⟩)) (w.setRow b (pre++((I (xs.take i++xs.drop j)++I (xs.drop (i+(xs.length-j))))++post)).toArray):=by simp[Sl.v,f]at q;simp at S;have hz0:((i:Int)+((xs.length-j:Nat):Int)=0->False)\/True:=.inr bo;simp[execOp,resolve,invoke,builtin,h.eval hx,h.eval hy,Builtin.append_,hu,sizeOf,hi,T,Builtin.lenOf,Sl.v,D,M,H,f,hb,p,q,ia,S]
   have o:b∈(Item.own s el (sz α) (I xs)).bH:=by simp[Item.bH,Sl.bH,hb]
   refine⟨_,_,F,_,B,?_,u7 (it':=.own ⟨s.a,i+(xs.length-j),s.cap⟩ el (sz α) (I (xs.take i++xs.drop j))) hL o X,hw.setRow hL o X λg jE=>?_,kk⟩
   .simp[Sl.v,f]at q um;simp[execOp,resolve,invoke,builtin,h.eval hx,h.eval hy,Builtin.append_,hu,sizeOf,hi,T,Builtin.lenOf,Sl.v,D,M,H,f,hb,p,q,ia];exact Az hL o hh um
   refine⟨JT,by have:=hl.2.1;simp only;omega,.inr ⟨b,off,pre,I (xs.drop (i+(xs.length-j)))++post,hb,by rw[jE _ _ _ hh];simp,ho,p,?_⟩⟩;have hle:=A.len;rw[cr]at hle kZ ⊢;rw[cr];simp only;omega
theorem P3{α:Type}[an α]{x:Operand}{t el:TypeId}{i j k m:Nat}{z:Value}{s:Sl}{xs:List α}{cs:List Value}(hg:gd=none)(B:dst=none)(hx:ev e x=some (s.cut i j m).v)(hu:∀w,(underlying t).run P w=.ok (.slice el) w)
 (hz:∀w,(zeroValue el).run P w=.ok z w) (z0:α) (lD:z.cells=(enc z0).toArray) (sB:m=sz α) (hp:0<sz α) (A:L[k]?=some (.own s el m cs)) (y:cs=I xs) (h1:xs.length<=i) (h2:j<=s.cap)
 (kk:a9 P n w0 ops Q l e F L):a9 P n w0 ops Q (⟨dst,.call ⟨.builtin .clear,#[x],#[t]⟩,ty,pos,aX,gd⟩::l) e F L:=
 Qd hg B λa w h hw=>by
  subst B y sB;have hl:gW (World.hp w) s el (sz α) (I xs):=hw.get A;have hlen:=hl.len hp;by_cases AL:j-i=0
  .have o:(execOp a.eval ⟨none,.call ⟨.builtin .clear,#[x],#[t]⟩,ty,pos,aX,gd⟩).run P w=.ok (.value (.tuple #[])) w:=by
    have M:(s.cut i j (sz α)).len=0:=AL;simp[execOp,resolve,invoke,builtin,h.eval hx,Builtin.clear_,hu,Sl.v,M];cases (s.cut i j (sz α)).a<;>simp
   refine⟨_,w,F,L,o,lK ?_,mO _ _ _,hw,kk⟩;have M:(s.cut i j (sz α)).len=0:=AL;simp[execOp,resolve,invoke,builtin,h.eval hx,Builtin.clear_,hu,Sl.v,M];cases (s.cut i j (sz α)).a<;>simp
  .rcases hl.2.2 with⟨g2,g3⟩|⟨b,off,pre,post,hb,hh,ho,W,y⟩
   .omega
   .have V:(s.cut i j (sz α)).a=some ⟨b,off+i*sz α,none⟩:=by
     rcases Au (s:=s) (lo:=i) (hi:=j) (m:=sz α) hb with⟨_,h9⟩|h9
     .omega
     .exact h9
    have J0:(I (List.replicate (j-i) z0)).length=(j-i)*sz α:=by rw[d7];simp
    have hmul:j*sz α<=s.cap*sz α:=oh _ h2;have ac0:(j-i)*sz α=j*sz α-i*sz α:=Nat.sub_mul _ _ _;have ac1:xs.length*sz α<=i*sz α:=oh _ h1;have ac2:i*sz α<=j*sz α:=oh _ O;have xn:(I xs).length=xs.length*sz α:=d7 xs;rw[cr]at y;have D:bA (pre++(I xs++post)) (off+i*sz α) (I (List.replicate (j-i) z0)) (pre++(I xs++(post.take (i*sz α-xs.length*sz α)++(I (List.replicate (j-i) z0)++post.drop (i*sz α-xs.length*sz α+(j-i)*sz α))))):=by
     refine⟨pre++(I xs++post.take (i*sz α-xs.length*sz α)),(post.drop (i*sz α-xs.length*sz α)).take ((j-i)*sz α),post.drop (i*sz α-xs.length*sz α+(j-i)*sz α),?_,?_,?_,?_⟩
     .simp only[f9];congr 2;rw[<-nu,eD,eD]
     .simp only[cr,gn,xn];omega
     .rw[gn,gM,J0];omega
     .simp only[f9]
    have p:=run_storeCells_at (P:=P) b (off+i*sz α) el (I (List.replicate (j-i) z0)) 0 (pre++(I xs++post)).toArray w hh (by have:=D.le;simp at this ⊢;omega) (by intro u ns;exact mD.1 (qy _) u ns);simp only[mA]at p;rw[D.eq]at p;have H:(Builtin.zeroCells z.cells (j-i)).toList=I (List.replicate (j-i) z0):=by
     have sH:z.cells.size=sz α:=by rw[lD];simp[an.len]
     have:=yA hp lD (j-i);unfold Builtin.zeroCells;rw[sH]at this ⊢;rw[this]
    have o:(execOp a.eval ⟨none,.call ⟨.builtin .clear,#[x],#[t]⟩,ty,pos,aX,gd⟩).run P w=.ok (.value (.tuple #[])) (w.setRow b (pre++(I xs++(post.take (i*sz α-xs.length*sz α)++(I (List.replicate (j-i) z0)++post.drop (i*sz α-xs.length*sz α+(j-i)*sz α))))).toArray):=by
     have S:∃q,j-i=q+1:=⟨j-i-1,by omega⟩
     obtain⟨q,hq⟩:=S;have M:(s.cut i j (sz α)).len=q+1:=hq;rw[hq]at H p ⊢
     try simp at p
     simp[execOp,resolve,invoke,builtin,h.eval hx,Builtin.clear_,hu,Sl.v,M,V,hz,H,p]
    have f:b∈(Item.own s el (sz α) (I xs)).bH:=by simp[Item.bH,Sl.bH,hb]
    have T:L.set k (.own s el (sz α) (I xs))=L:=by rw[kP A,<-kQ A]
    have JU:=u7 (F:=F) (w:=w) (cs:=(pre++(I xs++(post.take (i*sz α-xs.length*sz α)++(I (List.replicate (j-i) z0)++post.drop (i*sz α-xs.length*sz α+(j-i)*sz α))))).toArray) (it':=.own s el (sz α) (I xs)) A f X;rw[T]at JU;refine⟨_,_,F,L,o,?_,JU,?_,kk⟩
    .have S:∃q,j-i=q+1:=⟨j-i-1,by omega⟩
     obtain⟨q,hq⟩:=S;have M:(s.cut i j (sz α)).len=q+1:=hq;simp[execOp,resolve,invoke,builtin,h.eval hx,Builtin.clear_,hu,Sl.v,M,V,hz];exact Az A f hh lJ
    have:=hw.setRow (it':=.own s el (sz α) (I xs)) A (b:=b) (cs:=pre++(I xs++(post.take (i*sz α-xs.length*sz α)++(I (List.replicate (j-i) z0)++post.drop (i*sz α-xs.length*sz α+(j-i)*sz α))))) (by simp[Item.bH,Sl.bH,hb]) X λg jE=>?_
    .rwa[kP A,<-kQ A]at this
    .refine⟨hl.1,hl.2.1,.inr ⟨b,off,pre,_,hb,jE _ _ _ hh,ho,W,?_⟩⟩;simp only[cr,gn,gM,J0]at y ⊢;omega
theorem N4{x y z u:Operand}{i j k m:Int}{f:Array TypeId}(o:ev e x=some (.int .i64 i))(p:ev e y=some (.int .i64 j))(q:ev e z=some (.int .i64 k))(g:ev e u=some (.int .i64 m)):
 Ev P n w0 e F L ⟨dst,.call ⟨.builtin .min,#[x,y,z,u],f⟩,ty,pos,aX,gd⟩ (.int .i64 (min (min (min i j) k) m)):=λa w h s=>by
 refine cK ?_ (by simp[execOp,resolve,invoke,builtin,Builtin.min_,Builtin.min2,h.eval o,h.eval p,h.eval q,h.eval g]);simp[execOp,resolve,invoke,builtin,Builtin.min_,Builtin.min2,h.eval o,h.eval p,h.eval q,h.eval g];split<;>split<;>split<;>omega
theorem GZ{x:Operand}{t el:TypeId}{f:Array TypeId}(j:ev e x=some (Sl.v Sl.nil))(g:f[0]?=some t)(i:∀w,(underlying t).run P w=.ok (.slice el) w):Ev P n w0 e F L ⟨dst,.call ⟨.builtin .len,#[x],f⟩,ty,pos,aX,gd⟩ (.int .i64 0):=λa w h k=>by refine cK ?_ (by simp[execOp,resolve,invoke,builtin,Builtin.len_,g,h.eval j,i,Sl.v,Sl.nil,goInt]);simp[execOp,resolve,invoke,builtin,Builtin.len_,g,h.eval j,i,Sl.v,Sl.nil,goInt]
theorem GU{x:Operand}{t el:TypeId}{f:Array TypeId}(j:ev e x=some (Sl.v Sl.nil))(g:f[0]?=some t)(i:∀w,(underlying t).run P w=.ok (.slice el) w):Ev P n w0 e F L ⟨dst,.call ⟨.builtin .cap,#[x],f⟩,ty,pos,aX,gd⟩ (.int .i64 0):=λa w h k=>by refine cK ?_ (by simp[execOp,resolve,invoke,builtin,Builtin.cap_,g,h.eval j,i,Sl.v,Sl.nil,goInt]);simp[execOp,resolve,invoke,builtin,Builtin.cap_,g,h.eval j,i,Sl.v,Sl.nil,goInt]
theorem NL{x b:Operand}{t el:TypeId}{m:Nat}(g:ev e x=some (Sl.v Sl.nil))(a:ev e b=some (.int .i64 0))(f:∀w,(underlying t).run P w=.ok (.slice el) w)(j:∀w,(sizeOf el).run P w=.ok m w):Ev P n w0 e F L ⟨dst,.slice t x none (some b) none,ty,pos,aX,gd⟩ (Sl.v Sl.nil):=λac w h k=>by refine cK ?_ (by simp[execOp,Instr.sliceAt,h.eval g,h.eval a,f,Sl.v,Sl.nil,Instr.slice,Instr.sliceBounds,run_sliceBound (P:=P) (w:=w) (i:=0) (m:=0) O O,ud]);simp[execOp,Instr.sliceAt,h.eval g,h.eval a,f,Sl.v,Sl.nil,Instr.slice,Instr.sliceBounds,run_sliceBound (P:=P) (w:=w) (i:=0) (m:=0) O O,j]
theorem PW{α:Type}[an α]{x y:Operand}{t t2 el:TypeId}{i m k:Nat}{ki:IntKind}{inf:TypeInfo}{z:Value}(z0:α)(hg:gd=none)(uk:dst=some d)(hn:d<n.n)(hx:ev e x=some (Sl.v Sl.nil))(hy:ev e y=some (.int .i64 (k:Int)))(hu:∀w,(underlying t).run P w=.ok (.slice el) w)
 (B:∀w,(underlying t2).run P w=.ok (.int ki) w) (hi:∀w,(typeInfo el).run P w=.ok inf w) (A:inf.size=m) (hz:inf.zero=some z) (lD:z.cells=(enc z0).toArray) (sB:m=sz α) (hm:(m==0)=false) (mr:k<=2^40) (no:(decide (inf.bytes<=128))=true) (hL:L[i]?=some (.own Sl.nil el m []))
 (kk:∀s':Sl,a9 P n w0 ops Q l ((d,s'.v)::e) F (L.set i (.own s' el m (I (List.replicate k z0))))):a9 P n w0 ops Q (⟨dst,.call ⟨.builtin .append,#[x,y],#[t,t2]⟩,ty,pos,aX,gd⟩::l) e F L:=
 lh hg uk hn λa w h hw=>by
  subst sB;have h0:0<sz α:=by(have:¬sz α=0:=by simpa using hm);omega
  have D:inf.bytes<=128:=by simpa using no
  have S:IntKind.i64.wrap (k:Int)=k:=bO O O;have j:¬((2:Int)^48<(k:Int)*(inf.bytes:Int)):=by have:k*inf.bytes<=2^40*128:=qQ mr D;omega
  have xj:¬((k:Int)<0):=by omega
  simp only[Int.reducePow]at j;by_cases hk:k=0
  .subst hk;have p:(execOp a.eval ⟨dst,.call ⟨.builtin .append,#[x,y],#[t,t2]⟩,ty,pos,aX,gd⟩).run P w=.ok (.value (Sl.v Sl.nil)) w:=by
    have V:IntKind.i64.wrap 0=0:=bO O O;simp[execOp,resolve,invoke,builtin,h.eval hx,h.eval hy,Builtin.append_,hu,B,sizeOf,hi,A,asInt,asIntOf,V,Sl.v,Sl.nil]
   have S3:L.set i (.own Sl.nil el (sz α) (I (List.replicate 0 z0)))=L:=by rw[show I (List.replicate 0 z0)=[]from X,kP hL];exact(kQ hL).symm
   refine⟨_,w,F,L,p,lK ?_,mO _ _ _,hw,by rw[<-S3];exact kk Sl.nil⟩;have V:IntKind.i64.wrap 0=0:=bO O O;simp[execOp,resolve,invoke,builtin,h.eval hx,h.eval hy,Builtin.append_,hu,B,sizeOf,hi,A,asInt,asIntOf,V,Sl.v,Sl.nil]
  .have ms:¬(k*sz α=0):=by
    intro hh;rcases A4.1 hh with h'|h'<;>omega
   have s:k*inf.bytes<=140737488355328:=iU (qQ mr D) ab;have H:¬(281474976710656<Builtin.nextslicecap k 0*inf.bytes):=by have:=growslice_fits (need:=k) (old:=0) (bytes:=inf.bytes) O s;omega
   have ni:¬(9223372036854775807<(k:Int)):=by omega
   have hg:k<=grownCap w k 0 el:=by unfold grownCap Question.cut;exact pt _ _
   have sH:z.cells.size=sz α:=by rw[lD];simp[an.len]
   have M:∀q,(Builtin.zeroCells z.cells q).toList=I (List.replicate q z0):=λq=>by have:=yA h0 lD q;unfold Builtin.zeroCells;rw[sH]at this ⊢;rw[this]
   have p:(execOp a.eval ⟨dst,.call ⟨.builtin .append,#[x,y],#[t,t2]⟩,ty,pos,aX,gd⟩).run P w=.ok (.value (.slice (some ⟨w.heap.size,0,none⟩) k (grownCap w k 0 el)))
    {w with drawn:=w.drawn+1,heap:=w.heap.push (.cells (I (List.replicate k z0)++(Builtin.zeroCells z.cells (grownCap w k 0 el-k)).toList).toArray el)}:=by
    have T:(Builtin.firstCells (sz α) 0 (.slice none 0 0)).run P w.drew=.ok #[] w.drew:=by simp[Builtin.firstCells]
    have EW:Builtin.zeroCells z.cells k=(I (List.replicate k z0)).toArray:=by apply lc;rw[M]
    simp[execOp,resolve,invoke,builtin,h.eval hx,h.eval hy,Builtin.append_,hu,B,sizeOf,hi,A,asInt,asIntOf,S,xj,j,zeroValue,hz,Sl.v,Sl.nil,hk,ni,H,Question.forced,newRow,grownCap];rw[T];simp[ms,EW];generalize Builtin.zeroCells z.cells _=f;have sx:(I (List.replicate k z0)).toArray++f=(I (List.replicate k z0)++f.toList).toArray:=by apply lc;simp
    first|rfl|(rw[sx];rfl)|simp
   have sC:=(hw.sublist (L':=L.eraseIdx i) (Bd L i)).drew
   refine⟨_,_,F,L.set i (.own ⟨some ⟨w.heap.size,0,none⟩,k,grownCap w k 0 el⟩ el (sz α) (I (List.replicate k z0))),p,?_,?_,(sC.new (i:=.own ⟨some ⟨w.heap.size,0,none⟩,k,grownCap w k 0 el⟩ el (sz α) (I (List.replicate k z0)))
    (.cells (I (List.replicate k z0)++(Builtin.zeroCells z.cells (grownCap w k 0 el-k)).toList).toArray el) X λg jE=>?_).perm (set_perm hL),kk ⟨some ⟨w.heap.size,0,none⟩,k,grownCap w k 0 el⟩⟩
   .have T:(Builtin.firstCells (sz α) 0 (.slice none 0 0)).run P w.drew=.ok #[] w.drew:=by simp[Builtin.firstCells]
    have hA:dE F L w.heap.size ((askRoom (grownCap w k 0 el*inf.bytes)).events P w.drew #[]):=wN lJ;simp[execOp,resolve,invoke,builtin,h.eval hx,h.eval hy,Builtin.append_,hu,B,sizeOf,hi,A,asInt,asIntOf,S,xj,j,zeroValue,hz,Sl.v,Sl.nil,hk,ni,H,Question.forced,newRow,grownCap]at hA ⊢;rw[T,show ∀es,(Builtin.firstCells (sz α) 0 (.slice none 0 0)).events P w.drew es=es from λes=>by simp[Builtin.firstCells]];exact hA
   .refine⟨X,X,X,by simp,λb hb _=>by show(w.heap.push _)[b]?=_;rw[pC,ck O],λb hb=>?_,λb o hb=>.inr (.inl (by rw[hb];rfl))⟩;obtain⟨x,hx,W⟩:=pE.1 hb;rcases kH hx with h|h
    .exact .inl (fI h W)
    .subst h;simp[Item.bH,Sl.bH]at W;subst W;right;simp
   refine⟨by rw[d7];simp,by simp only;omega,.inr ⟨_,0,[],_,X,by simpa using jE,X,hg,?_⟩⟩;rw[cr,d7,M,d7,ov,ov,<-mz];exact sK (by congr 1;simp only;omega)
theorem DO{α:Type}{l:List α}(h:l=[]):((room ([]:List α) l).bind λ_=>some (([]:List α)++l))=some []:=by subst h;simp[room]
theorem aab{α:Type}{xs:List α}{i j:Nat}(a:i<=j)(f:j<=xs.length):(xs.take i++xs.drop j).length<=xs.length:=by simp;omega
end
abbrev u0:=@Qn
end Go.Proofs.YtklkkoelldkncaaGreatDoor
namespace Go.Proofs.YtklkkoelldkncaaGreatDoor
open Go.RowKit an
section
variable {P:Program}
def i4(P:Program)(d:Nat)(t:TypeId)(α:Type)[an α][DecidableEq α]:Prop:=
 ∀(x y:α)(cs e:List Value)(off:Nat)(w:World),bu cs off (enc x)->bu e off (enc y)->
  ∃a b,(part t cs.toArray off).run P w=.ok a w/\(part t e.toArray off).run P w=.ok b w/\(Op.equalIn d t a b).run P w=.ok (decide (x=y)) w/\∀es,(Op.equalIn d t a b).events P w es=es
theorem Kx(t:TypeId)(cs:Array Value)(off:Nat):cT (part t cs off):=by
 unfold part;refine nz (λP w es=>events_isAgg P w es t) λb=>?_
 repeat' (first|exact mI _|(refine nz (λP w es=>events_sizeOf P w es t) λn=>?_)|split|exact λ_ _ _=>rfl)
theorem iR{α h:Type}{m:Sem α}{f:α->Sem h}{a:α}{w w':World}{es d:Array Event}(e:m.run P w=.ok a w')(g:m.events P w es=d):(m>>=f).events P w es=(f a).events P w' d:=by rw[Sem.events_bind,e,g];rfl
theorem DY{α g:Type}{f:α->g->Sem (ForInStep g)}{w:World}:∀(l:List α)(b:g),(∀i∈l,∀b,∃r,(f i b).run P w=.ok r w/\∀es,(f i b).events P w es=es)->∃r,(forIn l b f).run P w=.ok r w/\∀es,(forIn l b f).events P w es=es
 |[],b,_=>⟨b,by simp,by simp⟩
 |a::l,b,h=>by
  obtain⟨r,d,j⟩:=h a (by simp) b;rw[List.forIn_cons]
  cases r with
  |done e=>exact⟨e,by rw[Sem.run_bind,d];rfl,λes=>by rw[iR d (j es)];rfl⟩
  |yield e=>obtain⟨r,k,m⟩:=DY l e (λi hi=>h i (by simp[hi]));exact⟨r,by rw[Sem.run_bind,d];exact k,λes=>by rw[iR d (j es)];exact m es⟩
theorem Jc{d:Nat}{t:TypeId}{xs ys:Array Value}{o e:Nat}{a b:Value}{r:Bool}{w:World}(p1:(part t xs o).run P w=.ok a w)(f:(part t ys e).run P w=.ok b w)(g:(Op.equalIn d t a b).run P w=.ok r w)(h:∀es,(Op.equalIn d t a b).events P w es=es):
 ∃s,(part t xs o>>=λa=>part t ys e>>=λb=>Op.equalIn d t a b>>=λr=>if(!r)=true then pure (ForInStep.done (some false,()))else pure (ForInStep.yield ((none:Option Bool),())):Sem _).run P w=.ok s w/\
  ∀es,(part t xs o>>=λa=>part t ys e>>=λb=>Op.equalIn d t a b>>=λr=>if(!r)=true then pure (ForInStep.done (some false,()))else pure (ForInStep.yield ((none:Option Bool),())):Sem _).events P w es=es:=by
 refine⟨if(!r)=true then .done (some false,())else .yield (none,()),?_,λes=>?_⟩
 .simp only[Sem.run_bind,p1,f,g,Result.andThen_ok];split<;>simp
 .rw[iR p1 (Kx ..),iR f (Kx ..),iR g (h es)];split<;>simp
theorem Jd{m:Sem (Option Bool×Unit)}{f:Option Bool×Unit->Sem Bool}{w:World}(h:∃r,m.run P w=.ok r w/\∀es,m.events P w es=es)(e:∀s es,(f s).events P w es=es)(es:Array Event):(m>>=f).events P w es=es:=by obtain⟨r,a,d⟩:=h;rw[iR a (d es)];exact e r es
theorem rk{t:TypeId}{cs:List Value}{off:Nat}{v:Value}{w:World}(a:∀w,(isAgg t).run P w=.ok false w)(h:bu cs off [v]):(part t cs.toArray off).run P w=.ok v w:=by have:=h.at (j:=0) X;simp at this;simp[part,a,this]
theorem vi{t:TypeId}{cs ch:List Value}{off s:Nat}{w:World}(a:∀w,(isAgg t).run P w=.ok true w)(e:∀w,(sizeOf t).run P w=.ok s w)(d:ch.length=s)(h:bu cs off ch):(part t cs.toArray off).run P w=.ok (.agg ch.toArray) w:=by have:=h.extract d;simp[part,a,e];simpa using this
theorem i4.int{d:Nat}{t:TypeId}(a:∀w,(isAgg t).run P w=.ok false w)(e:∀w,(underlying t).run P w=.ok (.int .i64) w):i4 P (d+1) t Int:=λx y cs h off w f g=>by refine⟨_,_,rk a f,rk a g,?_,λes=>by simp[Op.equalIn,e]⟩;rw[run_equalIn_int w d t .i64 .i64 x y (tG e)];congr 1
theorem i4.u8{d:Nat}{t:TypeId}(a:∀w,(isAgg t).run P w=.ok false w)(e:∀w,(underlying t).run P w=.ok (.int .u8) w):i4 P (d+1) t (BitVec 8):=λx y cs h off w f g=>by refine⟨_,_,rk a f,rk a g,?_,λes=>by simp[Op.equalIn,e]⟩;rw[run_equalIn_int w d t .u8 .u8 _ _ (tG e)];congr 1;rw[eZ];simp[BitVec.toNat_inj,A9]
theorem i4.bool{d:Nat}{t:TypeId}(a:∀w,(isAgg t).run P w=.ok false w)(e:∀w,(underlying t).run P w=.ok .bool w):i4 P (d+1) t Bool:=λx y cs h off w f g=>by refine⟨_,_,rk a f,rk a g,?_,λes=>by simp[Op.equalIn,e]⟩;rw[run_equalIn_bool w d t x y (tG e)];congr 1
theorem i4.str{d:Nat}{t:TypeId}(a:∀w,(isAgg t).run P w=.ok false w)(e:∀w,(underlying t).run P w=.ok .string w):i4 P (d+1) t Y:=λx y cs h off w f g=>by refine⟨_,_,rk a f,rk a g,?_,λes=>by simp[Op.equalIn,e,Y.v]⟩;show(Op.equalIn (d+1) t (.string (Y.b x)) (.string (Y.b y))).run P w=_;rw[run_equalIn_string w d t _ _ (tG e)];congr 1;rw[eZ];simp[ByteArray.toList_eq,Y.b]
theorem L0{α:Type}[an α][DecidableEq α]{d el c:Nat}(n:i4 P d el α){xs ys:List Value}{l m:List α}{w:World}(o:c=sz α)(p:xs=I l)(q:ys=I m)(f:l.length=m.length):
 ∀(k i:Nat),i+k=l.length->(Op.eqItems d el c xs.toArray ys.toArray (List.range' i k)).run P w=.ok (decide (l.drop i=m.drop i)) w
 |0,i,h=>by rw[List.drop_eq_nil_of_le O,List.drop_eq_nil_of_le O];simp[Op.eqItems]
 |k+1,i,h=>by
  subst p q o;have g:i<l.length:=by omega
  have j:i<m.length:=by omega
  obtain⟨a,b,p1,t,x,y⟩:=n l[i] m[i] (I l) (I m) (i*sz α) w (by simpa using tf (k:=0) (je g) (iM _)) (by simpa using tf (k:=0) (je j) (iM _));have s:=L0 n (w:=w) X X X f k (i+1) O;have e:decide (l.drop i=m.drop i)=(decide (l[i]=m[i])&&decide (l.drop (i+1)=m.drop (i+1))):=by rw[jd g,jd j,eZ];simp only[gL,List.cons.injEq,eJ]
  rw[e];simp only[List.range'_succ,Op.eqItems,Sem.run_bind,p1,t,x,Result.andThen_ok];cases decide (l[i]=m[i])
  .simp
  .simpa using s
theorem i4.array{α:Type}[an α][DecidableEq α]{d k el s:Nat}{t:TypeId}{inf:TypeInfo}(h:∀w,(isAgg t).run P w=.ok true w)(n:∀w,(sizeOf t).run P w=.ok s w)(f:s=k*sz α)(o:∀w,(underlying t).run P w=.ok (.array k el) w)(hi:P.info? el=some inf)(j:P.cellsOf el=sz α)
 (g:i4 P d el α):i4 P (d+1) t (Vector α k):=λx y cs K off w A B=>by
 refine⟨_,_,vi h n ((an.len x).trans f.symm) A,vi h n ((an.len y).trans f.symm) B,?_,λes=>?_⟩
 rotate_left
 .rw[Op.equalIn,iR (o w) (events_underlying ..)];dsimp only;rw[iR (run_sizeOf w hi) (events_sizeOf ..),Std.Legacy.Range.forIn_eq_forIn_range',j];refine Jd (DY _ _ λi hi b=>?_) (λs es=>by rcases s with⟨_|_,_⟩<;>rfl) es;have e:i<k:=by simp[List.mem_range',Std.Legacy.Range.size]at hi;omega
  have p:bu (I x.toList) (i*sz α) (enc (x.toList[i]'(by simpa using e))):=by simpa only[mA]using tf (k:=0) (je (by simpa using e)) (iM _)
  have q:bu (I y.toList) (i*sz α) (enc (y.toList[i]'(by simpa using e))):=by simpa only[mA]using tf (k:=0) (je (by simpa using e)) (iM _)
  obtain⟨a,H,p1,C,D,F⟩:=g _ _ _ _ _ w p q;exact Jc p1 C D F
 rw[run_equalIn_array w d _ _ (tG o) hi];have:=L0 g (w:=w) (l:=x.toList) (m:=y.toList) j X X (by simp) k 0 (by simp);rw[E1];refine this.trans ?_;congr 1;rw[eZ];simp[Vector.toList_inj]
theorem GS{α:Type}[an α][DecidableEq α]{d:Nat}{t:TypeId}{s:Nat}(i:∀w,(isAgg t).run P w=.ok true w)(j:∀w,(sizeOf t).run P w=.ok s w)(e:s=sz α)(hd:d=Op.maxDepth)(h:i4 P d t α)(x y:α)(w:World):(Op.equal t (.agg (enc x).toArray) (.agg (enc y).toArray)).run P w=.ok (decide (x=y)) w/\(Op.equal t (.agg (enc x).toArray) (.agg (enc y).toArray)).events P w #[]=#[]:=by subst hd;obtain⟨a,b,f,g,k,l⟩:=h x y _ _ 0 w (iM _) (iM _);rw[vi i j ((an.len x).trans e.symm) (iM _)]at f;rw[vi i j ((an.len y).trans e.symm) (iM _)]at g;cases f;cases g;exact⟨k,l _⟩
def wn(P:Program)(d:Nat)(x y:List Value)(w:World)(e:List Field):Prop:=∀f∈e,f.name≠ "_"->∃a b r,(part f.type x.toArray f.offset).run P w=.ok a w/\(part f.type y.toArray f.offset).run P w=.ok b w/\(Op.equalIn d f.type a b).run P w=.ok r w/\∀es,(Op.equalIn d f.type a b).events P w es=es
theorem i4.struct{α:Type}[an α][DecidableEq α]{d s:Nat}{t:TypeId}{i:Array Field}(m:∀w,(isAgg t).run P w=.ok true w)(n:∀w,(sizeOf t).run P w=.ok s w)(h:s=sz α)(k:∀w,(underlying t).run P w=.ok (.struct i) w)(g:P.stoodInHeld t=false)
 (l:∀(x y:α)(w:World),(Op.eqFields d (enc x).toArray (enc y).toArray i.toList).run P w=.ok (decide (x=y)) w/\wn P d (enc x) (enc y) w i.toList):i4 P (d+1) t α:=λx y cs F off w p q=>by
 refine⟨_,_,vi m n ((an.len x).trans h.symm) p,vi m n ((an.len y).trans h.symm) q,?_,λes=>?_⟩
 rotate_left
 .rw[Op.equalIn,iR (k w) (events_underlying ..)];dsimp only;rw[iR (run_program ..) (events_program ..)];rw[g,ck (by simp),<-Array.forIn_toList];refine Jd (DY _ _ λf o b=>?_) (λs es=>by rcases s with⟨_|_,_⟩<;>rfl) es;by_cases j:f.name= "_"
  .rw[ck (by simpa using j)];exact⟨_,Sem.run_pure ..,λes=>mI _ _ _ es⟩
  .rw[ce j];obtain⟨a,D,r,p1,A,B,C⟩:=(l x y w).2 f o j;exact Jc p1 A B C
 have e:P.fieldsOf t=i:=by simp[Program.fieldsOf,tG k]
 rw[run_equalIn_struct w d t _ _ (by rw[e];exact tG k) g,e];exact(l x y w).1
theorem Si{d:Nat}{x y:List Value}{a:List Field}{w:World}{r f:Bool}(h:(Op.eqFields d x.toArray y.toArray a).run P w=.ok r w/\wn P d x y w a)(e:r=f):(Op.eqFields d x.toArray y.toArray a).run P w=.ok f w/\wn P d x y w a:=e▸h
theorem I6{i:Type}[an i][DecidableEq i]{d off:Nat}{f:Field}{h:List Field}{x y:List Value}{p q:i}{w:World}{r:Bool}(B:(f.name== "_")=false)(A:i4 P d f.type i)(C:f.offset=off)(D:bu x off (enc p))(F:bu y off (enc q))
 (k:(Op.eqFields d x.toArray y.toArray h).run P w=.ok r w/\wn P d x y w h):(Op.eqFields d x.toArray y.toArray (f::h)).run P w=.ok (decide (p=q)&&r) w/\wn P d x y w (f::h):=by
 subst C;obtain⟨a,b,n,o,s,t⟩:=A p q x y f.offset w D F;obtain⟨k,kf⟩:=k
 refine⟨?_,λg j l=>by
  rcases fB.1 j with rfl|j
  .exact⟨a,b,_,n,o,s,t⟩
  .exact kf g j l⟩
 have m:f.name≠ "_":=by simpa using B
 simp only[Op.eqFields,ce m,Sem.run_bind,n,o,s,Result.andThen_ok];by_cases e:p=q
 .simp[e,k]
 .simp[e]
end
instance :an (Option Nat):=⟨λx=>[.map x],1,λ_=>rfl,λ_=>rfl⟩
section
set_option linter.unusedSectionVars false
variable {K V:Type}[DecidableEq K]
def Entry(kf:K->Value)(vf:V->Value)(e:MapEntry)(p:K×V):Prop:=e.key=kf p.1/\e.val=vf p.2
def Fits(kf:K->Value)(vf:V->Value):List MapEntry->List (K×V)->Prop
 |[],[]=>True
 |e::es,p::m=>Entry kf vf e p/\Fits kf vf es m
 |_,_=>False
theorem Fits.len{kf:K->Value}{vf:V->Value}:∀{es:List MapEntry}{m:List (K×V)},Fits kf vf es m->es.length=m.length
 |[],[],_=>rfl
 |_::_,_::_,h=>by rw[bN,bN,h.2.len]
 |[],_::_,h=>h.elim
 |_::_,[],h=>h.elim
theorem Fits.get{kf:K->Value}{vf:V->Value}:∀{es:List MapEntry}{m:List (K×V)},Fits kf vf es m->∀(i:Nat),(es[i]?=none/\m[i]?=none)\/∃e p,es[i]?=some e/\m[i]?=some p/\Entry kf vf e p
 |[],[],_,i=>.inl ⟨by simp,by simp⟩
 |e::_,p::_,h,0=>.inr ⟨e,p,X,X,h.1⟩
 |_::es,_::m,h,i+1=>by simpa using h.2.get i
 |[],_::_,h,_=>h.elim
 |_::_,[],h,_=>h.elim
theorem Fits.push{kf:K->Value}{vf:V->Value}{e:MapEntry}{p:K×V}(hp:Entry kf vf e p):∀{es:List MapEntry}{m:List (K×V)},Fits kf vf es m->Fits kf vf (es++[e]) (m++[p])
 |[],[],_=>⟨hp,bo⟩
 |_::_,_::_,h=>⟨h.1,h.2.push hp⟩
 |[],_::_,h=>h.elim
 |_::_,[],h=>h.elim
theorem Fits.set{kf:K->Value}{vf:V->Value}{e:MapEntry}{p:K×V}(hp:Entry kf vf e p):∀{es:List MapEntry}{m:List (K×V)}(i:Nat),Fits kf vf es m->Fits kf vf (es.set i e) (m.set i p)
 |[],[],_,_=>trivial
 |_::_,_::_,0,h=>⟨hp,h.2⟩
 |_::_,_::_,i+1,h=>⟨h.1,h.2.set hp i⟩
 |[],_::_,_,h=>h.elim
 |_::_,[],_,h=>h.elim
structure oS(P:Program)(kt:TypeId)(kf:K->Value):Prop where
 check:∀em x w,(Instr.checkKey em 10000 kt (kf x)).run P w=.ok () w
 find:∀(x:K)(V:Type)(vf:V->Value)(es:List MapEntry)(m:List (K×V))w,Fits kf vf es m->(Instr.findKey kt (kf x) es).run P w=.ok ((m.findIdx? λp=>decide (x=p.1)).bind λi=>es[i]?.map λe=>(i,e.val)) w
 stays:∀x w,(Instr.keyThatStays (kf x) (kf x)).run P w=.ok (kf x) w
 IE:∀em x w es,(Instr.checkKey em 10000 kt (kf x)).events P w es=es
 Jk:∀(x:K)(V:Type)(vf:V->Value)(es:List MapEntry)(m:List (K×V))w ev,Fits kf vf es m->(Instr.findKey kt (kf x) es).events P w ev=ev
 aaC:∀x w es,(Instr.keyThatStays (kf x) (kf x)).events P w es=es
theorem D4{a:TypeDesc}{kf:K->Value}{vf:V->Value}(g:∀x y,Instr.sameNow a (kf x) (kf y)=some (decide (x=y)))(x:K):∀(es:List MapEntry)(m:List (K×V))(i:Nat),Fits kf vf es m->
 Instr.findNow a (kf x) es i=some ((m.findIdx? λp=>decide (x=p.1)).bind λj=>es[j]?.map λe=>(i+j,e.val))
 |[],[],i,_=>by simp[Instr.findNow]
 |e::es,p::m,i,h=>by
  unfold Instr.findNow;rw[h.1.1,g];by_cases f:x=p.1
  .simp[f,Be]
  .simp only[f,xw];rw[D4 g x es m (i+1) h.2,Be];simp only[f,xw,sO,ol]
   cases m.findIdx? (λp=>decide (x=p.1))with
   |none=>simp
   |some j=>simp[qP,nt 1 j]
 |[],_::_,_,h=>h.elim
 |_::_,[],_,h=>h.elim
theorem PR{P:Program}{f:TypeId}{kf:K->Value}{a:TypeDesc}(o:∀w,(underlying f).run P w=.ok a w)(k:∀x y,Instr.sameNow a (kf x) (kf y)=some (decide (x=y)))
 (p:∀g x w,(Instr.checkKey g 10000 f (kf x)).run P w=.ok () w) (i:∀g x w es,(Instr.checkKey g 10000 f (kf x)).events P w es=es) (j:∀x,Instr.sameBits 10000 (kf x) (kf x)=true):oS P f kf:=by
 refine⟨p,λx V vf es m w h=>?_,λx w=>?_,i,λx V vf es m w ev h=>?_,λx w es=>?_⟩
 .unfold Instr.findKey;simp only[Sem.run_bind,o,Result.andThen_ok,D4 k x es m 0 h];simp
 .unfold Instr.keyThatStays;rw[j];simp
 .unfold Instr.findKey;rw[iR (o w) (events_underlying ..),D4 k x es m 0 h];rfl
 .unfold Instr.keyThatStays;rw[j];simp
theorem oS.int{P:Program}{f:TypeId}(a:∀w,(underlying f).run P w=.ok (.int .i64) w):oS P f (λx:Int=>.int .i64 x):=by
 refine PR a (λx y=>by simp[Instr.sameNow];rw[eZ];simp) (λg x w=>?_) (λg x w es=>?_) (λx=>by simp[Instr.sameBits])
 .rw[show(10000:Nat)=9999+1 from X];unfold Instr.checkKey;simp[a]
 .rw[show(10000:Nat)=9999+1 from X];unfold Instr.checkKey;simp[a]
end
section
variable {K V:Type}[DecidableEq K]
def mG(m:List (K×V))(x:K):Option Nat:=m.findIdx? λp=>decide (x=p.1)
def dg(m:List (K×V))(x:K):Option V:=(mG m x).bind λi=>(m[i]?).map (·.2)
def iL(m:List (K×V))(x:K)(v:V):List (K×V):=match mG m x with
 |some i=>m.set i (x,v)
 |none=>m++[(x,v)]
def nP(es:List MapEntry)(a:Nat):Prop:=(∀x∈es,x.born<a)/\(es.map (·.born)).Nodup
theorem nP.push{es:List MapEntry}{c:Nat}{k v:Value}(h:nP es c):nP (es++[⟨k,v,c⟩]) (c+1):=by
 refine⟨λx f=>?_,?_⟩
 .rcases e9.1 f with f|f
  .have:=h.1 x f;omega
  .simp at f;subst f;exact A3 _
 .rw[kG,uE];refine⟨h.2,by simp,λa g b i e=>?_⟩;obtain⟨x,f,rfl⟩:=mE.1 g;have:=h.1 x f;simp at i;omega
theorem nP.set{es:List MapEntry}{c j:Nat}{a:MapEntry}{k v:Value}(h:nP es c)(m:es[j]?=some a):nP (es.set j ⟨k,v,a.born⟩) c:=by
 obtain⟨g,i⟩:=ff.1 m;have e:(es.set j ⟨k,v,a.born⟩).map (·.born)=es.map (·.born):=by
  rw[ox];apply sP;intro q;rw[List.getElem?_set];by_cases f:j=q
  .subst f;simp[g,i]
  .simp[f]
 refine⟨λx o=>?_,by rw[e];exact h.2⟩;have:x.born∈(es.set j ⟨k,v,a.born⟩).map (·.born):=sS o;rw[e]at this;obtain⟨y,p,s⟩:=mE.1 this;have:=h.1 y p;omega
theorem Im{es:Array MapEntry}{j:Nat}{a:MapEntry}(f:MapEntry->MapEntry)(h:es[j]?=some a):(es.modify j f).toList=es.toList.set j (f a):=by
 apply sP;intro q;rw[Array.getElem?_toList,pA,List.getElem?_set];by_cases g:j=q
 .subst g;have i:j<es.size:=(gV.1 h).1;have k:es[j]=a:=(gV.1 h).2;simp[i,k]
 .simp[g]
def iK(b:Nat)(kf:K->Value)(vf:V->Value)(m:List (K×V)):Item:=.gen [b] λh=>∃es a,h b=some (.map es a)/\Fits kf vf es.toList m/\nP es.toList a
theorem Fp{m:List (K×V)}{x:K}{i:Nat}(h:mG m x=some i):∃v,m[i]?=some (x,v):=by unfold mG at h;rw[Fd]at h;obtain⟨a,f,_⟩:=h;have g:x=m[i].1:=om f;exact⟨m[i].2,by rw[je a];simp[g]⟩
theorem V4{x:K}:dg ([]:List (K×V)) x=none:=X
theorem Bt{p:K×V}{m:List (K×V)}{x:K}:dg (p::m) x=if x=p.1 then some p.2 else dg m x:=by
 unfold dg mG;rw[Be];by_cases h:x=p.1
 .simp[h]
 .simp only[h,xw,sO,ol];cases m.findIdx? (λp=>decide (x=p.1))<;>simp
theorem V9{k:K}{v:V}:iL ([]:List (K×V)) k v=[(k,v)]:=X
theorem V8{p:K×V}{m:List (K×V)}{k:K}{v:V}:iL (p::m) k v=if k=p.1 then(k,v)::m else p::iL m k v:=by
 unfold iL mG;rw[Be];by_cases h:k=p.1
 .simp[h]
 .simp only[h,xw,sO,ol];cases m.findIdx? (λp=>decide (k=p.1))<;>simp
theorem xJ{k:K}{v:V}{x:K}:∀m:List (K×V),dg (iL m k v) x=if x=k then some v else dg m x
 |[]=>by rw[V9,Bt]
 |p::m=>by
  rw[V8,Bt];by_cases h:k=p.1
  .rw[ce h,Bt];by_cases a:x=k
   .simp[a]
   .have:x≠p.1:=λe=>a (e.trans h.symm);simp[a,this]
  .rw[ck h,Bt,xJ m];by_cases a:x=p.1
   .simp[a];intro e;exact absurd e.symm h
   .simp[a]
end
section
set_option linter.unusedSectionVars false
variable {P:Program}{C:Co P}{n:Fm}{w0:World}{ops:Array Oper}{Q:eC}{l:List Oper}{e:List (Nat×Value)}{F:bk}{L L':List Item}{d:Nat}{dst:Option Nat}{ty:TypeId}{pos:String}{aX:Array Edge}{gd:Option (Nat×Bool)}
variable {K V:Type}[DecidableEq K]
theorem St.map{w:World}{i b:Nat}{kf:K->Value}{vf:V->Value}{m:List (K×V)}(h:St w0 F L w)(j:L[i]?=some (iK b kf vf m)):∃es a,w.heap[b]?=some (.map es a)/\Fits kf vf es.toList m:=by obtain⟨es,a,f,g,_⟩:=h.holds _ (eN j);exact⟨es,a,by simpa[World.hp]using f,g⟩
theorem QX{w:World}{i b:Nat}{kf:K->Value}{vf:V->Value}{m:List (K×V)}(h:St w0 F L w)(k:L[i]?=some (iK b kf vf m)):∃es a,w.heap[b]?=some (.map es a)/\Fits kf vf es.toList m/\nP es.toList a:=by obtain⟨es,a,f,g,j⟩:=h.holds _ (eN k);exact⟨es,a,by simpa[World.hp]using f,g,j⟩
theorem a9.makeMap{t:TypeId}(kf:K->Value)(vf:V->Value)(m:gd=none)(f:dst=some d)(o:d<n.n)
 (k:∀b,a9 P n w0 ops Q l ((d,.map (some b))::e) F (iK b kf vf ([]:List (K×V))::L)):a9 P n w0 ops Q (⟨dst,.makeMap t none,ty,pos,aX,gd⟩::l) e F L:=
 lh m f o λa w h q=>by
  have p:(execOp a.eval ⟨dst,.makeMap t none,ty,pos,aX,gd⟩).run P w=.ok (.value (.map (some w.heap.size))) {w with heap:=w.heap.push (.map #[] 0)}:=by simp[execOp,Instr.makeMap]
  exact⟨_,_,F,_,p,lK (by simp[execOp,Instr.makeMap]),u6 (i:=iK w.heap.size kf vf ([]:List (K×V))) _ X,q.new _ X λg j=>⟨#[],0,by simp[j],bo,by simp[nP]⟩,k _⟩
theorem Kp{w:World}{t A el:TypeId}{kf:K->Value}{vf:V->Value}{m:List (K×V)}{es:Array MapEntry}{a b:Nat}{c:Bool}(y:oS P A kf)(T:∀w,(underlying t).run P w=.ok (.map A el) w){z0:V}(W:∀w,(zeroValue el).run P w=.ok (vf z0) w)
 (M:w.heap[b]?=some (.map es a)) (s:Fits kf vf es.toList m) (x:K):
 (Instr.lookup t (.map (some b)) (kf x) c).run P w=.ok (if c=true then .tuple #[vf ((dg m x).getD z0),.bool (dg m x).isSome]else vf ((dg m x).getD z0)) w:=by
 have S:=y.find x V vf es.toList m w s;have j:=y.check (es.isEmpty) x w;have k:=MapKept.run_getObj_map (P:=P) M;unfold Instr.lookup;simp only[Sem.run_bind,T,Result.andThen_ok,k,Sem.run_pure,j,S];unfold dg
 cases g:mG m x with
 |none=>unfold mG at g;rw[g];simp[W]
 |some i=>
  obtain⟨v,o⟩:=Fp g;unfold mG at g;rcases s.get i with⟨_,f⟩|⟨q,p,B,f,D⟩
  .rw[o]at f;cases f
  .rw[o]at f;obtain rfl:=dF f;have h:es[i]?=some q:=by simpa using B
   have H:q.val=vf v:=D.2;rw[g];simp[h,o,H]
theorem eF.get{w:World}{b:Nat}{g:Array MapEntry}{a:Nat}{wr:Bool}{es:Array Event}(f:w.heap[b]?=some (.map g a))(h:eF b wr es):eF b wr ((getObj b).events P w es):=by
 have:(getObj b).events P w es=es.push ⟨.obj b,false,false⟩:=by simp[getObj,Sem.events,Sem.runT,f,Obj.isChan,-Sem.runT_eq]
 rw[this];exact h.push ⟨X,X,λh=>by cases h⟩
theorem eF.put{w:World}{b:Nat}{j:Array MapEntry}{f:Nat}{g:Array MapEntry}{a:Nat}{es:Array Event}(i:w.heap[b]?=some (.map j f))(h:eF b true es):eF b true ((setObj b (.map g a)).events P w es):=by
 have:(setObj b (.map g a)).events P w es=es.push ⟨.obj b,true,false⟩:=by simp[setObj,Sem.events,Sem.runT,i,Obj.isChan,-Sem.runT_eq]
 rw[this];exact h.push ⟨X,X,λ_=>rfl⟩
theorem Kq{w:World}{t k el:TypeId}{kf:K->Value}{vf:V->Value}{m:List (K×V)}{es:Array MapEntry}{a b:Nat}{c:Bool}(f:oS P k kf)(p:∀w,(underlying t).run P w=.ok (.map k el) w){z0:V}(q:∀w,(zeroValue el).run P w=.ok (vf z0) w)
 (j:w.heap[b]?=some (.map es a)) (i:Fits kf vf es.toList m) (x:K):eF b false ((Instr.lookup t (.map (some b)) (kf x) c).events P w #[]):=by
 have o:=f.find x V vf es.toList m w i;have h:=MapKept.run_getObj_map (P:=P) j;have g:=eF.get (P:=P) j (ks (b:=b) (wr:=false));unfold Instr.lookup;rw[iR (p w) (events_underlying ..)];dsimp only;rw[iR h X];generalize(getObj b).events P w #[]=s at g;dsimp only;rw[iR (Sem.run_pure ..) (Sem.events_pure ..),iR (f.check ..) (f.IE ..),iR o (f.Jk _ _ vf _ m _ _ i)];split
 .simpa using g
 .rw[iR (q w) (events_zeroValue ..)];simpa using g
theorem Ev.lookup{x y:Operand}{t D el:TypeId}{kf:K->Value}{vf:V->Value}{m:List (K×V)}{b i:Nat}{k:K}{z0:V}(s:ev e x=some (.map (some b)))(A:ev e y=some (kf k))(o:L[i]?=some (iK b kf vf m))
 (j:oS P D kf) (q:∀w,(underlying t).run P w=.ok (.map D el) w) (B:∀w,(zeroValue el).run P w=.ok (vf z0) w):Ev P n w0 e F L ⟨dst,.lookup t x y false,ty,pos,aX,gd⟩ (vf ((dg m k).getD z0)):=λa w h H=>by
 obtain⟨es,f,p,g⟩:=St.map H o;refine⟨by simp[execOp,h.eval s,h.eval A,Kp j q B p g],?_⟩;simp only[execOp,h.eval s,h.eval A,Sem.events_bind,Sem.events_pure];exact n8 ((Kq j q B p g k).reads (.inl (fI (eN o) (by simp[iK,Item.bH]))))
theorem CE{x y:Operand}{t D el:TypeId}{kf:K->Value}{vf:V->Value}{m:List (K×V)}{b i:Nat}{k:K}{z0:V}(s:ev e x=some (.map (some b)))(A:ev e y=some (kf k))(o:L[i]?=some (iK b kf vf m))
 (j:oS P D kf) (q:∀w,(underlying t).run P w=.ok (.map D el) w) (B:∀w,(zeroValue el).run P w=.ok (vf z0) w):Ev P n w0 e F L ⟨dst,.lookup t x y true,ty,pos,aX,gd⟩ (.tuple #[vf ((dg m k).getD z0),.bool (dg m k).isSome]):=λa w h H=>by
 obtain⟨es,f,p,g⟩:=St.map H o;refine⟨by simp[execOp,h.eval s,h.eval A,Kp j q B p g],?_⟩;simp only[execOp,h.eval s,h.eval A,Sem.events_bind,Sem.events_pure];exact n8 ((Kq j q B p g k).reads (.inl (fI (eN o) (by simp[iK,Item.bH]))))
theorem Mf{α:Type}(a:Array α)(i:Nat)(o:α):a.setIfInBounds i o=a.modify i λ_=>o:=by
 apply AX;intro j;rw[pA,Ff];by_cases h:i=j
 .subst h;by_cases hi:i<a.size<;>simp[hi]
 .simp[h]
theorem a9.mapUpdate{x y z:Operand}{t kt el:TypeId}{kf:K->Value}{vf:V->Value}{m:List (K×V)}{b i:Nat}{k:K}{v:V}(hg:gd=none)(uk:dst=none)(hx:ev e x=some (.map (some b)))(hy:ev e y=some (kf k))(hz:ev e z=some (vf v))(hL:L[i]?=some (iK b kf vf m))
 (S:oS P kt kf) (hu:∀w,(underlying t).run P w=.ok (.map kt el) w)
 (kk:a9 P n w0 ops Q l e F (L.set i (iK b kf vf (iL m k v)))):a9 P n w0 ops Q (⟨dst,.mapUpdate t x y z,ty,pos,aX,gd⟩::l) e F L:=
 a9.unit hg uk λa w h hw=>by
  obtain⟨es,g,M,hF,hB⟩:=QX hw hL;have hf:=S.find k V vf es.toList m w hF;have JI:=S.check false k w;have hgo:=MapKept.run_getObj_map (P:=P) M;have key:∃o f,(Instr.mapUpdate t (.map (some b)) (kf k) (vf v)).run P w=.ok () {w with heap:=w.heap.modify b λ_=>.map o f}/\Fits kf vf o.toList (iL m k v)/\nP o.toList f:=by
   unfold Instr.mapUpdate iL;simp only[Sem.run_bind,hu,Result.andThen_ok,hgo,JI,hf]
   cases H:mG m k with
   |none=>
    unfold mG at H;rw[H];refine⟨es.push ⟨kf k,vf v,g⟩,g+1,?_,?_,by rw[Array.toList_push];exact hB.push⟩
    .simp[MapKept.run_setObj_map _ M,Mf]
    .rw[Array.toList_push];exact hF.push (e:=⟨kf k,vf v,g⟩) (p:=(k,v)) ⟨X,X⟩
   |some j=>
    obtain⟨u,D⟩:=Fp H;unfold mG at H;rcases hF.get j with⟨_,A⟩|⟨en,p,h1,A,h3⟩
    .rw[D]at A;cases A
    .rw[D]at A;obtain rfl:=dF A;have s:es[j]?=some en:=by simpa using h1
     have iS:=S.stays k w;rw[H];refine⟨es.modify j λe=>{e with key:=kf k,val:=vf v},g,?_,?_,by rw[Im _ s];exact hB.set (by simpa using s)⟩
     .have B:en.key=kf k:=h3.1;simp[s,B,iS,MapKept.run_setObj_map _ M,Mf]
     .rw[Im _ s];exact hF.set (p:=(k,v)) ⟨X,X⟩ j
  obtain⟨o,f,jr,SI⟩:=key;have hr:(execOp a.eval ⟨dst,.mapUpdate t x y z,ty,pos,aX,gd⟩).run P w=.ok .skip {w with heap:=w.heap.modify b λ_=>.map o f}:=by simp[execOp,h.eval hx,h.eval hy,h.eval hz,jr]
  have um:eF b true ((Instr.mapUpdate t (.map (some b)) (kf k) (vf v)).events P w #[]):=by
   have hG:=eF.get (P:=P) M (ks (b:=b) (wr:=true));unfold Instr.mapUpdate;rw[iR (hu w) (events_underlying ..)];dsimp only;rw[iR hgo X];generalize(getObj b).events P w #[]=ge at hG;dsimp only;rw[iR JI (S.IE ..),iR hf (S.Jk _ _ vf _ m _ _ hF)];split
   .rename_i j en hj;have hs:(Instr.keyThatStays (((es[j]?).map (·.key)).getD (kf k)) (kf k))=Instr.keyThatStays (kf k) (kf k):=by
     cases H:m.findIdx? (λp=>decide (k=p.1))with
     |none=>rw[H]at hj;cases hj
     |some q=>
      rw[H]at hj;obtain⟨u,D⟩:=Fp (m:=m) (x:=k) H;rcases hF.get q with⟨_,A⟩|⟨IY,p,h1,A,h3⟩
      .rw[D]at A;cases A
      .rw[D]at A;obtain rfl:=dF A;simp at hj;obtain⟨y,hy1,U8,_⟩:=hj;have s:es[j]?=some IY:=by rw[<-U8];simpa using h1
       have B:IY.key=kf k:=h3.1;simp[s,B]
    rw[hs,iR (S.stays k w) (S.aaC ..)];exact eF.put M hG
   .exact eF.put M hG
  have av:b<w.heap.size:=(gV.1 M).1;have T:b∈cu L:=fI (eN hL) (by simp[iK,Item.bH]);refine⟨_,F,_,hr,?_,gb.of X (by simp) (λc hc=>?_) (λc hc=>?_),?_,kk⟩
  .simp only[execOp,h.eval hx,h.eval hy,h.eval hz,Sem.events_bind,Sem.events_pure];exact n8 (um.lists T)
  .have:b≠c:=λe=>hc (e▸T);show(w.heap.modify b _)[c]?=_;rw[pA,ck this]
  .obtain⟨x,pn,W⟩:=pE.1 hc;rcases kH pn with h|h
   .exact fI h W
   .subst h;simp only[iK,Item.bH,iq]at W;subst W;exact T
  rw[kP hL];rw[kQ hL]at hw;refine hw.change (j:=iK b kf vf (iL m k v)) (by simp[iK,Item.bH]) X _ ⟨o,f,?_,SI⟩;simp only[World.hp,iq,jX];rw[pA,ce X,M];rfl
end
abbrev tg:=@oS.int
end Go.Proofs.YtklkkoelldkncaaGreatDoor
namespace Go.Proofs.YtklkkoelldkncaaGreatDoor
open Go.RowKit Go.Conc an
section
variable {P:Program}{C:Co P}{n:Fm}{w0:World}{ops:Array Oper}{Q:eC}{K:Act->Prop}{l:List Oper}{e:List (Nat×Value)}{F F0:bk}{L L':List Item}{v:Value}{dst:Option Nat}{d:Nat}{ty:TypeId}{pos:String}{aX:Array Edge}{gd:Option (Nat×Bool)}
theorem St.ZF{w:World}{i:Nat}{m it':Item}(h:St w0 F L w)(g:L[i]?=some m)(o:it'.bH=m.bH)(p:it'.holds (World.hp w)):St w0 F (L.set i it') w:=by
 have a:cu (L.set i it')=cu L:=by
  rw[kP g]
  conv=>rhs;rw[kQ g]
  rw[ob,ob,eQ,eQ,o]
 refine⟨h.below,h.gh,λb k=>h.apart b (by rw[a]at k;exact k),λj f=>?_,by rw[a];exact h.nodup⟩;rcases kH f with f|rfl
 .exact h.holds j f
 .exact p
theorem ND{x:Operand}{s:Sl}{t el:TypeId}{f:Array TypeId}(j:ev e x=some s.v)(g:f[0]?=some t)(i:∀w,(underlying t).run P w=.ok (.slice el) w):Ev P n w0 e F L ⟨dst,.call ⟨.builtin .cap,#[x],f⟩,ty,pos,aX,gd⟩ (.int .i64 (s.cap:Int)):=λa w h k=>by exact cK (by simp[execOp,resolve,invoke,builtin,Builtin.cap_,g,h.eval j,i,Sl.v,goInt]) (by simp[execOp,resolve,invoke,builtin,Builtin.cap_,g,h.eval j,i,Sl.v,goInt])
theorem NM{x b:Operand}{t el:TypeId}{s:Sl}{j:Int}{m q:Nat}(p:ev e x=some s.v)(g:ev e b=some (.int .i64 j))(A:j=(q:Int))(o:∀w,(underlying t).run P w=.ok (.slice el) w)(k:∀w,(sizeOf el).run P w=.ok m w)(B:q<=s.cap):
 Ev P n w0 e F L ⟨dst,.slice t x none (some b) none,ty,pos,aX,gd⟩ (Sl.v ⟨s.a,q,s.cap⟩):=λac w h D=>by
 subst A;have y:∀a:Addr,a.add 0=a:=λa=>by unfold Addr.add;simp
 have f:s.a.map (λa:Addr=>a.add 0)=s.a:=by cases s.a<;>simp[y]
 refine cK ?_ (by simp[execOp,Instr.sliceAt,h.eval p,h.eval g,o,Sl.v,Instr.slice,Instr.sliceBounds,run_sliceBound (P:=P) (w:=w) (i:=(q:Int)) (m:=s.cap) O O,k,ud]);simp[execOp,Instr.sliceAt,h.eval p,h.eval g,o,Sl.v,Instr.slice,Instr.sliceBounds,run_sliceBound (P:=P) (w:=w) (i:=(q:Int)) (m:=s.cap) O O,k]
 try simp[f]
theorem zM{x b:Operand}{t el:TypeId}{s:Sl}{j:Int}{m q:Nat}(k:ev e x=some s.v)(a:ev e b=some (.int .i64 j))(o:j=(q:Int))(g:∀w,(underlying t).run P w=.ok (.slice el) w)(f:∀w,(sizeOf el).run P w=.ok m w)(p:q<=s.len):
 Ev P n w0 e F L ⟨dst,.slice t x (some b) none none,ty,pos,aX,gd⟩ (Sl.v (s.cut q s.len m)):=λac w h y=>by
 subst o;refine cK ?_ (by simp[execOp,Instr.sliceAt,h.eval k,h.eval a,g,Sl.v,Instr.slice,Instr.sliceBounds,run_sliceBound (P:=P) (w:=w) (i:=(q:Int)) (m:=s.len) O O,f,ud]);simp[execOp,Instr.sliceAt,h.eval k,h.eval a,g,Sl.v,Instr.slice,Instr.sliceBounds,run_sliceBound (P:=P) (w:=w) (i:=(q:Int)) (m:=s.len) O O,f,Sl.cut]
theorem gX.VS{a:Nat×Nat}{h:Nat->Option Obj}{s:Sl}{t:TypeId}{m:Nat}{xs:List Value}(f:gX a h s t m xs):s.len<=s.cap:=by rcases f.2.2 with⟨g,i⟩|⟨_,_,_,_,_,_,_,j,_⟩<;>omega
theorem P4{α:Type}[an α]{j m q:Nat}{s:Sl}{t:TypeId}{xs:List α}{cs:List Value}(i:L[j]?=some (.own s t m cs))(f:cs=I xs)(V:m=sz α)(hp:0<sz α)(D:xs.length+q<=s.cap)(o:xs.length+q<=2^63-1)
 (h:∀H:List Value,H.length=q*m->a9 P n w0 ops Q l e F (L.set j (.own ⟨s.a,xs.length+q,s.cap⟩ t m (I xs++H)))):a9 P n w0 ops Q l e F L:=λa hd w y k=>by
 subst f V;have B:gW (World.hp w) s t (sz α) (I xs):=k.toSt.get i;have g:=B.len hp;rcases B.2.2 with⟨g2,g3⟩|⟨b,off,pre,post,p,T,W,A,f⟩
 .have M:q=0:=by omega
  subst M;refine h [] (by simp) a hd w y ?_;have hs:(⟨s.a,xs.length+0,s.cap⟩:Sl)=s:=by cases s;simp only at g ⊢;rw[g];rfl
  rw[hs,jH,kP i,<-kQ i];exact k
 .have x:q*sz α<=post.length:=by
   have S:(xs.length+q)*sz α<=s.cap*sz α:=oh _ D;rw[mz]at S;rw[cr,d7]at f;omega
  refine h (post.take (q*sz α)) (by simp;omega) a hd w y (k.re (k.toSt.ZF i X ?_) (Jj i λb p=>p));refine⟨by rw[cr,d7,gn,iV x,<-mz],o,.inr ⟨b,off,pre,post.drop (q*sz α),p,?_,W,D,?_⟩⟩
  .rw[f9,eD];exact T
  .rw[f9,eD];exact f
theorem PT{α:Type}[an α]{x y:Operand}{t t2 el:TypeId}{j m i k:Nat}{ki:IntKind}{inf:TypeInfo}{z:Value}{s:Sl}{xs:List α}{cs:List Value}(z0:α)(hg:gd=none)(V:dst=some d)(hn:d<n.n)(hx:ev e x=some (s.cut 0 i m).v)(hy:ev e y=some (.int .i64 (k:Int)))(hu:∀w,(underlying t).run P w=.ok (.slice el) w)
 (JW:∀w,(underlying t2).run P w=.ok (.int ki) w) (hi:∀w,(typeInfo el).run P w=.ok inf w) (pm:inf.size=m) (hz:inf.zero=some z) (lD:z.cells=(enc z0).toArray) (sB:m=sz α) (hm:(m==0)=false) (mr:i+k<=2^40) (no:(decide (inf.bytes<=128))=true)
 (hL:L[j]?=some (.own s el m cs)) (kZ:cs=I xs) (h1:i<=xs.length) (EC:s.cap<i+k)
 (kk:∀s':Sl,a9 P n w0 ops Q l ((d,s'.v)::e) F (.own s' el m (I (xs.take i++List.replicate k z0))::L)):a9 P n w0 ops Q (⟨dst,.call ⟨.builtin .append,#[x,y],#[t,t2]⟩,ty,pos,aX,gd⟩::l) e F L:=
 lh hg V hn λa w h hw=>by
  subst V sB kZ;have h0:0<sz α:=by(have:¬sz α=0:=by simpa using hm);omega
  have T:inf.bytes<=128:=by simpa using no
  have hl:gW (World.hp w) s el (sz α) (I xs):=hw.get hL;have hlen:=hl.len h0;have sA:=hl.VS;have JZ:IntKind.i64.wrap (k:Int)=k:=bO O O;have B:¬((2:Int)^48<(k:Int)*(inf.bytes:Int)):=by have:k*inf.bytes<=2^40*128:=qQ O T;omega
  have xj:¬((k:Int)<0):=by omega
  simp only[Int.reducePow]at B;have hk:¬(k=0):=by omega
  have ms:¬(k*sz α=0):=by intro hh;rcases A4.1 hh with h'|h'<;>omega
  have S:(i+k)*inf.bytes<=140737488355328:=iU (qQ mr T) ab;have W:¬(281474976710656<Builtin.nextslicecap (i+k) s.cap*inf.bytes):=by have:=growslice_fits (need:=i+k) (old:=s.cap) (bytes:=inf.bytes) O S;omega
  have ni:¬(9223372036854775807<((i:Int)+(k:Int))):=by omega
  have TN:i+k<=grownCap w (i+k) s.cap el:=by unfold grownCap Question.cut;exact pt _ _
  have D:¬(i+k<=s.cap):=by omega
  have sH:z.cells.size=sz α:=by rw[lD];simp[an.len]
  have JR:∀q,(Builtin.zeroCells z.cells q).toList=I (List.replicate q z0):=λq=>by have:=yA h0 lD q;unfold Builtin.zeroCells;rw[sH]at this ⊢;rw[this]
  have p:(s.cut 0 i (sz α)).len=i:=by simp[Sl.cut]
  have M:(s.cut 0 i (sz α)).cap=s.cap:=by simp[Sl.cut]
  have A:=tx (P:=P) (w:={w with drawn:=w.drawn+1}) (hl.cut (jF i) O).drew;simp only[Nat.zero_mul,eT,qR]at A;rw[<-uc,p]at A
  have jr:(execOp a.eval ⟨some d,.call ⟨.builtin .append,#[x,y],#[t,t2]⟩,ty,pos,aX,gd⟩).run P w=.ok (.value (.slice (some ⟨w.heap.size,0,none⟩) (i+k) (grownCap w (i+k) s.cap el)))
   {w with drawn:=w.drawn+1,heap:=w.heap.push (.cells (I (xs.take i++List.replicate k z0)++(Builtin.zeroCells z.cells (grownCap w (i+k) s.cap el-(i+k))).toList).toArray el)}:=by
   have EW:Builtin.zeroCells z.cells k=(I (List.replicate k z0)).toArray:=by apply lc;rw[JR]
   simp[Sl.v,p,M]at A;simp[execOp,resolve,invoke,builtin,h.eval hx,h.eval hy,Builtin.append_,hu,JW,sizeOf,hi,pm,asInt,asIntOf,JZ,xj,B,zeroValue,hz,Sl.v,p,M,hk,ni,W,D,Builtin.lenOf,Question.forced,newRow,grownCap];rw[A];simp[ms,EW];generalize Builtin.zeroCells z.cells _=f;have sx:(I (xs.take i)).toArray++((I (List.replicate k z0)).toArray++f)=(I (xs.take i++List.replicate k z0)++f.toList).toArray:=by apply lc;simp[iG]
   have Tj:(I (xs.take i)).toArray++(I (List.replicate k z0)).toArray++f=(I (xs.take i++List.replicate k z0)++f.toList).toArray:=by apply lc;simp[iG]
   first|rfl|(rw[sx];rfl)|(rw[Tj];rfl)|simp[iG]
  have sC:=hw.drew
  refine⟨_,_,F,_,jr,?_,⟨X,X,X,by simp,λb H _=>by show(w.heap.push _)[b]?=_;rw[pC,ck O],λb H=>?_,λb o H=>.inr (.inl (by rw[H];rfl))⟩,sC.new (i:=.own ⟨some ⟨w.heap.size,0,none⟩,i+k,grownCap w (i+k) s.cap el⟩ el (sz α) (I (xs.take i++List.replicate k z0)))
   (.cells (I (xs.take i++List.replicate k z0)++(Builtin.zeroCells z.cells (grownCap w (i+k) s.cap el-(i+k))).toList).toArray el) X λg jE=>?_,kk ⟨some ⟨w.heap.size,0,none⟩,i+k,grownCap w (i+k) s.cap el⟩⟩
  .have TY:=(hl.cut (jF i) O).drew;have EO:∀b off,0<(s.cut 0 i (sz α)).len->(s.cut 0 i (sz α)).a=some ⟨b,off,none⟩->b∈cu L\/(F b).isSome=true:=λb off _ ha=>.inl (fI (eN hL) (by have:b∈(s.cut 0 i (sz α)).bH:=(by simp[Sl.bH,ha]);rw[DU]at this;exact this));have hA:=qz (P:=P) (w:={w with drawn:=w.drawn+1}) TY EO (wN (P:=P) (w:={w with drawn:=w.drawn+1}) (b:=grownCap w (i+k) s.cap el*inf.bytes) (lJ (F:=F) (L:=L) (n:=w.heap.size)));simp only[p]at hA;simp[Sl.v,p,M]at A hA;simp[execOp,resolve,invoke,builtin,h.eval hx,h.eval hy,Builtin.append_,hu,JW,sizeOf,hi,pm,asInt,asIntOf,JZ,xj,B,zeroValue,hz,Sl.v,p,M,hk,ni,W,D,Builtin.lenOf,Question.forced,newRow,grownCap,B1,A,ms]at hA ⊢;exact hA
  .rw[eQ]at H;rcases e9.1 H with H|H
   .simp[Item.bH,Sl.bH]at H;subst H;right;simp
   .exact .inl H
  refine⟨by rw[d7];simp[iV h1],by simp only;omega,.inr ⟨_,0,[],_,X,by simpa using jE,X,TN,?_⟩⟩;rw[cr,d7,JR,d7,cr,gn,ov,ov,iV h1,<-mz];exact sK (by congr 1;simp only;omega)
theorem HA{α:Type}[an α]{x y:Operand}{t t2 el:TypeId}{i m lo hi:Nat}{s S:Sl}{ys:List α}{cs:List Value}(hg:gd=none)(H:dst=some d)(hn:d<n.n)(hx:ev e x=some (s.cut lo hi m).v)(hy:ev e y=some S.v)(hu:∀w,(underlying t).run P w=.ok (.slice el) w)
 (hs:∀w,(sizeOf el).run P w=.ok m w) (hm:m=sz α) (hp:0<sz α) (hL:L[i]?=some (.own s el m cs)) (h2:∀w,St w0 F L w->∃t fr zs,gX fr (World.hp w) S t m zs/\zs.take (ys.length*m)=I ys) (hk:min (hi-lo) S.len=ys.length) (h0:lo<=hi) (h1:hi<=s.len)
 (k:a9 P n w0 ops Q l ((d,.int .i64 (ys.length:Int))::e) F (L.set i (.own s el m (cs.take (lo*m)++(I ys++cs.drop ((lo+ys.length)*m)))))):a9 P n w0 ops Q (⟨dst,.call ⟨.builtin .copy,#[x,y],#[t,t2]⟩,ty,pos,aX,gd⟩::l) e F L:=
 lh hg H hn λa w h hw=>by
  subst H hm;have hl:gW (World.hp w) s el (sz α) cs:=hw.get hL;have V:=hl.1;have qK:∀b off,0<S.len->S.a=some ⟨b,off,none⟩->b∈cu L\/(F b).isSome=true:=λb off h0 ha=>hw.touch λw' EU=>by
   obtain⟨_,_,_,g1,_⟩:=h2 w' EU;rcases g1.2.2 with⟨g2,_⟩|⟨b',off',pre,post,T,hh,_⟩
   .omega
   .rw[ha]at T;simp only[gU,Addr.mk.injEq]at T;obtain⟨rfl,_⟩:=T;exact⟨_,_,_,hh⟩
  obtain⟨Aw,D9,zs,h3,h4⟩:=h2 w hw;have AN:ys.length<=hi-lo:=by omega
  have f:=L1 (P:=P) h3 (k:=ys.length) O;have o:=Ja (P:=P) (F:=F) (L:=L) (N:=w.heap.size) (es:=#[]) h3 qK (k:=ys.length) O lJ;rw[h4]at f;have hq:min S.len (hi-lo)=ys.length:=by rw[Nat.min_comm];exact hk
  by_cases he:ys.length=0
  .have U7:ys=[]:=sR.1 he;subst U7;have UI:cs.take (lo*sz α)++(I ([]:List α)++cs.drop ((lo+([]:List α).length)*sz α))=cs:=by
    simp[sf]
   rw[UI,kP hL,<-kQ hL]at k;have A:(execOp a.eval ⟨some d,.call ⟨.builtin .copy,#[x,y],#[t,t2]⟩,ty,pos,aX,gd⟩).run P w=.ok (.value (.int .i64 ((([]:List α).length:Nat):Int))) w:=by
    have W:S.len.min (hi-lo)=0:=hq;simp[execOp,resolve,invoke,builtin,Builtin.copy_,h.eval hx,h.eval hy,hu,hs,Sl.v,Builtin.lenOf,Sl.cut,goInt];simp[Sl.v,sf]at f;rw[W,f];cases uu:s.a<;>simp[storeCells]
    split<;>simp
   refine⟨_,w,F,L,A,?_,mO _ _ _,hw,k⟩;have W:S.len.min (hi-lo)=0:=hq;simp[Sl.v,sf]at f o;simp[execOp,resolve,invoke,builtin,Builtin.copy_,h.eval hx,h.eval hy,hu,hs,Sl.v,Builtin.lenOf,Sl.cut,goInt];rw[W,f];cases uu:s.a<;>simp[storeCells]
   all_goals first|exact o|(split<;>first|exact o|simpa[storeCells]using o)
  .rcases hl.2.2 with⟨g2,_⟩|⟨b,off,pre,post,T,hh,ho,D,kZ⟩
   .omega
   .have sA:s.len<=s.cap:=D;have xb:(s.cut lo hi (sz α)).a=some ⟨b,off+lo*sz α,none⟩:=by
     rcases Au (s:=s) (lo:=lo) (hi:=hi) (m:=sz α) T with⟨_,h9⟩|h9
     .omega
     .exact h9
    have hmul:(lo+ys.length)*sz α<=s.len*sz α:=oh _ O;rw[mz]at hmul;have q:bA cs (lo*sz α) (I ys) (cs.take (lo*sz α)++(I ys++cs.drop ((lo+ys.length)*sz α))):=by
     refine⟨cs.take (lo*sz α),(cs.drop (lo*sz α)).take (ys.length*sz α),cs.drop ((lo+ys.length)*sz α),?_,?_,?_,X⟩
     .rw[mz,<-nu,eD,eD]
     .rw[gn,iV O]
     .rw[d7,gn,gM,iV O]
    have M:bA (pre++(cs++post)) (off+lo*sz α) (I ys) (pre++((cs.take (lo*sz α)++(I ys++cs.drop ((lo+ys.length)*sz α)))++post)):=bU ho (eE q);have B:=run_storeCells_at (P:=P) b (off+lo*sz α) el (I ys) 0 (pre++(cs++post)).toArray w hh (by have:=M.le;simp at this ⊢;omega) (by intro u ns;exact mD.1 (qy _) u ns);simp only[mA]at B;rw[M.eq]at B;have A:(execOp a.eval ⟨some d,.call ⟨.builtin .copy,#[x,y],#[t,t2]⟩,ty,pos,aX,gd⟩).run P w=.ok (.value (.int .i64 (ys.length:Int))) (w.setRow b (pre++((cs.take (lo*sz α)++(I ys++cs.drop ((lo+ys.length)*sz α)))++post)).toArray):=by have p:(s.cut lo hi (sz α)).len=hi-lo:=X;simp[Sl.v]at f B;simp[execOp,resolve,invoke,builtin,Builtin.copy_,h.eval hx,h.eval hy,hu,hs,Sl.v,Builtin.lenOf,xb,p,hq,goInt,f,B]
    have j:b∈(Item.own s el (sz α) cs).bH:=by simp[Item.bH,Sl.bH,T]
    refine⟨_,_,F,_,A,?_,u7 (it':=.own s el (sz α) (cs.take (lo*sz α)++(I ys++cs.drop ((lo+ys.length)*sz α)))) hL j X,hw.setRow hL j X λg jE=>?_,k⟩
    .have p:(s.cut lo hi (sz α)).len=hi-lo:=X;simp[Sl.v]at f o;simp[execOp,resolve,invoke,builtin,Builtin.copy_,h.eval hx,h.eval hy,hu,hs,Sl.v,Builtin.lenOf,xb,p,hq,goInt,f];exact Az hL j hh o
    have V:(cs.take (lo*sz α)++(I ys++cs.drop ((lo+ys.length)*sz α))).length=cs.length:=q.len;refine⟨by rw[V];exact hl.1,hl.2.1,.inr ⟨b,off,pre,post,T,jE _ _ _ hh,ho,D,?_⟩⟩;rw[cr,V,<-cr];exact kZ
theorem Zv{α:Type}[an α]{i m lo:Nat}{s:Sl}{t:TypeId}{cs:List Value}{ys:List α}{rest:List Value}(k:L[i]?=some (.own s t m cs))(h:lo<=s.len)(o:cs.drop (lo*m)=I ys++rest)(p:m=sz α):
 ∀w,St w0 F L w->∃t g zs,gX g (World.hp w) (s.cut lo s.len m) t m zs/\zs.take (ys.length*m)=I ys:=λw q=>by
 subst p;have f:gW (World.hp w) s t (sz α) cs:=q.get k;refine⟨t,_,_,f.cut h (dO _),?_⟩;have a:=f.1;have j:(cs.drop (lo*sz α)).length=(s.len-lo)*sz α:=by rw[gM,a,Nat.sub_mul]
 rw[iI (sK j),o,<-d7 ys,xt];rfl
theorem Zx{α:Type}[an α]{s:Sl}{m:Nat}{ys:List α}(g:Rd w0 F L s ys)(f:m=sz α):∀w,St w0 F L w->∃t a zs,gX a (World.hp w) s t m zs/\zs.take (ys.length*m)=I ys:=λw i=>by subst f;obtain⟨t,a,h⟩:=g w i;exact⟨t,a,_,h,by rw[<-d7 ys,List.take_length]⟩
theorem Su{i j:Nat}{x y:Item}(hi:L[i]?=some x)(g:L[j]?=some y)(a:i≠j)(k:(cu L).Nodup){b:Nat}(m:b∈x.bH):b ∉ y.bH:=by
 intro o;have e:=kQ hi;rw[e,ob,eQ]at k;have f:=uE.1 k;have p:=uE.1 f.2.1;rcases Nat.lt_or_gt_of_ne a with h|h
 .have:y∈L.drop (i+1):=by
   refine eN (i:=j-(i+1)) ?_;rw[qV,show i+1+(j-(i+1))=j by omega];exact g
  exact p.2.2 b m b (fI this o) X
 .have:y∈L.take i:=by
   refine eN (i:=j) ?_;rw[Bg,ce h];exact g
  exact f.2.2 b (fI this o) b (qY _ m) X
theorem Sq{w:World}{es:Array Event}(h tR e:TypeId)(B:P.underlying h=some (.slice e))(size:Nat)(D:∀w,(Go.sizeOf e).run P w=.ok size w)
 (a b:Addr) (j M k S:Nat) (g:a.block≠b.block) (W tB:TypeId) (H i:Nat) (s:w.shape? a.block=some (W,H)) (y:w.shape? b.block=some (tB,i)) (p:i≠0)
 (m:w.frozen? a=false) (o:w.frozen? {block:=a.block,off:=H}=false):
 (Extern.SlicesOverlaps.overlaps #[h,h] #[tR] #[.slice (some a) j M,.slice (some b) k S]).events P w es=es:=by
 have q:(a.block !=b.block)=true:=by simpa using g
 have f:(a.block==b.block)=false:=by simpa using g
 change Sem.events P (α:=Value) (do
  let some t:=(#[h,h]:Array TypeId)[0]?|stuck "slices.overlaps: no parameter types"
  let .slice elem<-underlying t|stuck "slices.overlaps: slice type expected"
  let size<-sizeOf elem
  match(some a:Option Addr),(some b:Option Addr)with
  |some a,some b=>
   if j=0\/k=0\/size=0 then pure (Value.bool false)
   else if a.block !=b.block&&(<-frozen a)&&(<-frozen b)then unsupported .addressObserved
   else do
    if a.block !=b.block then do
     noView a;noView b
     if<-mayBeOne a b then return Value.bool ((<-choose (.extern "sameAddr.stringBytes" 2))==1)
    pure (Value.bool (a.block==b.block&&a.off<b.off+k*size&&b.off<a.off+j*size))
  |_,_=>pure (Value.bool false)) w es=_
 by_cases A:j=0\/k=0\/size=0
 .simp[run_underlying B,D,A]
 .cases i with
  |zero=>exact absurd X p
  |succ i=>
   have T:∀r,(shape r).run P w=.ok (w.shape? r) w:=λr=>by simp[shape,Sem.run]
   have V:∀x,(frozen x).run P w=.ok (w.frozen? x) w:=λr=>by simp[frozen,Sem.run]
   simp[run_underlying B,D,A,q,f,noView,viewAt,mayBeOne,stringish,T,V,s,y,m,o]
theorem P7{x y:Operand}{t r el:TypeId}{m i j lo hi:Nat}{s B:Sl}{cs ds:List Value}{fn:Func}{f:FuncId}{Ip:Array TypeId}(hg:gd=none)(uk:dst=some d)(hn:d<n.n)(hx:ev e x=some B.v)(hy:ev e y=some (s.cut lo hi m).v)(hu:P.underlying t=some (.slice el))(hs:∀w,(sizeOf el).run P w=.ok m w)
 (hf:P.funcs[f]?=some fn) (M:(fn.name== "runtime.NumGoroutine")=false) (hb:fn.body.isNone=true) (mu:Extern.findNext fn=none) (he:Extern.find fn=some (Extern.SlicesOverlaps.overlaps #[t,t] #[r]))
 (hL:L[i]?=some (.own s el m cs)) (Jw:L[j]?=some (.own B el m ds)) (AL:i≠j) (h1:0<s.len) (h2:0<B.len) (hm:0<m)
 (k:a9 P n w0 ops Q l ((d,.bool false)::e) F L):a9 P n w0 ops Q (⟨dst,.call ⟨.value (.func f),#[x,y],Ip⟩,ty,pos,aX,gd⟩::l) e F L:=
 lh hg uk hn λa w h hw=>by
  subst uk;have hl:gW (World.hp w) s el m cs:=hw.get hL;have JN:gW (World.hp w) B el m ds:=hw.get Jw;rcases hl.2.2 with⟨g,_⟩|⟨b,off,pre,post,mr,hh,ho,qJ,kZ⟩
  .omega
  rcases JN.2.2 with⟨g,_⟩|⟨b2,H,S,A,no,TP,qK,acX,acY⟩
  .omega
  have mt:b2≠b:=λq=>by subst q;exact Su Jw hL (Ne.symm AL) hw.nodup (b:=b2) (by simp[Item.bH,Sl.bH,no]) (by simp[Item.bH,Sl.bH,mr])
  have D:∃o,(s.cut lo hi m).a=some ⟨b,o,none⟩:=by
   rcases Au (s:=s) (lo:=lo) (hi:=hi) (m:=m) mr with⟨h9,_⟩|h9
   .exact⟨_,h9⟩
   .exact⟨_,h9⟩
  obtain⟨o,D⟩:=D;have JM:w.heap[b]?=some (.cells (pre++(cs++post)).toArray el (0,0)):=hh;have p:w.heap[b2]?=some (.cells (S++(ds++A)).toArray el (0,0)):=TP;have pm:(pre++(cs++post)).toArray.size≠0:=by have:0<s.cap*m:=Nat.mul_pos O hm;simp only[cj,cr]at kZ ⊢;omega
  have Us:=Lib.run_overlaps_apart w t r el hu m hs ⟨b2,H,none⟩ ⟨b,o,none⟩ B.len B.cap (s.cut lo hi m).len (s.cut lo hi m).cap mt el el (S++(ds++A)).toArray.size (pre++(cs++post)).toArray.size
   (by unfold World.shape?;rw[p]) (by unfold World.shape?;rw[JM]) pm (by unfold World.frozen?;rw[p];simp) (by unfold World.frozen?;rw[p];simp)
  have jr:(execOp a.eval ⟨some d,.call ⟨.value (.func f),#[x,y],Ip⟩,ty,pos,aX,gd⟩).run P w=.ok (.value (.bool false)) w:=by
   have hc:=run_callFunc_extern (P:=P) hf M hb mu he #[B.v,(s.cut lo hi m).v] w;have AP:B.v=.slice (some ⟨b2,H,none⟩) B.len B.cap:=by unfold Sl.v;rw[no]
   have W:(s.cut lo hi m).v=.slice (some ⟨b,o,none⟩) (s.cut lo hi m).len (s.cut lo hi m).cap:=by unfold Sl.v;rw[D]
   rw[AP,W,Us]at hc;have T:=h.eval hx;have V:=h.eval hy;rw[AP]at T;rw[W]at V;simp[execOp,resolve,Deferred.ofValue,Act.eval,invoke,T,V];simp[Act.eval]at T V
   first|exact hc|(simp[T,V];exact hc)|(rw[hc];rfl)|(simp[T,V,hc];done)
  refine⟨_,w,F,L,jr,?_,mO _ _ _,hw,k⟩
  have JP:=λes=>Sq (P:=P) (w:=w) (es:=es) t r el hu m hs ⟨b2,H,none⟩ ⟨b,o,none⟩ B.len B.cap (s.cut lo hi m).len (s.cut lo hi m).cap mt el el (S++(ds++A)).toArray.size (pre++(cs++post)).toArray.size
   (by unfold World.shape?;rw[p]) (by unfold World.shape?;rw[JM]) pm (by unfold World.frozen?;rw[p];simp) (by unfold World.frozen?;rw[p];simp)
  have AP:B.v=.slice (some ⟨b2,H,none⟩) B.len B.cap:=by unfold Sl.v;rw[no]
  have W:(s.cut lo hi m).v=.slice (some ⟨b,o,none⟩) (s.cut lo hi m).len (s.cut lo hi m).cap:=by unfold Sl.v;rw[D]
  have T:=h.eval hx;have V:=h.eval hy;rw[AP]at T;rw[W]at V;simp[execOp,resolve,Deferred.ofValue,Act.eval,invoke,T,V];simp[Act.eval]at T V;rw[Jf hf M hb mu he]
  first
   |(rw[JP];exact BD)
   |(simp only[T,V];rw[JP];exact BD)
end
theorem Vk{V J A B:List Value}(g:J.length=V.length):(((A++B++J).take (A.length+V.length)++(B++(A++B++J).drop (A.length+V.length+B.length))).take A.length)++(V++(((A++B++J).take (A.length+V.length)++(B++(A++B++J).drop (A.length+V.length+B.length))).drop (A.length+V.length)))=A++V++B:=by
 have f:(A++B++J).drop (A.length+V.length+B.length)=[]:=kp (by simp;omega);have a:((A++B++J).take (A.length+V.length)).length=A.length+V.length:=by simp;omega
 rw[f,jH,Bc a,E3 (by rw[a];omega),List.take_take,iV O,f9,xt X,f9]
theorem Vl{α:Type}{xs ys:List α}{i:Nat}{z:α}(h:i<=xs.length):iP (iP (xs.take i++List.replicate (xs.length+ys.length-i) z) i (xs.take i++List.replicate (xs.length+ys.length-i) z).length ys) (i+ys.length) (iP (xs.take i++List.replicate (xs.length+ys.length-i) z) i (xs.take i++List.replicate (xs.length+ys.length-i) z).length ys).length (xs.drop i)=xs.take i++ys++xs.drop i:=by
 have m:(xs.take i++List.replicate (xs.length+ys.length-i) z).length=xs.length+ys.length:=by simp;omega
 have k:iP (xs.take i++List.replicate (xs.length+ys.length-i) z) i (xs.take i++List.replicate (xs.length+ys.length-i) z).length ys=xs.take i++(ys++List.replicate (xs.length-i) z):=by
  rw[m];unfold iP;rw[iI (show ys.length<=xs.length+ys.length-i by omega),xt (by simp;omega)];have e:i+min (xs.length+ys.length-i) ys.length=i+ys.length:=by omega
  rw[e,List.drop_append,kp (by simp;omega),uD,gn,iV h,List.drop_replicate];congr 3;omega
 rw[k];have a:(xs.take i++(ys++List.replicate (xs.length-i) z)).length=xs.length+ys.length:=by simp;omega
 rw[a];unfold iP;have f:(xs.drop i).take (xs.length+ys.length-(i+ys.length))=xs.drop i:=iI (by simp;omega);have g:i+ys.length+min (xs.length+ys.length-(i+ys.length)) (xs.drop i).length=xs.length+ys.length:=by simp;omega
 have j:(xs.take i++(ys++List.replicate (xs.length-i) z)).drop (xs.length+ys.length)=[]:=kp (by rw[a];omega);rw[f,g,j,jH,<-f9,xt (by simp;omega)]
theorem RX{α:Type}{xs ys:List α}{lo hi:Nat}(a:lo<=hi)(f:hi<=xs.length):(iP xs lo hi ys).length=xs.length:=by unfold iP;simp;omega
theorem QT{α:Type}[an α]{w0:World}{F:bk}{L:List Item}(a:0<sz α){v:Sl}{xs:List α}{lo:Nat}(h:Rd w0 F L v xs)(f:lo<=xs.length):Rd w0 F L (v.cut lo xs.length (sz α)) (xs.drop lo):=by have:=mN a h f (dO _);rwa[iI (by simp)]at this
