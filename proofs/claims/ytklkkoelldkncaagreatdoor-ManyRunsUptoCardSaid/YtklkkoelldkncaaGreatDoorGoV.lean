/-
  Walks by the library's rules between frames that are named: piece by piece; a region that draws its order up to its last operation.
-/
import Derived.Test.YtklkkoelldkncaaGreatDoorGoMQ
import Derived.OpenShut
import Derived.Deep.Slices
import Derived.Deep.DeepHandedRow
import Derived.Lay
import Derived.Conc.LeavingOf
import Derived.SevenTiedAt
import Derived.LaidSub
import Derived.Lib.LaidTab
set_option linter.unusedSimpArgs false
set_option linter.unusedVariables false
namespace Go.Proofs.YtklkkoelldkncaaGreatDoor
open Go.Conc Go.ConcN Go.RowKit
def qm(K:Way):eC
 |.normal=>K
 |_=>λ_ _ _=>False
section
variable {P:Program}{C:Co P}{n:Fm}{w0:World}{b:Frame}{k:List Go.Item}{cs:List Frame}{e:List (Nat×Value)}{F:bk}{L:List Item}
def dy(P:Program)[C:Co P](n:Fm)(w0:World)(b:Frame)(k:List Go.Item)(cs:List Frame)(e:List (Nat×Value))(F:bk)(L:List Item):Prop:=
 ∀a hd w,cG n a e->SH w0 F L hd w->C.K hd (G (b.at a k) cs) w
theorem Ns{a:Act}{hd:bG}{w:World}(h:dy P n w0 b k cs e F L)(d:cG n a e)(f:SH w0 F L hd w):C.K hd (G (b.at a k) cs) w:=h a hd w d f
theorem dy.code{c:Code}(f:b.kind≠.early)(h:Cd P n w0 (qm λa hd w=>C.K hd (G (b.at a k) cs) w) c e F L):dy P n w0 b (.code c::k) cs e F L:=
 λa hd w d g=>h a hd w d g b k cs f λx a' i w' q=>by cases x<;>first|exact q|exact q.elim
theorem dy.seq{x y:Code}(h:dy P n w0 b (.code x::.code y::k) cs e F L):dy P n w0 b (.code (.seq x y)::k) cs e F L:=λa hd w d f=>kr X (λ_=>stepG_seq) (h a hd w d f)
theorem dy.block{i:Nat}{x:Code}(h:dy P n w0 b (.code x::.inBlock i::k) cs e F L):dy P n w0 b (.code (.block i x)::k) cs e F L:=λa hd w d f=>kr X (λ_=>stepG_block) (h a hd w d f)
theorem dy.loop{x:Code}(h:dy P n w0 b (.code x::.inLoop x::k) cs e F L):dy P n w0 b (.code (.loop x)::k) cs e F L:=λa hd w d f=>kr X (λ_=>stepG_loop) (h a hd w d f)
theorem dy.inBlock{i:Nat}(h:dy P n w0 b k cs e F L):dy P n w0 b (.inBlock i::k) cs e F L:=λa hd w d f=>kr X (λ_=>stepG_inBlock) (h a hd w d f)
theorem dy.inLoop{x:Code}(h:dy P n w0 b (.code x::.inLoop x::k) cs e F L):dy P n w0 b (.inLoop x::k) cs e F L:=λa hd w d f=>kr X (λ_=>stepG_inLoop) (h a hd w d f)
theorem dy.skip(h:dy P n w0 b k cs e F L):dy P n w0 b (.code .skip::k) cs e F L:=λa hd w d f=>kr X (λ_=>stepG_skip) (h a hd w d f)
theorem dy.jp{c:Operand}{x y:Code}{t:Bool}(f:ev e c=some (.bool t))(g:t=true)(h:dy P n w0 b (.code x::k) cs e F L):dy P n w0 b (.code (.cond c x y)::k) cs e F L:=
 λa hd w d i=>kr X (λ_=>stepG_cond (t:=true) (by rw[d.eval f,g])) (h a hd w d i)
theorem dy.region{f:Nat}{l:List Oper}(d:b.kind≠.early)(h:a9 P n w0 l.toArray (qm λa hd w=>C.K hd (G (b.at a k) cs) w) l e F L):dy P n w0 b (.code (.region f l.toArray false)::k) cs e F L:=dy.code d (bB h)
theorem dy.rest{ops:Array Oper}{l:List Oper}{i:Nat}{rest:List Nat}(f:b.kind≠.early)(m:rest=List.range' i l.length)(g:∀j,l[j]?=ops[i+j]?)(h:a9 P n w0 ops (qm λa hd w=>C.K hd (G (b.at a k) cs) w) l e F L):
 dy P n w0 b (.inRegion ops rest::k) cs e F L:=λa hd w d o=>by
 subst m;exact Cw l i g (h a hd w d o) f λx a' p w' q=>by cases x<;>first|exact q|exact q.elim
theorem dy.go(h:dy P n w0 b k cs e F L):At n w0 (qm λa hd w=>C.K hd (G (b.at a k) cs) w) .normal e F L:=h
theorem abJ{e':List (Nat×Value)}{L':List Item}(g:sub e e')(d:L'.Sublist L)(h:dy P n w0 b k cs e' F L'):dy P n w0 b k cs e F L:=λa hd w f i=>h a hd w (f.sub g) (i.sublist d)
theorem GI{ops:Array Oper}(h:dy P n w0 b k cs e F L):dy P n w0 b (.inRegion ops []::k) cs e F L:=λa hd w d f=>kr X (λ_=>stepG_region_end) (h a hd w d f)
theorem GH{g:Nat}{ops:Array Oper}(h:dy P n w0 b (.inRegion ops (List.range ops.size)::k) cs e F L):dy P n w0 b (.code (.region g ops false)::k) cs e F L:=λa hd w d f=>kr X (λ_=>stepG_region) (h a hd w d f)
theorem Nr{ops:Array Oper}{i:Nat}{o:Oper}(j:b.kind≠.early)(l:ops[i]?=some o)(h:a9 P n w0 ops (qm λa hd w=>C.K hd (G (b.at a k) cs) w) [o] e F L):dy P n w0 b (.inRegion ops [i]::k) cs e F L:=λa hd w g m=>by
 have d:=h a hd w g m;unfold gv at d;have f:gr P ops i (gv P ops (qm λa hd w=>C.K hd (G (b.at a k) cs) w) []) a hd w:=by unfold gr;simp only[l];exact d
 exact f.go j λa' p w' q=>kr X (λ_=>stepG_region_end) q
theorem ng{ops:Array Oper}(h:dy P n w0 b k cs e F L):a9 P n w0 ops (qm λa hd w=>C.K hd (G (b.at a k) cs) w) [] e F L:=aC h
end
section
variable {P:Program}{C0:Co P}{ops:Array Oper}{n:Nat}{C:qk}{Lq:Array Bool->Way}{Q:eC}{b:Frame}{k:List Go.Item}{cs:List Frame}
theorem Ty{g:Nat}(o:b.kind≠.early)(m:∀s a h w,Lq s a h w->∀t,C0.K h (G (b.at a (.inRegion ops (Region.linearise.go .any ops g t s [])::k)) cs) w):
 ∀(f t:Nat)(s:Array Bool)(a:Act)(h:bG)(w:World),Hd P Q ops n Lq C f s a h w->C0.K h (G (b.at a (.inRegion ops (Region.linearise.go .any ops (f+g) t s [])::k)) cs) w:=by
 intro f
 induction f with
 |zero=>intro t s a h w j;rw[cb];exact m s a h w (j w (eg.refl _ _)) t
 |succ f A=>
  intro t s a h w j;rw[show f+1+g=(f+g)+1 by omega];simp only[Region.linearise.go]
  change C0.K h (G (b.at a (.inRegion ops (match(Region.ready .any ops s)[t%(Region.ready .any ops s).length]? with
   |some i=>Region.linearise.go .any ops (f+g) (t/(Region.ready .any ops s).length) (s.setIfInBounds i true) [i]
   |none=>[].reverse)::k)) cs) w
  cases hi:(Region.ready .any ops s)[t%(Region.ready .any ops s).length]? with
  |none=>
   exfalso;have d:Region.ready .any ops s=[]:=by
    cases y:Region.ready .any ops s with
    |nil=>rfl
    |cons x xs=>rw[y]at hi;have p:t%(x::xs).length<(x::xs).length:=uG _ (by simp);have:=Bf.1 hi;omega
   exact j.1 d
  |some i=>simp only[];rw[linearise_go_acc,List.reverse_singleton,E2];exact(j.2 i (eN hi)).2.go o λa' l w' q=>A _ _ a' l w' q.2
theorem VU{i:Nat}{s:Array Bool}(h:Region.seqB .any ops 1 i s=true)(t:Nat):Region.linearise.go .any ops 1 t s []=[i]:=by
 simp only[Region.seqB,eJ]at h;have a:Region.ready .any ops s=[i]:=by simpa using h.1
 change (match(Region.ready .any ops s)[t%(Region.ready .any ops s).length]? with
  |some i=>Region.linearise.go .any ops 0 (t/(Region.ready .any ops s).length) (s.setIfInBounds i true) [i]
  |none=>[].reverse)=[i]
 rw[a];simp[Nat.mod_one,Region.linearise.go]
end
section
variable {P:Program}{C:Co P}{n:Fm}{w0:World}{b:Frame}{k:List Go.Item}{cs:List Frame}{e:List (Nat×Value)}{F:bk}{L:List Item}
theorem dy.last{σ:Type}{i:Nat}{l:List Oper}(m:Nat)(env:σ->List (Nat×Value))(gC:σ->List Item)(d:bk->σ->Prop)(B:b.kind≠.early)(D:P.follows .mixedOrders=true)(j:l.length=m+1)(A:lW l.toArray m)(M:Region.noSelect l.toArray=true)
 (h:Region.noSelect l.toArray=true->lW l.toArray m->fM P n w0 (qm λ_ _ _=>True) l m (rW n w0 F env gC d) (λ_ _=>True) m (Array.replicate l.length false) e F L)
 (K:∀f s,cS F f->d f s->dy P n w0 b (.inRegion l.toArray [m]::k) cs (env s) f (gC s)):dy P n w0 b (.code (.region i l.toArray true)::k) cs e F L:=by
 intro a hd w y S;refine C.step X λw1 r=>?_;have q:stepG P C.main (G (b.at a (.code (.region i l.toArray true)::k)) cs) w1=.go (G (b.at a (.inRegion l.toArray (Region.schedule (P.follows .mixedOrders) l.toArray (w1.tape w1.drawn (.order b.fn i)))::k)) cs) {w1 with drawn:=w1.drawn+1} #[]:=by simp[G,stepG,stepG.exec,Frame.at,choose,Sem.run,Question.forced,Question.cut]
 refine⟨_,_,_,q,jm.drew _ _,?_⟩;rw[Dc (w:=w1) (w':={w1 with drawn:=w1.drawn+1}) X];simp only[Region.schedule,D,Bool.true_or,jX,Region.linearise];have H:=h M A (by simpa using AV l.toArray) a hd {w1 with drawn:=w1.drawn+1} y (S.rely r).drew
 have:=Ty (g:=1) (k:=k) (cs:=cs) B (λs' a' x w' p t=>by
  have o:=p.1;rw[show l.length-m=1 by omega]at o;rw[VU o];obtain⟨f,s,T,V,W,q4⟩:=p.2
  exact K f s T q4 a' x w' V W) m (w1.tape w1.drawn (.order b.fn i)) _ a hd {w1 with drawn:=w1.drawn+1} H
 simpa[j]using this
end
def nT(b off n:Nat)(es:Array Event):Prop:=∀e∈es,e.sync=false/\∃j,j<n/\e.loc=.cell ⟨b,off+j,none⟩
section
variable {P:Program}{w:World}{b off:Nat}{t':TypeId}{fr:Nat×Nat}{es:Array Event}{n:Nat}
theorem Vf{α:Type}{r:Result α}(h:nT b off n es):nT b off n (r.evThen es λ_ _ a=>a):=by cases r<;>exact h
theorem Vd{v:Value}{i:Nat}{cs:Array Value}(hi:i<n)(g:w.heap[b]?=some (.cells cs t' fr))(a:nT b off n es):nT b off n ((store ⟨b,off+i,none⟩ v).events P w es):=by
 by_cases f:v.oneCell'=true
 .rw[events_store P w es _ v _ f];split
  .split
   .exact a
   .intro x d;rcases Array.mem_push.1 d with d|rfl
    .exact a x d
    .exact⟨X,i,hi,X⟩
  .simp only[World.farStore,g];exact a
 .cases v<;>simp[Value.oneCell']at f<;>simpa[store,Sem.events,Sem.runT,-Sem.runT_eq]using a
theorem J3:∀(vs:List Value)(i:Nat){w:World}{cs:Array Value}{es:Array Event},i+vs.length<=n->w.heap[b]?=some (.cells cs t' fr)->nT b off n es->nT b off n ((storeCells ⟨b,off,none⟩ vs i).events P w es)
 |[],i,w,cs,es,_,_,f=>by simpa[Go.storeCells]using f
 |v::vs,i,w,cs,es,m,d,f=>by
  simp only[bN]at m;have g:nT b off n ((store ⟨b,off+i,none⟩ v).events P w es):=Vd O d f;simp only[Go.storeCells,Sem.events_bind,ia]
  cases a:(store ⟨b,off+i,none⟩ v).run P w with
  |halt x w'=>exact g
  |ok u w'=>
   have:∃cs',w'.heap[b]?=some (.cells cs' t' fr):=by
    by_cases j:v.oneCell'=true
    .rw[run_store P w _ v _ j]at a
     cases h:w.cell? ⟨b,off+i,none⟩with
     |some u=>
      simp only[h]at a;split at a
      .cases a
      .cases a;exact IC d
     |none=>simp only[h,World.farStore,d]at a;cases a
    .cases v<;>simp[Value.oneCell']at j<;>simp[store,Sem.run]at a
   obtain⟨cs',l⟩:=this;exact J3 vs (i+1) O l g
theorem Ve{cs:Array Value}{t:TypeId}{v:Value}(i:v.cells.toList.length<=n)(g:w.heap[b]?=some (.cells cs t' fr))(f:nT b off n es):nT b off n ((storeVar t ⟨b,off,none⟩ v).events P w es):=by
 unfold Go.storeVar;simp only[Sem.events_bind,events_sizeOf]
 cases a:(sizeOf t).run P w with
 |halt x d=>exact f
 |ok m d=>
  have:d=w:=by
   unfold sizeOf typeInfo at a;simp at a;split at a<;>simp at a
   exact a.2.symm
  subst this;simp only[Result.evThen_ok];have:=J3 (P:=P) (off:=off) v.cells.toList 0 O g f;by_cases h:v.cells.size=m
  .simpa[h]using this
  .simpa[h]using f
end
def bk.of(W:World):bk:=λb=>W.heap[b]?
theorem St.first(W:World):St W (bk.of W) [] W:=⟨Below.refl _ _,λ_ _ h=>h,λb a=>by simp[cu]at a,λi hi=>by simp at hi,by simp[cu]⟩
section
variable {P:Program}{n:Fm}{w0:World}{e:List (Nat×Value)}{F:bk}{L:List Item}{v:Value}{dst:Option Nat}{ty:TypeId}{pos:String}{aX:Array Edge}{gd:Option (Nat×Bool)}
theorem NT{x y:Operand}{t el:TypeId}{b off len cap i m:Nat}(g:ev e x=some (.slice (some ⟨b,off,none⟩) len cap))(j:ev e y=some (.int .i64 (i:Int)))(f:∀w,(underlying t).run P w=.ok (.slice el) w)
 (d:∀w,(sizeOf el).run P w=.ok m w) (hi:i<len):Ev P n w0 e F L ⟨dst,.indexAddr t x y,ty,pos,aX,gd⟩ (.pointer (some ⟨b,off+i*m,none⟩)):=λa w h l=>by
 exact cK (by simp[execOp,h.eval g,h.eval j,Instr.indexAt,asIntOf,f,d,hi,ia]) (by simp[execOp,h.eval g,h.eval j,Instr.indexAt,asIntOf,f,d,hi])
theorem zN{x:Operand}{t:TypeId}{b off:Nat}{cs:List Value}{t':TypeId}{fr:Nat×Nat}(g:ev e x=some (.pointer (some ⟨b,off,none⟩)))(d:F b=some (.cells cs.toArray t' fr))(i:∀w,(isAgg t).run P w=.ok false w)
 (j:bu cs off [v]):Ev P n w0 e F L ⟨dst,.load t x,ty,pos,aX,gd⟩ v:=λa w h l=>by
 have f:w.heap[b]?=some (.cells cs.toArray t' fr):=l.gh _ _ d;refine⟨by simp[execOp,h.eval g,Instr.loadAt,Instr.sureAddr,vB f i j],?_⟩;simp only[execOp,h.eval g,Instr.loadAt,Instr.sureAddr,Sem.events_bind,Sem.run_pure,Sem.events_pure,Result.evThen_ok];exact n8 ((qA f ks).reads (.inr (by rw[d];rfl)))
end
end Go.Proofs.YtklkkoelldkncaaGreatDoor
set_option linter.unusedSimpArgs false
set_option linter.unusedVariables false
namespace Go.Proofs.YtklkkoelldkncaaGreatDoor
open Go.Conc Go.ConcN Go.RowKit Go.Conc.Lib Go.ConcR.Gen
open Go.ConcR (KK wgBlock WgAt stA smA rd wr DC0)
section
variable {P:Program}{main:Bool}{b:Frame}{a:Act}{k:List Go.Item}{cs:List Frame}{ops:Array Oper}{i:Nat}{rest:List Nat}{o:Oper}{w:World}{v:Value}
theorem RW{cases:Array CommCase}{d:Bool}{e:CommShape}(j:ops[i]?=some o)(m:Region.wanted o (yielded ops a.tmps)=true)(h:b.kind≠.early)(l:(execOp a.eval o).run P w=.ok (.comm cases d e) w)(f:(execOp a.eval o).events P w #[]=#[]):
 stepG P main (G (b.at a (.inRegion ops (i::rest)::k)) cs) w=.comm (core (G (b.at a (.inRegion ops (i::rest)::k)) cs)) cases d e w #[]:=by
 rw[stepG_comm j m h l,Go.Conc.listed_none f];rfl
theorem aay{d:Deferred}{f:Fn}{c:Array Value}(j:ops[i]?=some o)(m:Region.wanted o (yielded ops a.tmps)=true)(h:b.kind≠.early)(l:(execOp a.eval o).run P w=.ok (.spawn d) w)(hd:d.target=.fn f c)(e:(execOp a.eval o).events P w #[]=#[]):
 stepG P main (G (b.at a (.inRegion ops (i::rest)::k)) cs) w=.spawn (G (b.at (a.put o.dst undef) (.inRegion ops rest::k)) cs) (born P d) w #[]:=by
 rw[stepG_spawn j m h l hd,Go.Conc.listed_none e]
theorem Z2:Conc.served (core (G (b.at a (.inRegion ops (i::rest)::k)) cs)) v=G (b.at (a.put ((ops[i]?).bind (·.dst)) v) (.inRegion ops rest::k)) cs:=by rw[core_G];show G (Frame.finish (b.at a (.inRegion ops (i::rest)::k)) v) cs=_;rw[Frame.finish_at]
end
namespace cy
section
variable {p:cy}{S:Goroutine->World->Prop}{n:Nat}{g g':Goroutine}{b:Frame}{a:Act}{k:List Go.Item}{cs:List Frame}{ops:Array Oper}{i:Nat}{rest:List Nat}{o:Oper}
def GB(p:cy)(S:Goroutine->World->Prop)(n:Nat)(g:Goroutine):Prop:=∀w,p.Base w->Goes p.P true p.RL p.D0 S n g w
theorem GB.pure(d:∀w,p.D0 w w #[])(f:g.status=.running)(e:∀w,stepG p.P true g w=.go g' w #[])(k:p.GB S n g'):p.GB S (n+1) g:=λw h=>.step f λw1 r=>by rw[e];exact⟨d _,k w1 (r.2 h)⟩
theorem GB.stop(h:∀w,p.Base w->S g w):p.GB S n g:=λw d=>Goes.stop λw1 r=>h w1 (r.2 d)
theorem GB.ld(m:ops[i]?=some o)(f:Region.wanted o (yielded ops a.tmps)=true)(l:b.kind≠.early)(v:Value)(q:∀w,p.Base w->(execOp a.eval o).run p.P w=.ok (.value v) w)
 (j:∀w,p.Base w->∀e∈(execOp a.eval o).events p.P w #[],e.sync=false/\e.write=false/\∃b,gH e.loc=some b/\p.Fz b)
 (h:p.GB S n (G (b.at (a.put o.dst v) (.inRegion ops rest::k)) cs)):p.GB S (n+1) (G (b.at a (.inRegion ops (i::rest)::k)) cs):=λw d=>.step X λw1 r=>by
 rw[stepG_value m f l (q _ (r.2 d))];exact⟨⟨X,λe s=>.inr (j _ (r.2 d) e (mem_seen s))⟩,h _ (r.2 d)⟩
theorem GB.op(q:∀w,p.D0 w w #[])(s:ops[i]?=some o)(j:Region.wanted o (yielded ops a.tmps)=true)(m:b.kind≠.early)(l:∀w,p.Base w->(execOp a.eval o).events p.P w #[]=#[])
 (h:∀w,p.Base w->∀K:Value->Prop,(∀v,p.GB S n (G (b.at (a.put o.dst v) (.inRegion ops rest::k)) cs)->K v)->zc K w ((execOp a.eval o).run p.P w)):
 p.GB S (n+1) (G (b.at a (.inRegion ops (i::rest)::k)) cs):=λw f=>.step X λw1 r=>by
 have d:=h w1 (r.2 f) (λv=>p.GB S n (G (b.at (a.put o.dst v) (.inRegion ops rest::k)) cs)) λv x=>x;generalize t:(execOp a.eval o).run p.P w1=res at d
 cases res with
 |halt x w2=>exact d.elim
 |ok v w2=>
  cases v<;>first|exact d.elim|skip
  rename_i v;obtain⟨e,d⟩:=d;subst e;rw[stepG_value s j m t,YtklkkoelldkncaaGreatDoor.listed_none (l _ (r.2 f))];exact⟨q _,d _ (r.2 f)⟩
theorem GB.jp(e:∀w,p.D0 w w #[]){c:Operand}{x y:Code}(d:a.eval c=.bool true)(h:p.GB S n (G (b.at a (.code x::k)) cs)):p.GB S (n+1) (G (b.at a (.code (.cond c x y)::k)) cs):=.pure e X (λ_=>stepG_cond d) h
theorem GB.gz(e:∀w,p.D0 w w #[]){c:Operand}{x y:Code}(d:a.eval c=.bool false)(h:p.GB S n (G (b.at a (.code y::k)) cs)):p.GB S (n+1) (G (b.at a (.code (.cond c x y)::k)) cs):=.pure e X (λ_=>stepG_cond d) h
end
theorem Sn{α:Type}{r:Result α}{es:Array Event}:(r.evThen es λ_ _ d=>d)=es:=by cases r<;>rfl
theorem GB.Fk{p:cy}{S:Goroutine->World->Prop}{n:Nat}{b:Frame}{a:Act}{k:List Go.Item}{cs:List Frame}{ops:Array Oper}{i:Nat}{rest:List Nat}{d:Nat}{t t':TypeId}{x:Operand}{ty:TypeId}{pos:String}{aX:Array Edge}{c:Nat}{v:Value}(F:ops[i]?=some ⟨some d,.load t x,ty,pos,aX,none⟩)(D:b.kind≠.early)(B:a.eval x=.pointer (some ⟨c,0,none⟩))(C:p.fW.heap[c]?=some (.cells [v].toArray t' (0,0)))(A:p.Fz c)
 (y:∀w,(isAgg t).run p.P w=.ok false w) (h:p.GB S n (G (b.at (a.put (some d) v) (.inRegion ops rest::k)) cs)):p.GB S (n+1) (G (b.at a (.inRegion ops (i::rest)::k)) cs):=by
 have l:∀w,p.Base w->w.heap[c]?=some (.cells [v].toArray t' (0,0)):=λw l=>(l.block c A).trans C;refine GB.ld F X D v (λw m=>by simp[execOp,B,Instr.loadAt,Instr.sureAddr,vB (l w m) y (iM _)]) (λw m e q=>?_) h;simp only[execOp,B,Instr.loadAt,Instr.sureAddr,Sem.events_bind,Sem.run_pure,Sem.events_pure,Result.evThen_ok]at q;have f:w.cell? ⟨c,0,none⟩=some v:=by rw[wK (l w m)];rfl
 have j:e∈(loadVar t ⟨c,0,none⟩).events p.P w #[]:=by rw[Sn]at q;exact q
 have s:(loadVar t ⟨c,0,none⟩).events p.P w #[]=#[⟨.cell ⟨c,0,none⟩,false,false⟩]:=by unfold loadVar;simp[Sem.events_bind,events_isAgg,y,events_load,f]
 rw[s]at j;simp only[uC,fB,qO,qS]at j;subst j;exact⟨X,X,c,X,A⟩
end cy
end Go.Proofs.YtklkkoelldkncaaGreatDoor
namespace Go.Proofs.YtklkkoelldkncaaGreatDoor
open Go.Conc Go.ConcN Go.RowKit
open Go.ConcR (stA)
def Lone(P:Program)(E:Event->Prop)(S:Goroutine->World->Prop)(g:Goroutine)(w:World):Prop:=∃n,Goes P true Eq (DE E) S n g w
section
variable {P:Program}{E:Event->Prop}{S:Goroutine->World->Prop}{g:Goroutine}{w:World}
theorem Lone.stop(h:S g w):Lone P E S g w:=⟨0,λ_ e=>e▸h⟩
theorem Lone.step{g':Goroutine}{w':World}{es:Array Event}(j:g.status=.running)(h:stepG P true g w=.go g' w' es)(f:∀e∈es,E e)(k:Lone P E S g' w'):Lone P E S g w:=by obtain⟨n,k⟩:=k;exact⟨n+1,.step j λ_ e=>by subst e;rw[h];exact⟨f,k⟩⟩
theorem Lone.pure{g':Goroutine}(j:g.status=.running)(h:stepG P true g w=.go g' w #[])(k:Lone P E S g' w):Lone P E S g w:=.step j h (λe f=>by simp at f) k
variable {n:Fm}{b:Frame}{k:List Go.Item}{cs:List Frame}{e:List (Nat×Value)}{a:Act}{ops:Array Oper}{i:Nat}{rest:List Nat}{o:Oper}{d:Nat}{v:Value}{w':World}
theorem Lone.val(q:ops[i]?=some o)(j:b.kind≠.early)(m:o.guard=none)(hd:o.dst=some d)(p:d<n.n)(f:cG n a e)(s:(execOp a.eval o).run P w=.ok (.value v) w')(l:∀x∈(execOp a.eval o).events P w #[],E x)
 (h:∀a',cG n a' ((d,v)::e)->Lone P E S (G (b.at a' (.inRegion ops rest::k)) cs) w'):Lone P E S (G (b.at a (.inRegion ops (i::rest)::k)) cs) w:=
 .step X (stepG_value q (by simp[Region.wanted,m]) j s) (λx t=>l x (mem_listed t)) (by rw[hd];exact h _ (f.put p v))
theorem Lone.unit(m:ops[i]?=some o)(f:b.kind≠.early)(l:o.guard=none)(hd:o.dst=none)(s:cG n a e)(p:(execOp a.eval o).run P w=.ok .skip w')(j:∀x∈(execOp a.eval o).events P w #[],E x)
 (h:Lone P E S (G (b.at a (.inRegion ops rest::k)) cs) w'):Lone P E S (G (b.at a (.inRegion ops (i::rest)::k)) cs) w:=
 .step X (stepG_none m (by simp[Region.wanted,l]) f p) (λx q=>j x (mem_listed q)) (by rw[hd];exact h)
theorem H6(w:World):St w (λ_=>none) [] w:=⟨Below.refl _ _,λ_ _ h=>(nomatch h),λb f=>by simp[cu]at f,λi hi=>by simp at hi,by simp[cu]⟩
theorem Lone.jk(y:ops[i]?=some o)(p:∀x,rN x->E x)(q:b.kind≠.early)(s:o.guard=none)(hd:o.dst=some d)(t:d<n.n)(j:cG n a e)(A:Ev P n w e (λ_=>none) [] o v)
 (h:∀a',cG n a' ((d,v)::e)->Lone P E S (G (b.at a' (.inRegion ops rest::k)) cs) w):Lone P E S (G (b.at a (.inRegion ops (i::rest)::k)) cs) w:=by
 obtain⟨l,m⟩:=A a w j (H6 w);refine .val y q s hd t j l (λx B=>?_) h;rcases m x B with h|⟨_,b,_,f⟩
 .exact p x h
 .rcases f with f|⟨_,f⟩
  .simp[cu]at f
  .cases f
theorem Lone.B0{j:Nat}{f:Bool}{t:Nat}{c:Bool}(F:ops[i]?=some o)(s:∀x,rN x->E x)(y:b.kind≠.early)(B:o.guard=some (j,f))(C:(ops[j]?).bind (·.dst)=some t)(H:look e t=some (.bool c))(A:c=f)(hd:o.dst=some d)(D:d<n.n)(m:cG n a e)(K:Ev P n w e (λ_=>none) [] o v)
 (h:∀a',cG n a' ((d,v)::e)->Lone P E S (G (b.at a' (.inRegion ops rest::k)) cs) w):Lone P E S (G (b.at a (.inRegion ops (i::rest)::k)) cs) w:=by
 obtain⟨p,q⟩:=K a w m (H6 w);refine .step X (stepG_value F (by rw[rD m B C H,A];simp) y p) (λx L=>?_) (by rw[hd];exact h _ (m.put D v));rcases q x (mem_listed L)with h|⟨_,b,_,l⟩
 .exact s x h
 .rcases l with l|⟨_,l⟩
  .simp[cu]at l
  .cases l
theorem Lone.LY{j:Nat}{f:Bool}{t:Nat}{c:Bool}(x:ops[i]?=some o)(p:o.guard=some (j,f))(q:(ops[j]?).bind (·.dst)=some t)(y:look e t=some (.bool c))(m:(c==f)=false)(hd:o.dst=some d)(s:d<n.n)(l:cG n a e)
 (h:∀a',cG n a' ((d,undef)::e)->Lone P E S (G (b.at a' (.inRegion ops rest::k)) cs) w):Lone P E S (G (b.at a (.inRegion ops (i::rest)::k)) cs) w:=
 .pure X (stepG_unwanted x (by rw[rD l p q y,m])) (by rw[hd];exact h _ (l.put s undef))
theorem J2{α:Type}{B:Nat}{wr:Bool}{es:Array Event}{r:Result α}(h:eF B wr es):eF B wr (r.evThen es λ_ _ f=>f):=by cases r<;>exact h
theorem Lone.box{t:TypeId}{x:Operand}{cs':List Value}(A:ops[i]?=some o)(j:o.op=.box t x)(p:b.kind≠.early)(s:o.guard=none)(hd:o.dst=some d)(y:d<n.n)(f:cG n a e)(m:ev e x=some v)(q:v.cells=cs'.toArray)
 (h:∀a',cG n a' ((d,.pointer (some ⟨w.heap.size,0,none⟩))::e)->Lone P E S (G (b.at a' (.inRegion ops rest::k)) cs) (w.alloc (.cells cs'.toArray t))):Lone P E S (G (b.at a (.inRegion ops (i::rest)::k)) cs) w:=by
 obtain⟨dst,op,ty,pos,aX,gd⟩:=o;subst j;exact .val A p s hd y f (by rw[<-q];simp[execOp,Instr.box,f.eval m,newVar,newRow]) (λx l=>by simp[execOp,Instr.box,f.eval m,newVar,newRow]at l) h
theorem Lone.alloc{t:TypeId}{z:Value}{cs':List Value}(A:ops[i]?=some o)(f:o.op=.alloc t)(p:b.kind≠.early)(s:o.guard=none)(hd:o.dst=some d)(y:d<n.n)(m:cG n a e)(l:∀w,(zeroValue t).run P w=.ok z w)(q:z.cells=cs'.toArray)
 (h:∀a',cG n a' ((d,.pointer (some ⟨w.heap.size,0,none⟩))::e)->Lone P E S (G (b.at a' (.inRegion ops rest::k)) cs) (w.alloc (.cells cs'.toArray t))):Lone P E S (G (b.at a (.inRegion ops (i::rest)::k)) cs) w:=by
 obtain⟨dst,op,ty,pos,aX,gd⟩:=o;subst f;exact .val A p s hd y m (by rw[<-q];simp[execOp,Instr.alloc,l,newVar,newRow]) (λx j=>by simp[execOp,Instr.alloc,l,newVar,newRow]at j) h
theorem Z6(w:World)(cs cs':Array Value)(t:TypeId):(w.alloc (.cells cs t)).setRow w.heap.size cs'=w.alloc (.cells cs' t):=by
 unfold World.setRow World.alloc;congr 1;apply AX;intro j;simp only[pA,pC];by_cases h:w.heap.size=j
 .subst h;simp
 .have f:¬j=w.heap.size:=λe=>h e.symm;simp[h,f]
theorem Lone.store{t t':TypeId}{x y:Operand}{c:Value}{B:Nat}(L:ops[i]?=some o)(l:o.op=.store t x y)(F:b.kind≠.early)(K:o.guard=none)(hd:o.dst=none)(j:cG n a e)(m:ev e x=some (.pointer (some ⟨B,0,none⟩)))(A:B=w.heap.size)(p:ev e y=some v)(Q:v.cells=#[v])(q:pS v=true)(M:∀w,(sizeOf t).run P w=.ok 1 w)
 (D:∀x:Event,x.sync=false->gH x.loc=some B->E x) (C:∀x,rN x->E x) (h:Lone P E S (G (b.at a (.inRegion ops rest::k)) cs) (w.alloc (.cells #[v] t'))):Lone P E S (G (b.at a (.inRegion ops (i::rest)::k)) cs) (w.alloc (.cells #[c] t')):=by
 obtain⟨dst,op,ty,pos,aX,gd⟩:=o;subst l A;have f:(w.alloc (.cells #[c] t')).heap[w.heap.size]?=some (.cells [c].toArray t' (0,0)):=heap_alloc_new w _;refine .unit (w':=w.alloc (.cells #[v] t')) L F K hd j ?_ (λe H=>?_) h
 .have:=B2 (P:=P) f M (v:=v) (vs:=[v]) (by rw[Q]) X (cm X) (by simp[q]);rw[Z6]at this;simp[execOp,j.eval m,j.eval p,Instr.storeAt,Instr.sureAddr,this]
 .have:eF w.heap.size true ((execOp a.eval ⟨dst,.store t x y,ty,pos,aX,gd⟩).events P (w.alloc (.cells #[c] t')) #[]):=by
   have s:=D1 (P:=P) (off:=0) (t:=t) (v:=v) f ks;simp only[execOp,j.eval m,j.eval p,Instr.storeAt,Instr.sureAddr,Sem.events_bind,Sem.run_pure,Sem.events_pure,Result.evThen_ok];exact J2 s
  exact(this e H).elim (C e) λh=>D e h.1 h.2.1
theorem Lone.load{t t':TypeId}{x:Operand}{B:Nat}{c:Value}(H:ops[i]?=some o)(l:o.op=.load t x)(A:b.kind≠.early)(D:o.guard=none)(hd:o.dst=some d)(F:d<n.n)(f:cG n a e)(p:ev e x=some (.pointer (some ⟨B,0,none⟩)))(m:w.heap[B]?=some (.cells [c].toArray t' (0,0)))(j:∀w,(isAgg t).run P w=.ok false w)
 (y:∀x:Event,x.sync=false->gH x.loc=some B->E x) (s:∀x,rN x->E x)
 (h:∀a',cG n a' ((d,c)::e)->Lone P E S (G (b.at a' (.inRegion ops rest::k)) cs) w):Lone P E S (G (b.at a (.inRegion ops (i::rest)::k)) cs) w:=by
 obtain⟨dst,op,ty,pos,aX,gd⟩:=o;subst l;refine .val H A D hd F f (v:=c) (w':=w) ?_ (λe C=>?_) h
 .simp[execOp,f.eval p,Instr.loadAt,Instr.sureAddr,vB m j (iM [c])]
 .have:eF B false ((execOp a.eval ⟨dst,.load t x,ty,pos,aX,gd⟩).events P w #[]):=by
   have q:=qA (P:=P) (off:=0) (t:=t) (wr:=false) m ks;simp only[execOp,f.eval p,Instr.loadAt,Instr.sureAddr,Sem.events_bind,Sem.run_pure,Sem.events_pure,Result.evThen_ok];exact J2 q
  exact(this e C).elim (s e) λh=>y e h.1 h.2.1
theorem N0{x:Operand}{t el:TypeId}{f:Array TypeId}{ad:Option Addr}{len cap:Nat}{w0:World}{F:bk}{L:List Item}{dst:Option Nat}{ty:TypeId}{pos:String}{aX:Array Edge}{gd:Option (Nat×Bool)}(m:YtklkkoelldkncaaGreatDoor.ev e x=some (.slice ad len cap))(j:f[0]?=some t)(l:∀w,(underlying t).run P w=.ok (.slice el) w):Ev P n w0 e F L ⟨dst,.call ⟨.builtin .len,#[x],f⟩,ty,pos,aX,gd⟩ (.int .i64 len):=λa w h p=>by refine cK ?_ (by simp[execOp,resolve,invoke,builtin,Builtin.len_,j,h.eval m,l]);simp[execOp,resolve,invoke,builtin,Builtin.len_,j,h.eval m,l,goInt]
theorem Lone.make{t el:TypeId}{x:Operand}{inf:TypeInfo}{z:Value}{m:Nat}(H:ops[i]?=some o)(j:o.op=.makeSlice t x x)(B:b.kind≠.early)(C:o.guard=none)(hd:o.dst=some d)(F:d<n.n)(f:cG n a e)(q:YtklkkoelldkncaaGreatDoor.ev e x=some (.int .i64 (m:Int)))(p:P.underlying t=some (.slice el))(hi:P.info? el=some inf)(s:inf.zero=some z)
 (y:inf.bytes<=128) (A:m<=1048576)
 (h:∀a',cG n a' ((d,.slice (some ⟨w.heap.size,0,none⟩) m m)::e)->Lone P E S (G (b.at a' (.inRegion ops rest::k)) cs) (w.alloc (.cells (madeCells z.cells (m*inf.size)) el))):Lone P E S (G (b.at a (.inRegion ops (i::rest)::k)) cs) w:=by
 obtain⟨dst,op,ty,pos,aX,gd⟩:=o;subst j;have L:m*inf.bytes<=1048576*128:=qQ A y;have D:(inf.bytes:Int)*(m:Int)<=134217728:=by rw[Int.mul_comm];omega
 have r:=run_make (P:=P) w t el inf z p hi s .i64 .i64 m m O O O O;have K:=events_make (P:=P) w t el inf z p hi s .i64 .i64 m m O O O O (by simp;omega) #[];refine .val H B C hd F f (v:=.slice (some ⟨w.heap.size,0,none⟩) m m) ?_ (λx l=>?_) h
 .simp[execOp,f.eval q,r]
 .simp[execOp,f.eval q,K]at l
theorem Lone.chan{t el:TypeId}{f:ChanDir}{inf:TypeInfo}(A:ops[i]?=some o)(j:o.op=.makeChan t (.const (.int .i64 0)))(q:b.kind≠.early)(s:o.guard=none)(hd:o.dst=some d)(y:d<n.n)(p:cG n a e)(m:P.underlying t=some (.chan f el))(hi:P.info? el=some inf)
 (h:∀a',cG n a' ((d,.chan (some w.heap.size))::e)->Lone P E S (G (b.at a' (.inRegion ops rest::k)) cs) (w.alloc (.chan 0 #[] false 0 0 false))):Lone P E S (G (b.at a (.inRegion ops (i::rest)::k)) cs) w:=by
 obtain⟨dst,op,ty,pos,aX,gd⟩:=o;subst j;have r:(Instr.makeChan t (.int .i64 0)).run P w=.ok (.chan (some w.heap.size)) (w.alloc (.chan 0 #[] false 0 0 false)):=run_makeChan (P:=P) (w:=w) m hi .i64 0 O O;have B:(Instr.makeChan t (.int .i64 0)).events P w #[]=#[]:=events_makeChan (P:=P) (w:=w) m hi .i64 0 O O #[];refine .val A q s hd y p (v:=.chan (some w.heap.size)) ?_ (λx l=>?_) h
 .simp[execOp,Act.eval,r]
 .simp[execOp,Act.eval,B]at l
theorem Lone.call{f:FuncId}{fn:Func}{c:Code}{xs:List Operand}{vs:List Value}{l:Array TypeId}{dst:Option Nat}{ty:TypeId}{pos:String}{aX:Array Edge}(y:ops[i]?=some ⟨dst,.call ⟨.value (.func f),xs.toArray,l⟩,ty,pos,aX,none⟩)(s:b.kind≠.early)(q:cG n a e)(A:evs e xs vs)(t:P.funcs[f]?=some fn)(m:fn.body=some c)
 (j:∀(args:Array Value)(w:World),(callFunc f args).run P w=.ok (.enter f args) w)
 (h:Lone P E S (G (Frame.enter P f vs.toArray .normal) (b.at a (.inRegion ops (i::rest)::k)::cs)) w):Lone P E S (G (b.at a (.inRegion ops (i::rest)::k)) cs) w:=
 .step X (stepG_enter y X s (FZ q A j)) (λx p=>by
  have:=mem_listed p;rw[show(execOp a.eval ⟨dst,.call ⟨.value (.func f),xs.toArray,l⟩,ty,pos,aX,none⟩).events P w #[]=#[]from D2 t m]at this
  simp at this) h
end
section
variable {P:Program}{S:bG->Goroutine->World->Prop}
theorem KJ:∀(T:Tr)(h:bG)(g:Goroutine)(w:World)(t:Trace),Own P true S T h g w->
 ∃k m g' w' u,runNT P k (solo g w) t=(.next (solo g' w'),t++u)/\S m g' w'/\∀op∈u,op.g=0/\∃e p n,ja p n e/\op.act=.ofEvent e
 |.leaf,h,g,w,t,l=>⟨0,h,g,w,#[],by simp[runNT],l w (eg.refl _ _),by intro op j;simp at j⟩
 |.mk f,h,g,w,t,l=>by
  obtain⟨g',w',es,p,y,A⟩:=l.2 w (eg.refl _ _);obtain⟨k,m,x,w2,u,r,s,q⟩:=KJ (f w) _ _ _ (t++MemOp.ofEvents 0 g.frame.fn g.frame.place es) A;refine⟨k+1,m,x,w2,MemOp.ofEvents 0 g.frame.fn g.frame.place es++u,?_,s,λop j=>?_⟩
  .rw[runNT_succ_next ((stepT_solo l.1).trans (runT_solo_go p)),r,Array.append_assoc]
  .rcases AY.1 j with j|j
   .rw[ofEvents_eq]at j;obtain⟨e,B,rfl⟩:=pp.1 j;exact⟨X,e,_,_,y.ev e B,X⟩
   .exact q op j
theorem Wm{said:Bool}{t:Trace}(h:∀op∈t,op.g=0):¬Race said t:=by have:=noRace_append (u:=t) (noRace_nil said) h (λi a f=>by simp[touchAt,Trace.act?]at f);simpa using this
def Ends(P:Program)(Post:Value->World->Prop)(_:bG)(g:Goroutine)(w:World):Prop:=g.status=.running/\∃v es,stepG P true g w=.ended (.done v) w es/\Post v w
theorem SC{Post:Value->World->Prop}{h:bG}{g:Goroutine}{w:World}{t:Trace}(C:∀op∈t,op.g=0)(p:iO P true (Ends P Post) h g w):
 ∃N last o w' t',runNT P (N+1) (solo g w) t=(.ended o w',t')/\runN P N (solo g w)=.next last/\step P last=.ended o w'/\Conc.Good P Post last o w' t':=by
 obtain⟨T,p⟩:=p;obtain⟨k,D,g',w',u,r,⟨B,v,es,y,hp⟩,q⟩:=KJ T h g w t p;have m:stepT P (solo g' w')=(.ended (.done v) w',MemOp.ofEvents 0 g'.frame.fn g'.frame.place es):=
  (stepT_solo B).trans (by simp[runT,solo,Array.swapAt!,Array.swapAt,y,GStep.es])
 have j:∀op∈(t++u)++MemOp.ofEvents 0 g'.frame.fn g'.frame.place es,op.g=0:=λop f=>by
  rcases AY.1 f with f|f
  .rcases AY.1 f with f|f
   .exact C op f
   .exact(q op f).1
  .rw[ofEvents_eq]at f;obtain⟨e,_,rfl⟩:=pp.1 f;rfl
 refine⟨k,solo g' w',.done v,w',(t++u)++MemOp.ofEvents 0 g'.frame.fn g'.frame.place es,?_,?_,?_,v,X,hp,λsaid=>Wm j,λi g l s _=>absurd ?_ s,⟨λg l=>?_,X⟩,λi g l hi=>?_⟩
 .rw[runNT_add,r];simp[runNT,m]
 .rw[<-runNT_fst P _ _ t,r]
 .have:=congrArg Prod.fst m;simpa[step]using this
 .unfold Trace.g? at l;obtain⟨op,A,rfl⟩:=pw.1 l;exact j op (my A)
 .simp[solo]at l
 .obtain⟨x,_⟩:=gV.1 l;simp[solo]at x;exact absurd x hi
end
end Go.Proofs.YtklkkoelldkncaaGreatDoor
namespace Go.Proofs.YtklkkoelldkncaaGreatDoor
open Go.RowKit Go.ChangeShapes Go.WideShapes Go.ChangeAt an
def Ext(w w':World):Prop:=Below w.heap.size w w'
namespace Ext
theorem refl(w:World):Ext w w:=Below.refl _ _
theorem trans{a b c:World}(h:Ext a b)(k:Ext b c):Ext a c:=Below.trans h (Below.mono k h.size)
theorem alloc{a w:World}(h:Ext a w)(o:Obj):Ext a (w.alloc o):=Below.alloc h h.size o
theorem drew{a w:World}(h:Ext a w):Ext a w.drew:=Below.drew h
theorem setCell{a w:World}(h:Ext a w){p:Addr}(hp:a.heap.size<=p.block)(u:Value):Ext a (w.setCell p u):=Below.setCell h hp u
theorem all{w w':World}(h:Ext w w'):(∀b o,b<w.heap.size->w'.cell? ⟨b,o,none⟩=w.cell? ⟨b,o,none⟩)/\(∀b o,b<w.heap.size->w'.frozen? ⟨b,o,none⟩=w.frozen? ⟨b,o,none⟩)/\w.heap.size<=w'.heap.size:=
 ⟨λb o a=>Below.cell (p:=⟨b,o,none⟩) h a,λb o a=>Below.frozen (p:=⟨b,o,none⟩) h a,h.size⟩
theorem size{w w':World}(h:Ext w w'):w.heap.size<=w'.heap.size:=Below.size h
theorem cell{w w':World}(h:Ext w w'){p:Addr}{v:Value}(a:w.cell? p=some v):w'.cell? p=some v:=(Below.cell h (block_lt_of_cell a)).trans a
end Ext
theorem Tk{n:Int}(h:IntKind.i64.has n):-9223372036854775808<=n/\n<=9223372036854775807:=by simpa[IntKind.has,IntKind.min,IntKind.max,IntKind.signed,IntKind.bits]using h
theorem Tn{n:Int}(h:IntKind.u8.has n):0<=n/\n<=255:=by simpa[IntKind.has,IntKind.min,IntKind.max,IntKind.signed,IntKind.bits]using h
theorem Tm{n:Int}(h:IntKind.u16.has n):0<=n/\n<=65535:=by simpa[IntKind.has,IntKind.min,IntKind.max,IntKind.signed,IntKind.bits]using h
theorem DN{P:Program}{w:World}{r:Reach}{b:Nat}{t:TypeId}{k:IntKind}{v:Value}(a:P.underlying t=some (.int k))(h:Cell.okWide P w r b t v):∃n,v=.int k n/\k.has n:=by
 simp only[Cell.okWide,Cell.ok,a]at h;cases v<;>simp at h
 obtain⟨rfl,h⟩:=h;exact⟨_,X,h⟩
theorem RM{P:Program}{w:World}{r:Reach}{b:Nat}{t:TypeId}{v:Value}(a:P.underlying t=some .bool)(h:Cell.okWide P w r b t v):∃x,v=.bool x:=by
 simp only[Cell.okWide,Cell.ok,a]at h;cases v<;>simp at h
 exact⟨_,X⟩
theorem Ws{P:Program}{w:World}{r:Reach}{b:Nat}{t:TypeId}{v:Value}{d:TypeDesc}(l:P.underlying t=some d)(hd:(match d with|.struct _|.array _ _=>true|_=>false)=true)
 {ts:List TypeId} (aB:P.cellTypes P.depth t=some ts) {N:Nat} (j:P.cellsOf t=N) (h:Value.okWide P w r b t v):
 ∃cs,v=.agg cs/\cs.size=N/\∀i u,cs[i]?=some u->∃t',ts[i%ts.length]?=some t'/\Cell.okWide P w r b t' u:=by
 have g:∃cs,v=.agg cs/\cs.size=P.cellsOf t/\Row.okWide P w r b t cs:=by cases d<;>simp at hd<;>simpa only[Value.okWide,l]using h
 obtain⟨cs,rfl,a,f,e,_,k⟩:=g;obtain rfl:ts=f:=dF (aB.symm.trans e);exact⟨cs,X,a.trans j,k⟩
theorem ME{H:Type}{enc:TypeId×Value->H}{P:Program}(n:laidOutB P=true){W l:World}(m:Ext W l):∀{ts:List TypeId}{vs:List Value}{e:List (DataW H)}{ps:List MemPlace},
 (∀t∈ts,P.readableRec t=true/\t<P.types.size)->DataW.TrodAll enc P W 0 (λ_=>true) true ts vs e ps->(∀x∈ps,x.block<W.heap.size)->
 DataW.TrodAll enc P l 0 (λb=>decide (b<W.heap.size)) true ts vs e ps
 |[],vs,e,ps,_,h,_=>by obtain⟨rfl,rfl,rfl⟩:=trodAll_nil h;exact trodAll_mk0
 |t::ts,vs,e,ps,i,h,a=>by obtain⟨v,A,d,o,p,q,rfl,rfl,rfl,s,y⟩:=trodAll_cons h;have f:=Below.trod n (i t (by simp)).1 (i t (by simp)).2 s m (λx k=>a x (by simp[k]));have g:=ME n m (λt' j=>i t' (by simp[j])) y (λx k=>a x (by simp[k]));exact trodAll_cons_mk f g
theorem MF{H:Type}{enc:TypeId×Value->H}{P:Program}{W:World}:∀{ts:List TypeId}{vs:List Value}{a:List (DataW H)}{ps:List MemPlace},
 DataW.TrodAll enc P W 0 (λ_=>true) true ts vs a ps->a.length=ts.length
 |[],vs,a,ps,h=>by obtain⟨_,rfl,_⟩:=trodAll_nil h;rfl
 |t::ts,vs,a,ps,h=>by obtain⟨v,g,d,e,i,j,_,rfl,_,_,f⟩:=trodAll_cons h;simp[MF f]
def ku(P:Program)(w:World)(r:Reach)(b:Nat)(ts:List TypeId)(α:Type)[an α][cq α]:Prop:=
 ∀cs:List Value,cs.length=ts.length->(∀(i:Nat)(t:TypeId)(v:Value),ts[i]?=some t->cs[i]?=some v->Cell.okWide P w r b t v)->∃x:α,cs=enc x/\cq.ok x
section
variable {P:Program}{w:World}{r:Reach}{b:Nat}
theorem BF{cs:List Value}(h:cs.length=1):∃v,cs=[v]:=by
 match cs,h with
 |[v],_=>exact⟨v,X⟩
theorem ku.int{t:TypeId}(f:P.underlying t=some (.int .i64)):ku P w r b [t] Int:=λcs d a=>by obtain⟨v,rfl⟩:=BF d;obtain⟨n,rfl,e⟩:=DN f (a 0 t v X X);exact⟨n,X,Tk e⟩
theorem ku.u8{t:TypeId}(f:P.underlying t=some (.int .u8)):ku P w r b [t] (BitVec 8):=λcs d a=>by
 obtain⟨v,rfl⟩:=BF d;obtain⟨n,rfl,e⟩:=DN f (a 0 t v X X);have:=Tn e;refine⟨BitVec.ofNat 8 n.toNat,?_,bo⟩;show[Value.int .u8 n]=[Value.int .u8 ((BitVec.ofNat 8 n.toNat).toNat:Int)]
 rw[uL,sL O,Fa this.1]
theorem ku.u16{t:TypeId}(f:P.underlying t=some (.int .u16)):ku P w r b [t] (BitVec 16):=λcs d a=>by
 obtain⟨v,rfl⟩:=BF d;obtain⟨n,rfl,e⟩:=DN f (a 0 t v X X);have:=Tm e;refine⟨BitVec.ofNat 16 n.toNat,?_,bo⟩;show[Value.int .u16 n]=[Value.int .u16 ((BitVec.ofNat 16 n.toNat).toNat:Int)]
 rw[uL,sL O,Fa this.1]
theorem ku.bool{t:TypeId}(e:P.underlying t=some .bool):ku P w r b [t] Bool:=λcs d a=>by obtain⟨v,rfl⟩:=BF d;obtain⟨x,rfl⟩:=RM e (a 0 t v X X);exact⟨x,X,bo⟩
instance {α a:Type}[an α][an a]:an (α×a):=⟨λp=>enc p.1++enc p.2,sz α+sz a,λp=>by rw[cr,an.len,an.len],λp=>by rw[jc,an.one,an.one];rfl⟩
instance {α a:Type}[cq α][cq a]:cq (α×a):=⟨λp=>cq.ok p.1/\cq.ok p.2⟩
theorem ku.conv{α a:Type}[an α][cq α][an a][cq a]{ts:List TypeId}(f:α->a)(h:ku P w r b ts α)(e:∀x,enc (f x)=enc x)(i:∀x:α,cq.ok x->cq.ok (f x)):ku P w r b ts a:=λcs g d=>by obtain⟨x,j,k⟩:=h cs g d;exact⟨f x,by rw[e];exact j,i x k⟩
theorem GM{α:Type}[an α][cq α]{ts:List TypeId}(h:ku P w r b ts α):∀(k:Nat)(cs:List Value),cs.length=(List.replicate k ts).flatten.length->(∀(i:Nat)(t:TypeId)(v:Value),(List.replicate k ts).flatten[i]?=some t->cs[i]?=some v->Cell.okWide P w r b t v)->
 ∃l:List α,l.length=k/\cs=I l/\∀x∈l,cq.ok x
 |0,cs,d,_=>by
  have m:cs=[]:=by simpa using d
  exact⟨[],X,by rw[m];rfl,by simp⟩
 |k+1,cs,d,f=>by
  rw[xr,List.flatten_cons]at d f;rw[cr]at d
  obtain⟨x,n,p⟩:=h (cs.take ts.length) (by simp;omega) λi t v e a=>f i t v (by rw[ou (ff.1 e).1];exact e) (by
   rw[Bg]at a;split at a
   .exact a
   .cases a)
  obtain⟨l,g,o,q⟩:=GM h k (cs.drop ts.length) (by rw[gM];omega) λi t v e a=>f (ts.length+i) t v (by rw[pz O,E4];exact e) (by rw[qV]at a;exact a);refine⟨x::l,by simp[g],by rw[kY,<-n,<-o,eD],?_⟩;intro z j;rcases fB.1 j with rfl|j
  .exact p
  .exact q z j
theorem abN{α:Type}[an α][cq α]{ts us:List TypeId}{k:Nat}(h:ku P w r b ts α)(g:us=(List.replicate k ts).flatten):ku P w r b us (Vector α k):=λcs f e=>by
 subst g;obtain⟨l,a,rfl,d⟩:=GM h k cs f e;subst a;refine⟨⟨l.toArray,X⟩,X,λi x j=>d x ?_⟩;have:l[i]?=some x:=by simpa using j
 exact eN this
theorem ku.agg{α:Type}[an α][cq α]{t:TypeId}{v:Value}{d:TypeDesc}(o:P.underlying t=some d)(hd:(match d with|.struct _|.array _ _=>true|_=>false)=true){ts:List TypeId}(aB:P.cellTypes P.depth t=some ts)(l:P.cellsOf t=ts.length)
 (k:ku P w r b ts α) (h:Value.okWide P w r b t v):∃x:α,v=.agg (enc x).toArray/\cq.ok x:=by
 obtain⟨cs,rfl,n,m⟩:=Ws o hd aB l h;obtain⟨x,q,s⟩:=k cs.toList (by simpa using n) λi t' g f p=>by
  have e:cs[i]?=some g:=by simpa using p
  obtain⟨y,a,j⟩:=m i g e;have hi:=(ff.1 f).1;rw[sL hi]at a;rw[f]at a;cases a;exact j
 exact⟨x,by rw[<-q],s⟩
end
def TD(P:Program)(H:Type)(eh:TypeId×Value->H)(W:World)(t:TypeId)(ρ:Type)[an ρ](e:ρ->Prop):Prop:=
 ∀(d:Nat)(cs:List Value)(x:DataW H×List MemPlace),DataW.trod eh P W 0 (λ_=>true) true d t cs=some x->∃a:ρ,cs=enc a/\e a
section
variable {P:Program}{H:Type}{eh:TypeId×Value->H}{W:World}
theorem TD.mono{t:TypeId}{ρ:Type}[an ρ]{e d:ρ->Prop}(h:TD P H eh W t ρ e)(j:∀a,e a->d a):TD P H eh W t ρ d:=λf cs x k=>by obtain⟨a,g,i⟩:=h f cs x k;exact⟨a,g,j a i⟩
theorem wf_i64{n:Int}(h:(Lit.int .i64 n).wf=true):-9223372036854775808<=n/\n<=9223372036854775807:=by simpa[Lit.wf,IntKind.min,IntKind.max,IntKind.signed,IntKind.bits]using h
theorem TD.int{t:TypeId}(a:P.underlying t=some (.int .i64)):TD P H eh W t Int cq.ok:=λf cs x e=>by obtain⟨n,rfl,rfl,d⟩:=DataW.trod_int a e;exact⟨n,X,wf_i64 d⟩
theorem TD.u{K:Nat}{k:IntKind}{t:TypeId}[an (BitVec K)](a:∀x:BitVec K,enc x=[.int k (x.toNat:Int)])(d:∀n:Int,(Lit.int k n).wf=true->0<=n/\n<2^K)(e:P.underlying t=some (.int k)):TD P H eh W t (BitVec K) cq.ok:=λf cs x h=>by
 obtain⟨n,rfl,rfl,g⟩:=DataW.trod_int e h;have:=d n g;refine⟨BitVec.ofNat K n.toNat,?_,bo⟩;rw[a,uL,sL,Fa this.1];have i:((2:Int)^K)=((2^K:Nat):Int):=by simp
 omega
theorem TD.u8{t:TypeId}(a:P.underlying t=some (.int .u8)):TD P H eh W t (BitVec 8) cq.ok:=TD.u (λ_=>rfl) (λn h=>by simp[Lit.wf,IntKind.min,IntKind.max,IntKind.signed,IntKind.bits]at h;omega) a
theorem TD.u16{t:TypeId}(a:P.underlying t=some (.int .u16)):TD P H eh W t (BitVec 16) cq.ok:=TD.u (λ_=>rfl) (λn h=>by simp[Lit.wf,IntKind.min,IntKind.max,IntKind.signed,IntKind.bits]at h;omega) a
theorem TD.bool{t:TypeId}(a:P.underlying t=some .bool):TD P H eh W t Bool cq.ok:=λf cs x d=>by obtain⟨b,rfl,_⟩:=DataW.trod_bool a d;exact⟨b,X,bo⟩
theorem TD.str{t:TypeId}(d:P.underlying t=some .string):TD P H eh W t Y cq.ok:=λf cs x e=>by
 obtain⟨s,rfl,_,a⟩:=DataW.trod_string d e;refine⟨s.data.toList,?_,?_⟩
 .show[Value.string s]=[Y.v s.data.toList]
  simp[Y.v,Y.b]
 .simp only[maxLen]at a;show s.data.toList.length<=_;simpa using a
theorem IA{e:TypeId}{ρ:Type}[an ρ]{o:ρ->Prop}{m:Nat}(j:TD P H eh W e ρ o)(y:P.cellsOf e=sz ρ):∀(n:Nat)(cs:List Value)(xs:List (DataW H×List MemPlace)),cs.length=n*sz ρ->xs.length=n->
 (∀i,i<n->DataW.trod eh P W 0 (λ_=>true) true m e ((cs.drop (i*sz ρ)).take (sz ρ))=xs[i]?)->∃l:List ρ,l.length=n/\cs=I l/\∀a∈l,o a
 |0,cs,xs,f,_,_=>⟨[],X,by simpa[I]using f,by simp⟩
 |n+1,cs,xs,f,k,h=>by
  rw[oj]at f
  cases xs with
  |nil=>simp at k
  |cons x xs=>
   have g:=h 0 O;simp only[Nat.zero_mul,eT]at g;obtain⟨a,t,A⟩:=j _ _ _ g;obtain⟨l,p,q,s⟩:=IA j y n (cs.drop (sz ρ)) xs (by simp;omega) (by simpa using k) λi hi=>by have:=h (i+1) O;rw[oj,nt,<-nu]at this;simpa using this
   refine⟨a::l,by simp[p],by rw[kY,<-t,<-q,eD],?_⟩;intro b d;rcases fB.1 d with rfl|d
   .exact A
   .exact s b d
theorem acA{t e:TypeId}{n:Nat}{ρ:Type}[an ρ]{j:ρ->Prop}(A:P.underlying t=some (.array n e))(d:P.cellsOf t=n*sz ρ)(g:P.cellsOf e=sz ρ)(p:TD P H eh W e ρ j):TD P H eh W t (Vector ρ n) (λv=>∀(i:Nat)(x:ρ),v[i]?=some x->j x):=λf cs x B=>by
 obtain⟨xs,m,rfl,rfl,s,y,h⟩:=DataW.trod_array A B;rw[g]at h;obtain⟨l,k,rfl,o⟩:=IA p g n cs xs (s.trans d) y h;subst k;refine⟨⟨l.toArray,X⟩,X,λi a q=>o a ?_⟩;have:l[i]?=some a:=by simpa using q
 exact eN this
theorem FA{α:Type}{p:Nat->α->Prop}:∀m,(∀i,i<m->∃a,p i a)->∃rs:List α,rs.length=m/\∀(i:Nat)(a:α),rs[i]?=some a->p i a
 |0,_=>⟨[],X,by simp⟩
 |m+1,h=>by
  obtain⟨rs,e,f⟩:=FA m λi hi=>h i O;obtain⟨a,g⟩:=h m O;refine⟨rs++[a],by simp[e],λi b d=>?_⟩;rw[List.getElem?_append]at d;split at d
  .exact f i b d
  .have:i-rs.length=0:=by
    have:=(ff.1 d).1;simp at this;omega
   rw[this]at d;simp at d;have:i=m:=by omega
   subst this d;exact g
theorem Ao{w:World}{b:Addr}{n:Nat}{l:List Value}(h:w.cells? 0 b n=some l):l.length=n/\∀j,j<n->w.cell? (b.add j)=l[j]?:=by unfold World.cells? at h;rw[ce (jF _)]at h;exact⟨by simpa using mapM_some_length h,λj a=>mapM_some_get h j j (by simp[a])⟩
theorem TD.slice{t e:TypeId}{ρ:Type}[an ρ]{ok:ρ->Prop}(hu:P.underlying t=some (.slice e))(hc:P.cellsOf e=sz ρ)(h0:0<sz ρ)(hE:TD P H eh W e ρ ok):
 TD P H eh W t (LR ρ) (λa=>LR.rel W (bk.of W) [] a/\a.v.length<=2^63-1/\∀r∈a.v,ok r):=λf cs x hx=>by
 rcases Go.Deep.open_slice hu hx with⟨rfl,_⟩|⟨a,len,cap,m,n,D,Pl,rfl,_,sA,np,hm,_,EA⟩
 .exact⟨⟨[],Sl.nil⟩,X,j3,by simp,by simp⟩
 .rw[ce X]at hm;subst hm;simp only[maxLen]at np;have l:∀i,i<m->∃a':ρ,W.cells? 0 (a.add (i*sz ρ)) (sz ρ)=some (enc a')/\ok a':=λi hi=>by
   obtain⟨cs',h1,h2⟩:=EA i hi;obtain⟨a',rfl,oa⟩:=hE _ _ _ h2;rw[hc]at h1;exact⟨a',h1,oa⟩
  obtain⟨rs,ES,s⟩:=FA m l;refine⟨⟨rs.take len,⟨some a,len,m⟩⟩,X,?_,by simp;omega,λr hr=>?_⟩
  .by_cases EJ:m=0
   .subst EJ;have EH:len=0:=by omega
    subst EH;intro w hw;exact⟨0,(0,0),by simp[I],by simp,.inl ⟨X,X⟩⟩
   .have o:∃r0,rs[0]?=some r0:=⟨rs[0]'O,by simp⟩
    obtain⟨r0,ER⟩:=o;have C:=(Ao (s 0 r0 ER).1).2 0 h0;have TZ:(enc r0).length=sz ρ:=an.len r0;have y:∃v0,W.cell? a=some v0:=by
     have e:(a.add (0*sz ρ)).add 0=a:=by simp[Addr.add]
     rw[e]at C;exact⟨(enc r0)[0]'O,by rw[C];simp⟩
    obtain⟨v0,g⟩:=y;have L:∃d t A,W.heap[a.block]?=some (.cells d t A)/\a.spot=none:=by
     unfold World.cell? at g;split at g
     .rename_i c t A K;refine⟨c,t,A,K,?_⟩;split at g
      .cases g
      .rename_i hs;simpa using hs
     .cases g
    obtain⟨d,t',A,K,T⟩:=L;obtain⟨blk,off,sp⟩:=a;simp only at T K;subst T;have h:∀q,W.cell? ⟨blk,q,none⟩=d.toList[q]?:=λq=>by simp[World.cell?,K]
    have F:∀(i:Nat)(r:ρ)(j:Nat),rs[i]?=some r->j<sz ρ->d.toList[off+i*sz ρ+j]?=(enc r)[j]?:=λi r j hr V=>by have:=(Ao (s i r hr).1).2 j V;rw[ia,ia,h]at this;exact this
    have Q:∀k,k<=m->(d.toList.drop off).take (k*sz ρ)=I (rs.take k):=by
     intro k
     induction k with
     |zero=>intro _;simp[I]
     |succ k ih=>
      intro hk;have AN:k<rs.length:=by omega
      have S:rs[k]?=some rs[k]:=by simp[AN]
      rw[uF,S,xv,iG,<-ih O,oj,List.take_add];congr 1;rw[nu];simp only[kY,sf,jH];apply sP;intro j;by_cases V:j<sz ρ
      .rw[Fe V,qV,<-F k _ j S V]
      .rw[nv (by simp;omega),nv (by rw[an.len];omega)]
    have B:(d.toList.drop off).take (m*sz ρ)=I rs:=by have:=Q m (dO _);rwa[show rs.take m=rs from iI O]at this
    intro w hw;have hb:w.heap[blk]?=some (.cells d t' A):=hw.gh blk _ K;have p:d.toList=d.toList.take off++(I (rs.take len)++(I (rs.drop len)++(d.toList.drop off).drop (m*sz ρ))):=by rw[<-f9 (I _),<-iG,eD,<-B,eD,eD]
    have M:off<=d.toList.length:=by have:=(ff.1 ((h off).symm.trans g)).1;omega
    refine⟨t',A,?_,by simp only;omega,.inr ⟨blk,off,d.toList.take off,I (rs.drop len)++(d.toList.drop off).drop (m*sz ρ),X,?_,by rw[gn];exact iV M,sA,?_⟩⟩
    .rw[d7,gn,iV O]
    .show w.heap[blk]?=_;rw[<-p];exact hb
    .rw[<-f9,<-iG,eD,cr,d7,ES];exact pt _ _
  .obtain⟨i,hi⟩:=kE (qZ hr);exact(s i r hi).2
theorem aaU{cs:List Value}{o s n:Nat}(a:cs.length=n):cs.drop o=(cs.drop o).take s++cs.drop (o+s):=by rw[<-nu,eD]
theorem Rn{r:Reach}{b:Nat}{t e:TypeId}{v:Value}{ρ:Type}{a:LR ρ}(f:P.underlying t=some (.slice e))(h:Value.okWide P W r b t v)(d:v.cells.toList=enc a):v=a.h.v:=by
 simp only[Value.okWide,f,Cell.okWide,Cell.ok]at h;cases v<;>simp at h
 have:[Value.slice _ _ _]=[a.h.v]:=d;simpa using this
def pieces(cs:List Value):Nat->List Nat->List Value
 |_,[]=>[]
 |o,[s]=>(cs.drop o).take s
 |o,s::t::a=>(cs.drop o).take s++pieces cs (o+s) (t::a)
theorem FB{cs:List Value}:∀(a:List Nat)(o:Nat),a≠[]->cs.length=o+a.sum->cs.drop o=pieces cs o a
 |[],_,h,_=>absurd X h
 |[s],o,_,h=>by simp only[pieces];rw[iI (by simp at h ⊢;omega)]
 |s::t::a,o,_,h=>by have d:=FB (cs:=cs) (t::a) (o+s) (by simp) (by simp at h ⊢;omega);simp only[pieces];rw[<-d];exact aaU X
theorem Rm{r:Reach}{b:Nat}{t:TypeId}{v:Value}{k:IntKind}{n:Int}{ρ:Type}[an ρ]{a:ρ}(f:P.underlying t=some (.int k))(h:Value.okWide P W r b t v)(e:enc a=[.int k n])(d:v.cells.toList=enc a):v=.int k n:=by
 rw[e]at d;simp only[Value.okWide,f,Cell.okWide,Cell.ok]at h;cases v<;>simp at h
 have:[Value.int _ _]=[Value.int k n]:=d;simpa using this
end
structure rM{H:Type}(μ:DataW H->Nat):Prop where
 str:∀s,s.length<=μ (.lit (.string s))
 len:∀es sp,es.length<=μ (.slice es sp)
 el:∀es sp d,d∈es\/d∈sp->μ d<=μ (.slice es sp)
 part:∀ps d,d∈ps->μ d<=μ (.agg ps)
def TB(P:Program)(H:Type)(eh:TypeId×Value->H)(W:World)(μ:DataW H->Nat)(B:Nat)(t:TypeId)(ρ:Type)[an ρ](e:ρ->Prop):Prop:=
 ∀(d:Nat)(cs:List Value)(x:DataW H×List MemPlace),DataW.trod eh P W 0 (λ_=>true) true d t cs=some x->μ x.1<=B->∃a:ρ,cs=enc a/\e a
section
variable {P:Program}{H:Type}{eh:TypeId×Value->H}{W:World}{μ:DataW H->Nat}{B:Nat}
theorem TB.int{t:TypeId}(a:P.underlying t=some (.int .i64)):TB P H eh W μ B t Int (cR.ok B):=λf cs x d _=>TD.int a f cs x d
theorem TB.u8{t:TypeId}(a:P.underlying t=some (.int .u8)):TB P H eh W μ B t (BitVec 8) (cR.ok B):=λf cs x d _=>TD.u8 a f cs x d
theorem TB.u16{t:TypeId}(a:P.underlying t=some (.int .u16)):TB P H eh W μ B t (BitVec 16) (cR.ok B):=λf cs x d _=>TD.u16 a f cs x d
theorem TB.bool{t:TypeId}(a:P.underlying t=some .bool):TB P H eh W μ B t Bool (cR.ok B):=λf cs x d _=>TD.bool a f cs x d
theorem TB.str{t:TypeId}(a:rM μ)(e:P.underlying t=some .string):TB P H eh W μ B t Y (cR.ok B):=λf cs x g d=>by
 obtain⟨s,rfl,rfl,h⟩:=DataW.trod_string e g;refine⟨s.data.toList,?_,?_⟩
 .show[Value.string s]=[Y.v s.data.toList]
  simp[Y.v,Y.b]
 .exact iU (a.str _) d
theorem IB{e:TypeId}{ρ:Type}[an ρ]{o:ρ->Prop}{m:Nat}(j:TB P H eh W μ B e ρ o)(A:P.cellsOf e=sz ρ):∀(n:Nat)(cs:List Value)(xs:List (DataW H×List MemPlace)),cs.length=n*sz ρ->xs.length=n->(∀x∈xs,μ x.1<=B)->
 (∀i,i<n->DataW.trod eh P W 0 (λ_=>true) true m e ((cs.drop (i*sz ρ)).take (sz ρ))=xs[i]?)->∃l:List ρ,l.length=n/\cs=I l/\∀a∈l,o a
 |0,cs,xs,f,_,_,_=>⟨[],X,by simpa[I]using f,by simp⟩
 |n+1,cs,xs,f,k,d,h=>by
  rw[oj]at f
  cases xs with
  |nil=>simp at k
  |cons x xs=>
   have g:=h 0 O;simp only[Nat.zero_mul,eT]at g;obtain⟨a,t,D⟩:=j _ _ _ g (d x (by simp));obtain⟨l,p,q,s⟩:=IB j A n (cs.drop (sz ρ)) xs (by simp;omega) (by simpa using k) (λy C=>d y (by simp[C])) λi hi=>by have:=h (i+1) O;rw[oj,nt,<-nu]at this;simpa using this
   refine⟨a::l,by simp[p],by rw[kY,<-t,<-q,eD],?_⟩;intro b d;rcases fB.1 d with rfl|d
   .exact D
   .exact s b d
theorem acz{t e:TypeId}{n:Nat}{ρ:Type}[an ρ]{o:ρ->Prop}(j:rM μ)(F:P.underlying t=some (.array n e))(d:P.cellsOf t=n*sz ρ)(k:P.cellsOf e=sz ρ)(y:TB P H eh W μ B e ρ o):TB P H eh W μ B t (Vector ρ n) (λv=>∀(i:Nat)(x:ρ),v[i]?=some x->o x):=λf cs x g s=>by
 obtain⟨xs,m,rfl,rfl,C,D,h⟩:=DataW.trod_array F g;rw[k]at h;obtain⟨l,p,rfl,q⟩:=IB y k n cs xs (C.trans d) D (λx g=>iU (j.part _ _ (sS g)) s) h;subst p;refine⟨⟨l.toArray,X⟩,X,λi a A=>q a ?_⟩;have:l[i]?=some a:=by simpa using A
 exact eN this
theorem TB.slice{t e:TypeId}{ρ:Type}[an ρ]{ok:ρ->Prop}(hu:P.underlying t=some (.slice e))(hc:P.cellsOf e=sz ρ)(h0:0<sz ρ)(J1:rM μ)(hE:TB P H eh W μ B e ρ ok):
 TB P H eh W μ B t (LR ρ) (λa=>LR.rel W (bk.of W) [] a/\a.v.length<=B/\∀r∈a.v,ok r):=λf cs x hx hB=>by
 rcases Go.Deep.open_slice hu hx with⟨rfl,_⟩|⟨a,len,cap,m,n,D,Pl,rfl,_,sA,np,hm,pn,EA⟩
 .exact⟨⟨[],Sl.nil⟩,X,j3,by simp,by simp⟩
 .rw[ce X]at hm;subst hm;simp only[maxLen]at np;subst pn;have hlB:len<=B:=by have:=J1.len ((List.range len).map D) ((List.range (m-len)).map λj=>D (len+j));simp only[kF,List.length_range]at this;simp only at hB;omega
  simp only at hB;have l:∀i,i<m->∃a':ρ,W.cells? 0 (a.add (i*sz ρ)) (sz ρ)=some (enc a')/\ok a':=λi hi=>by
   obtain⟨cs',h1,h2⟩:=EA i hi;have SG:μ (D i)<=B:=by
    refine iU (J1.el _ _ _ ?_) hB;by_cases ED:i<len
    .exact .inl (mE.2 ⟨i,xy.2 ED,X⟩)
    .exact .inr (mE.2 ⟨i-len,xy.2 O,by show D (len+(i-len))=D i;rw[show len+(i-len)=i by omega]⟩)
   obtain⟨a',rfl,oa⟩:=hE _ _ _ h2 SG;rw[hc]at h1;exact⟨a',h1,oa⟩
  obtain⟨rs,ES,s⟩:=FA m l;refine⟨⟨rs.take len,⟨some a,len,m⟩⟩,X,?_,by simp;omega,λr hr=>?_⟩
  .by_cases EJ:m=0
   .subst EJ;have EH:len=0:=by omega
    subst EH;intro w hw;exact⟨0,(0,0),by simp[I],by simp,.inl ⟨X,X⟩⟩
   .have o:∃r0,rs[0]?=some r0:=⟨rs[0]'O,by simp⟩
    obtain⟨r0,ER⟩:=o;have F:=(Ao (s 0 r0 ER).1).2 0 h0;have TZ:(enc r0).length=sz ρ:=an.len r0;have y:∃v0,W.cell? a=some v0:=by
     have e:(a.add (0*sz ρ)).add 0=a:=by simp[Addr.add]
     rw[e]at F;exact⟨(enc r0)[0]'O,by rw[F];simp⟩
    obtain⟨v0,g⟩:=y;have M:∃d t A,W.heap[a.block]?=some (.cells d t A)/\a.spot=none:=by
     unfold World.cell? at g;split at g
     .rename_i c t A L;refine⟨c,t,A,L,?_⟩;split at g
      .cases g
      .rename_i hs;simpa using hs
     .cases g
    obtain⟨d,t',A,L,V⟩:=M;obtain⟨blk,off,sp⟩:=a;simp only at V L;subst V;have h:∀q,W.cell? ⟨blk,q,none⟩=d.toList[q]?:=λq=>by simp[World.cell?,L]
    have K:∀(i:Nat)(r:ρ)(j:Nat),rs[i]?=some r->j<sz ρ->d.toList[off+i*sz ρ+j]?=(enc r)[j]?:=λi r j hr hj=>by have:=(Ao (s i r hr).1).2 j hj;rw[ia,ia,h]at this;exact this
    have S:∀k,k<=m->(d.toList.drop off).take (k*sz ρ)=I (rs.take k):=by
     intro k
     induction k with
     |zero=>intro _;simp[I]
     |succ k ih=>
      intro hk;have AN:k<rs.length:=by omega
      have T:rs[k]?=some rs[k]:=by simp[AN]
      rw[uF,T,xv,iG,<-ih O,oj,List.take_add];congr 1;rw[nu];simp only[kY,sf,jH];apply sP;intro j;by_cases hj:j<sz ρ
      .rw[Fe hj,qV,<-K k _ j T hj]
      .rw[nv (by simp;omega),nv (by rw[an.len];omega)]
    have C:(d.toList.drop off).take (m*sz ρ)=I rs:=by have:=S m (dO _);rwa[show rs.take m=rs from iI O]at this
    intro w hw;have hb:w.heap[blk]?=some (.cells d t' A):=hw.gh blk _ L;have p:d.toList=d.toList.take off++(I (rs.take len)++(I (rs.drop len)++(d.toList.drop off).drop (m*sz ρ))):=by rw[<-f9 (I _),<-iG,eD,<-C,eD,eD]
    have Q:off<=d.toList.length:=by have:=(ff.1 ((h off).symm.trans g)).1;omega
    refine⟨t',A,?_,by simp only;omega,.inr ⟨blk,off,d.toList.take off,I (rs.drop len)++(d.toList.drop off).drop (m*sz ρ),X,?_,by rw[gn];exact iV Q,sA,?_⟩⟩
    .rw[d7,gn,iV O]
    .show w.heap[blk]?=_;rw[<-p];exact hb
    .rw[<-f9,<-iG,eD,cr,d7,ES];exact pt _ _
  .obtain⟨i,hi⟩:=kE (qZ hr);exact(s i r hi).2
theorem Il{t:TypeId}{v:Value}{d:DataW H}{ps:List MemPlace}{ρ:Type}[an ρ]{e:ρ->Prop}(h:DataW.Trod eh P W 0 (λ_=>true) true t v d ps)(g:μ d<=B)(i:TB P H eh W μ B t ρ e):∃a:ρ,v.cells.toList=enc a/\e a:=by obtain⟨f,j⟩:=h;exact i f _ _ j g
theorem vO{e:Array Field}{cs:List Value}{m:Nat}{xs:List (DataW H×List MemPlace)}{ρ:Type}[an ρ]{j:ρ->Prop}(g:rM μ)(k:μ (.agg (xs.map (·.1)))<=B)(n:∀(i:Nat)(f:Field),e[i]?=some f->DataW.trod eh P W 0 (λ_=>true) true m f.type ((cs.drop f.offset).take (P.cellsOf f.type))=xs[i]?)(p:xs.length=e.size)
 (i:Nat) {t o s:Nat} {f:Field} (hi:e[i]?=some f) (y:f.type=t) (q:f.offset=o) (x:P.cellsOf t=s) (l:TB P H eh W μ B t ρ j):∃a:ρ,(cs.drop o).take s=enc a/\j a:=by
 subst y q x;have d:i<xs.length:=by rw[p];exact(gV.1 hi).1
 have h:=n i f hi;rw[je d]at h;exact l _ _ _ h (iU (g.part _ _ (sS (qX d))) k)
end
theorem abi{C:Checked}{g:Os}{f:FuncId}{fn:Func}{s:OpenSpec}{H:Type}{enc:TypeId×Value->H}{k:(H:Type)->List (DataW H)->Bool}{a:List (String×DataW Unit)}(n:s.cond=some k)(args:Array Value)(e:Nat)
 (l:((World.laidAll C.prog g a).forCall (λ_ _=>0) ⟨#[],args,[]⟩).Shaped C.prog)
 (h:Input.okWideB C.prog ((World.laidAll C.prog g a).forCall (λ_ _=>0) ⟨#[],args,[]⟩) f ⟨#[],args,[]⟩=true)
 {x:List (DataW H)×List (DataW H)×List MemPlace} (p:DataW.whole enc C.prog ((World.laidAll C.prog g a).forCall (λ_ _=>0) ⟨#[],args,[]⟩).memory fn.params.toList s.vars false args.toList e=some x)
 (j:k H (x.1++x.2.1)=true)
 (m:s.bare.sizedB enc C.prog fn false ((World.laidAll C.prog g a).forCall (λ_ _=>0) ⟨#[],args,[]⟩).memory args e=true)
 (o:laidMetH C.prog a ((World.laidAll C.prog g a).forCall (λ_ _=>0) ⟨#[],args,[]⟩).memory):
 ∃(w:World)(d:Tape)(i:Input),w.os=g/\(w.forCall d i).Shaped C.prog/\i.vars=[]/\Input.okWide C.prog (w.forCall d i) .any w.heap.size f i/\
  s.preRow enc C.prog fn [] false a (w.forCall d i).memory i.args/\({}:Assume).holds C.prog (lone (Frame.enter C.prog f i.args .normal) [] (w.forCall d i)):=
 ⟨World.laidAll C.prog g a,λ_ _=>0,⟨#[],args,[]⟩,World.laidAll_os _ _ _,l,(Input.okWide_of_okWideB (base:=0) h).1,(Input.okWide_of_okWideB h).2,
  ⟨⟨(OpenSpec.pre_some n [] false _ _).2 ⟨x.1,x.2.1,x.2.2,DataW.Whole_of_whole p,X,j⟩,o⟩,sizedMet_of_sizedB m⟩,by
  simp only[Assume.holds]
  exact⟨by simp,by simp,λ_=>Modest.zero,by simp,by simp⟩⟩
theorem VL{C:Checked}{f:FuncId}{fn:Func}{s:ChangeSpec}{S:OpenSpec}{k:(H:Type)->List (DataW H)->Bool}{tb:TypeId}{H:Type}{enc:TypeId×Value->H}{os:Os}{F:Stop.Interp}{g:List (String×DataW Unit)}
 (hS:S={OpenSpec.ofChange s with cond:=some k})
 (own:ownKnob C.prog.godebug=none) (l:os.Started) (TK:C.prog.funcs[f]?=some fn)
 (m:∃(w:World)(a:Tape)(i:Input),w.os=os/\(w.forCall a i).Shaped C.prog/\i.vars=[]/\Input.okWide C.prog (w.forCall a i) .any w.heap.size f i/\
  S.preRow enc C.prog fn [] false g (w.forCall a i).memory i.args/\({}:Assume).holds C.prog (lone (Frame.enter C.prog f i.args .normal) [] (w.forCall a i)))
 (hl:laidOutB C.prog=true) (UC:∀t∈fn.params.toList,C.prog.readableRec t=true/\t<C.prog.types.size)
 (T:fn.resultTypes=#[tb]) (hb:C.prog.underlying tb=some .bool) (hv:s.vars=[])
 (hs:∀e:List (DataW H),e.length=fn.params.toList.length->s.fn H e={results:=[.lit (.bool true)],args:=e})
 (walk:∀(W:World)(base:Nat)(args:Array Value)(e:List (DataW H))(p:List MemPlace),
  (∀(j:Nat)t v,fn.params[j]?=some t->args[j]?=some v->Value.okWide C.prog W .any base t v)->
  DataW.TrodAll enc C.prog W 0 (λ_=>true) true fn.params.toList args.toList e p->
  k H e=true->laidMetH C.prog g W->
  ∃M last o w' t',runNT C.prog (M+1) (Conc.solo (Conc.G (Frame.enter C.prog f args .normal) []) W) #[]=(.ended o w',t')/\runN C.prog M (Conc.solo (Conc.G (Frame.enter C.prog f args .normal) []) W)=.next last/\
   step C.prog last=.ended o w'/\Conc.Good C.prog (λv W'=>v=.bool true/\Ext W W') last o w' t'):
 ReturnsInLeavingWide {} C os f .any (S.preRow enc C.prog fn [] false g) ((S.at F).post enc C.prog fn false true false false):=by
 subst hS;refine returnsInLeavingWide_of_good own l m ?_;intro w a i _ _ _ mv Q _;obtain⟨_,_,_,y,K,_,_,_,_,n⟩:=mv;obtain rfl:y=fn:=dF (K.symm.trans TK);obtain⟨⟨hp,hL⟩,_⟩:=Q;obtain⟨e,gs,V,A,_,hk⟩:=OpenSpec.pre_parts hp;have A:=DataW.Whole.of_heap (w':=w.forCall a i) (by rfl) A;have hL:=hL.of_heap (w':=w.forCall a i) (by rfl);generalize w.forCall a i=W at n A hL ⊢;have D:=A;obtain⟨p,q,hA,hV,rfl,hfz,hnd⟩:=A;have sF:({OpenSpec.ofChange s with cond:=some k}:OpenSpec).vars=[]:=hv;rw[sF]at hV;obtain⟨rfl,rfl⟩:=trodVars_none hV;have L:e.length=y.params.toList.length:=MF hA;have hk:=hk k X;rw[jH]at hk;obtain⟨M,last,o,w',t',h1,h2,h3,h4⟩:=walk W w.heap.size i.args e p n hA hk hL;refine⟨M,last,o,w',t',h1,h2,h3,h4.mono λv⟨he,hx⟩=>?_⟩;subst he;have d:(({OpenSpec.ofChange s with cond:=some k}:OpenSpec).at F).fn H e={results:=[.lit (.bool true)],args:=e}:=hs e L;refine ChangeSpec.post_blind ⟨e,[],p++[],[],p,[],D,?_,?_,?_,Below.frame hx _,λh=>by cases h⟩
 .rw[jH,d,T];exact trodAll_mk1 (shut_bool hb true)
 .rw[jH,d];exact ME hl hx UC hA (λx pn=>D.lt x (by simpa using pn))
 .rw[jH,d];have US:(({OpenSpec.ofChange s with cond:=some k}:OpenSpec).at F).vars=[]:=hv;rw[US];rfl
theorem Up{p:Pinned}{s:OpenSpec}{c:OpenClaim}(f:FuncId)(fn:Func)
 (j:c.program=p.name/\c.sum=p.sum/\c.spec=s.name) (B:c.start=.entering/\c.outside=[]/\c.noBlocks=false/\c.leaving=true/\c.followed=none/\c.still=false/\c.narrowed=s.cond.isSome)
 (g:c.inits=[]/\c.under=none/\(c.initsInPlace=[]/\c.initsUnfollowed=false/\c.initsRecurse=false/\c.initsNamed=[]/\c.initsPassed=[]))
 (y:p.checked.prog.funcNamed c.func=some f) (hf:p.checked.prog.funcs[f]?=some fn) (a:joinedFacts p.checked.prog f fn s.bare c=true)
 (e:fn.isInstance p.checked.prog c.origin c.targs) (i:fn.isWrapper p.checked.prog c.wrapper c.mainSum)
 (h:∀d:Os,d.Started->∀(H:Type)(enc:TypeId×Value->H)(F:Stop.Interp),ReturnsInLeavingWide c.assume p.checked d f .any (c.pre enc p.checked.prog fn s) ((s.at F).post enc p.checked.prog fn c.apart c.fresh c.handsOn c.again)):c.holds p s:=by
 obtain⟨i1,i2,i3⟩:=j;obtain⟨s1,s2,s3,s4,s5,s6,s7⟩:=B;obtain⟨t1,t2,t3⟩:=g;simp only[joinedFacts,eJ,jW,Array.all_eq_true_iff_forall_mem,mD,gL]at a;obtain⟨⟨⟨⟨⟨⟨⟨⟨⟨⟨⟨⟨⟨⟨⟨⟨⟨⟨⟨⟨⟨⟨⟨⟨⟨⟨⟨⟨⟨⟨⟨k1,k2⟩,k3⟩,k4⟩,k5⟩,k6⟩,k7⟩,k8⟩,k9⟩,C⟩,D⟩,K⟩,L⟩,M⟩,P⟩,Q⟩,S⟩,l⟩,T⟩,V⟩,W⟩,Vx⟩,Vy⟩,m⟩,o⟩,q⟩,t⟩,x⟩,Vz⟩,VA⟩,VB⟩,VC⟩:=a;have hq:∀d:Os,Stop.quiet p.checked.prog d:=λd k hk=>by rw[k9]at hk;cases hk
 unfold OpenClaim.holds OpenClaim.startFits OpenClaim.startTold OpenClaim.namedList OpenClaim.world OpenClaim.lists OpenClaim.form OpenClaim.okInput OpenClaim.atReturn OpenClaim.always;rw[s1,s2,s3,s4,s5,s7,k6];refine⟨k1,i1,i2,i3,k2,k3,q,⟨t1,t2,t3⟩,f,fn,y,hf,⟨k4,V⟩,(λhb=>nomatch hb),k5,e,i,k7.symm,⟨k8.trans k9.symm,by unfold Program.envWorded;rw[k9];rfl,o⟩,C,D,K,L,M,⟨P,VB,VC⟩,⟨Q,W⟩,⟨S,Vx,Vz,VA⟩,⟨Vy,t,x,l⟩,?_,λn hn=>varReadable_some (T n hn),⟨_,WideRow.started_initial,hq _⟩,[],?_,λd st _ H enc _=>?_⟩
 .cases A:c.shortTexts with
  |none=>simp
  |some _=>rw[A]at m;cases m
 .rfl
 .have st':d.Started:=st;intro F;have hg:=h d st' H enc F q;rw[OpenClaim.post_not_still s6];exact hg
theorem Uq(i:Looks){p:Pinned}{s:OpenSpec}{c:OpenClaim}(kinds:List LaidKind)(d:Bool)(a:Bool×String)(g:Bool)
 (o:c.holds p s) (B:c.wfByText s=true) (e:c.laidByTextAt i p kinds d)
 (l:c.start=.entering) (k:c.noBlocks=false/\c.again=false) (y:p.checked.prog.mainIs=some (a.1,a.2.toList)) (A:(!a.1&&a.2.isEmpty&&!g)=false)
 (x:∀f fn,p.checked.prog.funcNamed c.func=some f->p.checked.prog.funcs[f]?=some fn->g=p.checked.prog.looks []/\∀(j:Nat)t,fn.params[j]?=some t->p.checked.prog.wantsStandIn t=false)
 (q:true=c.goesBy p.checked.prog):
 Claim7.holds p (.plain s) {stood:={row:=c,standIns:=[],harness:=a,looks:=g},kinds:=[],alts:=[],goes:=true,laidByText:=true,laidKinds:=kinds,laidTests:=d,laidLooks:=i}:=by
 have m:Claim7.isSixth {stood:={row:=c,standIns:=[],harness:=a,looks:=g},kinds:=[]}=false:=by simpa[Claim7.isSixth]using A
 exact⟨Claim7.tied_new_at i kinds d (Claim7.new_of_sixth o a g l k y m x) B,λD n=>(by cases n),e,(λh=>by cases h),q⟩
theorem aaS{P:Program}{W:World}{a:List (String×DataW Unit)}{t e:TypeId}{n:Nat}(l:P.globalNamed "internal/strconv.uint64pow10"=some 1)(j:(P.globals[1]?).map (·.type)=some t)(s:P.underlying t=some (.array n e))(p:P.underlying e=some (.int .u64))
 (g:P.cellsOf e=1) (i:P.cellsOf t=n) (hp:(a.all λx=>x.2.handleName?.isNone)=true) (q:(a.filter λx=>x.1== "internal/strconv.uint64pow10")=[("internal/strconv.uint64pow10",Lib.tabData .u64 Lib.pow10Tab)]) (h:laidMetH P a W):gG (bk.of W):=by
 rw[MakeChecks.laidMetH_plain _ _ _ hp]at h;have k:=laidMet.filter (λx=>x.1== "internal/strconv.uint64pow10") h;rw[q]at k;have d:=Lib.tabIs_of_head l j s p g i k;unfold Lib.TabIs World.var? at d;rw[l,gK]at d
 cases f:W.heap[1]? with
 |none=>rw[f]at d;cases d
 |some o=>
  rw[f]at d
  cases o with
  |cells cs t m=>simp only[gU]at d;subst d;exact⟨t,m,[],f⟩
  |_=>cases d
