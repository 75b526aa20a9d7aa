/-
  More rules of slices: comparing with nil, the empty literal, copy, clear, what lies behind a slice's end.
-/
import Derived.Test.YteagbdjohkfneaaGreatDoorGoH
import Derived.Lib.Overlaps
import Derived.Lib.ItoaMem
import Derived.Lib.Join
import Derived.Lib.IndexAny
import Derived.Shelf.SlSortCmp.Whole1
import Derived.ProofKit
import Derived.OpenShut
namespace Go.Proofs.YteagbdjohkfneaaGreatDoor
open Go.RowKit an
section
variable {P:Program}{n:Fm}{w0:World}{ops:Array Oper}{Q:Exit->Act->World->Prop}{K:Act->Prop}{l:List Oper}{e:List (Nat×Value)}{F F0:bM}{L L':List Item}{v:Value}{dst:Option Nat}{d:Nat}{ty:TypeId}{pos:String}{bo:Array Edge}{gd:Option (Nat×Bool)}
theorem abp{t el:TypeId}{a:Option Addr}{i j:Nat}{w:World}(f:∀w,(underlying t).run P w=.ok (.slice el) w):(Op.equal t (.slice a i j) (.slice none 0 0)).run P w=.ok a.isNone w:=by have e:Op.equal t (.slice a i j) (.slice none 0 0)=Op.equalIn (9999+1) t (.slice a i j) (.slice none 0 0):=X;rw[e];unfold Op.equalIn;cases a<;>simp[f]
theorem El{x:Operand}{t t2 el:TypeId}{s:Sl}(m:ev e x=some s.v)(k:∀w,(underlying t).run P w=.ok (.slice el) w):Ev P n w0 e F L ⟨dst,.binOp .eql t x (.const (.slice none 0 0)) t2,ty,pos,bo,gd⟩ (.bool s.a.isNone):=λa w f _=>by have h:=abp (P:=P) (w:=w) (a:=s.a) (i:=s.len) (j:=s.cap) k;have g:a.eval (.const (.slice none 0 0))=.slice none 0 0:=X;simp[execOp,f.eval m,g,eqGuard,binOp,Sl.v,h]
theorem E0{α:Type}[an α](i:0<sz α){v:Sl}{xs:List α}(h:Rd w0 F L v xs)(f:v.a.isNone=true):∀w,St w0 F L w->xs=[]:=λw j=>by
 obtain⟨_,_,a⟩:=h w j;have k:=a.len i;rcases a.2.2 with⟨g,_⟩|⟨b,off,pre,post,g,_⟩
 .exact pC.1 O
 .rw[g]at f;cases f
theorem ET{t el m:TypeId}(i:gd=none)(f:dst=some d)(k:d<n.n)(q:∀w,(underlying t).run P w=.ok (.slice el) w)(p:∀w,(sizeOf el).run P w=.ok m w)
 (y:∀s:Sl,br P n w0 ops Q l ((d,s.v)::e) F (.own s el m []::L)):br P n w0 ops Q (⟨dst,.buildSlice t 0 #[],ty,pos,bo,gd⟩::l) e F L:=
 gQ i λa w h x=>by
  subst f;unfold Oper.wp;have o:(execOp a.eval ⟨some d,.buildSlice t 0 #[],ty,pos,bo,gd⟩).run P w=.ok (.value (.slice (some ⟨w.heap.size,0,none⟩) 0 0)) {w with heap:=w.heap.push (.cells #[] el)}:=by simp[execOp,Instr.buildSlice,q,p,Instr.fill,newRow];rw[show(Array.map (λ_=>default) (Array.range 0):Array Value)=#[]from by simp]
  rw[o,Oper.upon_value];exact y ⟨some ⟨w.heap.size,0,none⟩,0,0⟩ _ _ (h.put k _) (x.new _ X λg j=>⟨by simp,by simp,.inl ⟨X,X⟩⟩)
theorem ya{s:Sl}{lo hi m b off:Nat}(a:s.a=some ⟨b,off,none⟩):(s.cut lo hi m).a=some ⟨b,off,none⟩/\s.cap=lo\/(s.cut lo hi m).a=some ⟨b,off+lo*m,none⟩:=by
 unfold Sl.cut;by_cases h:s.cap=lo
 .left;simp[h,a]
 .right;simp[h,a,kL]
theorem NM{i:Nat×Nat}{w:World}{s:Sl}{t:TypeId}{m k:Nat}{xs:List Value}(h:jk i (World.hp w) s t m xs)(o:k<=s.len):(Builtin.firstCells m k s.v).run P w=.ok (xs.take (k*m)).toArray w:=by
 have j:=h.cut (kQ k) o;have:=ux (P:=P) j;simp only[vz,eX,px]at this;have e:(s.cut 0 k m).len=k:=by simp[Sl.cut]
 rw[e]at this;rw[<-this]
 cases g:s.a with
 |none=>simp[Builtin.firstCells,Sl.v,Sl.cut,g]
 |some a=>
  by_cases f:s.cap=0
  .simp[Builtin.firstCells,Sl.v,Sl.cut,g,f]
  .have:Addr.add a 0=a:=by unfold Addr.add;simp
   simp[Builtin.firstCells,Sl.v,Sl.cut,g,f,this]
theorem br.copy{α:Type}[an α]{x y:Operand}{t t2 el:TypeId}{i m lo hi:Nat}{s s2:Sl}{xs ys:List α}{cs:List Value}(hg:gd=none)(H:dst=some d)(hn:d<n.n)(hx:ev e x=some (s.cut lo hi m).v)(hy:ev e y=some s2.v)(hu:∀w,(underlying t).run P w=.ok (.slice el) w)
 (hs:∀w,(sizeOf el).run P w=.ok m w) (hm:m=sz α) (hp:0<sz α) (S:L[i]?=some (.own s el m cs)) (A:cs=aa xs) (h2:Rd w0 F L s2 ys) (h0:lo<=hi) (h1:hi<=xs.length)
 (k:br P n w0 ops Q l ((d,.int .i64 ((min (hi-lo) ys.length:Nat):Int))::e) F (L.set i (.own s el m (aa (gA xs lo hi ys))))):br P n w0 ops Q (⟨dst,.call ⟨.builtin .copy,#[x,y],#[t,t2]⟩,ty,pos,bo,gd⟩::l) e F L:=
 gQ hg λa w h hw=>by
  subst H A hm;have W:jj (World.hp w) s el (sz α) (aa xs):=hw.get S;have hlen:=W.len hp;obtain⟨FB,FL,h3⟩:=h2 w hw;have B:=h3.len hp;have hq:min s2.len (hi-lo)=min (hi-lo) ys.length:=by rw[B,Nat.min_comm]
  have f:=NM (P:=P) h3 (k:=min (hi-lo) ys.length) O;rw[<-vg]at f;have M:ys.take (hi-lo)=ys.take (min (hi-lo) ys.length):=by
   by_cases hc:hi-lo<=ys.length
   .rw[ir hc]
   .rw[Nat.min_eq_right O,gN O,gN O]
  have qq:(ys.take (hi-lo)).length=min (hi-lo) ys.length:=by simp
  unfold Oper.wp;by_cases V:min (hi-lo) ys.length=0
  . -- nothing is copied
   have C:gA xs lo hi ys=xs:=by unfold gA;rw[M,V];simp
   rw[C,mw S,<-my S,V]at k;rw[V]at f;have o:(execOp a.eval ⟨some d,.call ⟨.builtin .copy,#[x,y],#[t,t2]⟩,ty,pos,bo,gd⟩).run P w=.ok (.value (.int .i64 0)) w:=by
    simp[execOp,resolve,invoke,builtin,Builtin.copy_,h.eval hx,h.eval hy,hu,hs,Sl.v,Builtin.lenOf,Sl.cut,hq,V,goInt];simp[Sl.v]at f;rw[f];cases WU:s.a<;>simp[yi,storeCells]
    split<;>simp
   rw[o,Oper.upon_value];exact k _ _ (h.put hn _) hw
  .rcases W.2.2 with⟨g2,_⟩|⟨b,off,pre,post,T,hh,ho,D,A⟩
   .omega
   .have yE:(s.cut lo hi (sz α)).a=some ⟨b,off+lo*sz α,none⟩:=by
     rcases ya (s:=s) (lo:=lo) (hi:=hi) (m:=sz α) T with⟨_,h9⟩|h9
     .omega
     .exact h9
    have e1:aa xs=aa (xs.take lo)++(aa ((xs.drop lo).take (min (hi-lo) ys.length))++aa (xs.drop (lo+min (hi-lo) ys.length))):=by rw[<-hC,<-hC];congr 1;rw[<-nC,eQ,eQ]
    have e2:aa (gA xs lo hi ys)=aa (xs.take lo)++(aa (ys.take (hi-lo))++aa (xs.drop (lo+min (hi-lo) ys.length))):=by unfold gA;rw[hC,hC]
    have j:bQ (aa xs) (lo*sz α) (aa (ys.take (hi-lo))) (aa (gA xs lo hi ys)):=by
     refine⟨aa (xs.take lo),aa ((xs.drop lo).take (min (hi-lo) ys.length)),aa (xs.drop (lo+min (hi-lo) ys.length)),e1,?_,?_,e2⟩
     .rw[eD,fE,ir O]
     .rw[eD,eD,qq,fE,ig,ir O]
    have z:bQ (pre++(aa xs++post)) (off+lo*sz α) (aa (ys.take (hi-lo))) (pre++(aa (gA xs lo hi ys)++post)):=cr ho (eS j);have q:=run_storeCells_at (P:=P) b (off+lo*sz α) el (aa (ys.take (hi-lo))) 0 (pre++(aa xs++post)).toArray w hh (by have:=z.le;simp at this ⊢;omega) (by intro u mK;exact lQ.1 (qe _) u mK);simp only[lj]at q;rw[z.eq]at q;have o:(execOp a.eval ⟨some d,.call ⟨.builtin .copy,#[x,y],#[t,t2]⟩,ty,pos,bo,gd⟩).run P w=.ok (.value (.int .i64 ((min (hi-lo) ys.length:Nat):Int))) (w.setRow b (pre++(aa (gA xs lo hi ys)++post)).toArray):=by have p:(s.cut lo hi (sz α)).len=hi-lo:=X;rw[<-M]at f;simp[Sl.v]at f q;simp[execOp,resolve,invoke,builtin,Builtin.copy_,h.eval hx,h.eval hy,hu,hs,Sl.v,Builtin.lenOf,yE,p,hq,goInt,f,q]
    rw[o,Oper.upon_value];refine k _ _ (h.put hn _) (hw.setRow S (by simp[Item.df,Sl.df,T]) (by simp[Item.df,Sl.df,T]) λg mJ=>?_);have p:(aa (gA xs lo hi ys)).length=(aa xs).length:=j.len;refine⟨by rw[p];exact W.1,W.2.1,.inr ⟨b,off,pre,post,T,mJ _ _ _ hh,ho,D,?_⟩⟩;rw[cH,p,<-cH];exact A
theorem Uu(s:Sl)(m:Nat):s.cut 0 s.len m=s:=by
 unfold Sl.cut
 cases s with
 |mk a len cap=>
  cases a with
  |none=>simp
  |some a=>(have:Addr.add a 0=a:=by unfold Addr.add;simp);simp[this]
theorem R6{α:Type}[an α]{x y:Operand}{t t2 el:TypeId}{i m:Nat}{s p:Sl}{xs ys:List α}{cs:List Value}(z:gd=none)(f:dst=some d)(C:d<n.n)(M:ev e x=some s.v)(S:ev e y=some p.v)(H:∀w,(underlying t).run P w=.ok (.slice el) w)
 (D:∀w,(sizeOf el).run P w=.ok m w) (B:m=sz α) (hp:0<sz α) (j:L[i]?=some (.own s el m cs)) (g:cs=aa xs) (q:Rd w0 F L p ys)
 (k:br P n w0 ops Q l ((d,.int .i64 (oj 0 xs.length ys))::e) F (L.set i (.own s el m (aa (gA xs 0 xs.length ys))))):br P n w0 ops Q (⟨dst,.call ⟨.builtin .copy,#[x,y],#[t,t2]⟩,ty,pos,bo,gd⟩::l) e F L:=λa w h o=>by
 subst B g;have A:jj (World.hp w) s el (sz α) (aa xs):=o.get j;refine br.copy (lo:=0) (hi:=xs.length) z f C ?_ S H D X hp j X q O O k a w h o;rw[<-A.len hp,Uu];exact M
theorem PW{x y z u:Operand}{i j k m:Int}{f:Array TypeId}(o:ev e x=some (.int .i64 i))(p:ev e y=some (.int .i64 j))(q:ev e z=some (.int .i64 k))(g:ev e u=some (.int .i64 m)):
 Ev P n w0 e F L ⟨dst,.call ⟨.builtin .min,#[x,y,z,u],f⟩,ty,pos,bo,gd⟩ (.int .i64 (min (min (min i j) k) m)):=λa w h s=>by
 simp[execOp,resolve,invoke,builtin,Builtin.min_,Builtin.min2,h.eval o,h.eval p,h.eval q,h.eval g];split<;>split<;>split<;>omega
theorem Ss{f:FuncId}{args:List Value}(hp:L.Perm L')(h:Ok P w0 f args F L' (Is v L')):Ok P w0 f args F L (Is v L):=
 λw p=>(h w (p.perm hp)).mono λ_ _⟨a,g,u,i,j,k,m,o⟩=>⟨a,L,u,i,j,by subst o;exact k.perm hp.symm,m,X⟩
theorem Bz{α:Type}[an α]{i m:Nat}{s:Sl}{t:TypeId}{xs:List α}{cs:List Value}(o:L[i]?=some (.own s t m cs))(g:cs=aa xs)(q:m=sz α)(hp:0<sz α)(h:s.len=xs.length->xs.length<=s.cap->br P n w0 ops Q l e F L):br P n w0 ops Q l e F L:=λa w p k=>by
 subst g q;have j:jj (World.hp w) s t (sz α) (aa xs):=k.get o;have f:=j.len hp;have A:s.len<=s.cap:=by rcases j.2.2 with⟨x,y⟩|⟨_,_,_,_,_,_,_,z,_⟩<;>omega
 exact h f O a w p k
theorem PB{x a b c:Operand}{t el:TypeId}{s:Sl}{i j k:Int}{m:Nat}(A:ev e x=some s.v)(o:ev e a=some (.int .i64 i))(p:ev e b=some (.int .i64 j))(q:ev e c=some (.int .i64 k))(z:∀w,(underlying t).run P w=.ok (.slice el) w)(y:∀w,(sizeOf el).run P w=.ok m w)
 (f:0<=i) (B:i<=j) (C:j<=k) (g:k<=s.cap):Ev P n w0 e F L ⟨dst,.slice t x (some a) (some b) (some c),ty,pos,bo,gd⟩ (.slice (if k.toNat=i.toNat then s.a else s.a.map (·.add (i.toNat*m))) (j.toNat-i.toNat) (k.toNat-i.toNat)):=λac w h D=>by
 simp[execOp,Instr.sliceAt,h.eval A,h.eval o,h.eval p,h.eval q,z,Sl.v,Instr.slice,Instr.sliceBounds,run_sliceBound (P:=P) (w:=w) (i:=k) (m:=s.cap) O g,run_sliceBound (P:=P) (w:=w) (i:=j) (m:=k.toNat) O O,run_sliceBound (P:=P) (w:=w) (i:=i) (m:=j.toNat) f O,y]
theorem PC{x a b:Operand}{t el:TypeId}{s:Sl}{i j:Int}{m:Nat}(y:ev e x=some s.v)(k:ev e a=some (.int .i64 i))(o:ev e b=some (.int .i64 j))(q:∀w,(underlying t).run P w=.ok (.slice el) w)(p:∀w,(sizeOf el).run P w=.ok m w)
 (f:0<=i) (z:i<=j) (g:j<=s.cap):Ev P n w0 e F L ⟨dst,.slice t x (some a) (some b) none,ty,pos,bo,gd⟩ (Sl.v (s.cut i.toNat j.toNat m)):=λac w h A=>by
 simp[execOp,Instr.sliceAt,h.eval y,h.eval k,h.eval o,q,Sl.v,Instr.slice,Instr.sliceBounds,run_sliceBound (P:=P) (w:=w) (i:=j) (m:=s.cap) O g,run_sliceBound (P:=P) (w:=w) (i:=i) (m:=j.toNat) f O,p,Sl.cut]
theorem br.shift{α:Type}[an α]{x y:Operand}{t el:TypeId}{k i j m:Nat}{inf:TypeInfo}{s:Sl}{xs:List α}{cs:List Value}(hg:gd=none)(S:dst=some d)(hn:d<n.n)(hx:ev e x=some (s.cut 0 i m).v)(hy:ev e y=some (s.cut j xs.length m).v)(hu:∀w,(underlying t).run P w=.ok (.slice el) w)
 (hi:∀w,(typeInfo el).run P w=.ok inf w) (W:inf.size=m) (qm:m=sz α) (hp:0<sz α) (hL:L[k]?=some (.own s el m cs)) (C:cs=aa xs) (h1:i<=j) (h2:j<=xs.length)
 (kk:br P n w0 ops Q l ((d,Sl.v ⟨s.a,i+(xs.length-j),s.cap⟩)::e) F (L.set k (.own ⟨s.a,i+(xs.length-j),s.cap⟩ el m (aa (xs.take i++xs.drop j))))):br P n w0 ops Q (⟨dst,.call ⟨.builtin .append,#[x,y],#[t,t]⟩,ty,pos,bo,gd⟩::l) e F L:=
 gQ hg λa w h hw=>by
  subst S C qm;have T:jj (World.hp w) s el (sz α) (aa xs):=hw.get hL;have hlen:=T.len hp;have z:=ux (P:=P) (T.cut h2 (by omega:xs.length<=s.len));have q:(s.cut j xs.length (sz α)).len=xs.length-j:=X;have M:(s.cut 0 i (sz α)).len=i:=by simp[Sl.cut]
  have H:(s.cut 0 i (sz α)).cap=s.cap:=by simp[Sl.cut]
  have D:(s.cut 0 i (sz α)).a=s.a:=by
   cases V:s.a with
   |none=>simp[Sl.cut,V]
   |some ad=>(have:Addr.add ad 0=ad:=by unfold Addr.add;simp);simp[Sl.cut,V,this]
  have vo:s.len<=s.cap:=by rcases T.2.2 with⟨h1,h2⟩|⟨_,_,_,_,_,_,_,h4,_⟩<;>omega
  rw[q]at z;have UW:((aa xs).drop (j*sz α)).take ((xs.length-j)*sz α)=aa (xs.drop j):=by rw[<-yh,<-vg,gN (by simp)]
  rw[UW]at z;have o:i+(xs.length-j)<=s.cap:=by omega
  have LF:(aa (xs.take i++xs.drop j)).length=(i+(xs.length-j))*sz α:=by rw[eD,cH,fE,ig,ir O]
  unfold Oper.wp;rcases T.2.2 with⟨g2,g3⟩|⟨b,off,pre,post,hb,hh,ho,aeX,C⟩
  . -- nothing there
   have W3:xs=[]:=pC.1 O;subst W3;have Wr:j=0:=by simpa using h2
   have Wp:i=0:=by omega
   subst Wr Wp;have p:(execOp a.eval ⟨some d,.call ⟨.builtin .append,#[x,y],#[t,t]⟩,ty,pos,bo,gd⟩).run P w=.ok (.value (Sl.v ⟨s.a,0+(([]:List α).length-0),s.cap⟩)) w:=by
    have Vm:∀a:Option Addr,(Builtin.firstCells (sz α) 0 (.slice a 0 0)).run P w=.ok #[] w:=λa=>by cases a<;>simp[Builtin.firstCells,loadCells,loadCellsFrom]
    simp[execOp,resolve,invoke,builtin,h.eval hx,h.eval hy,Builtin.append_,hu,sizeOf,hi,W,Builtin.lenOf,Sl.v,D,M,H,q,g3];cases s.a<;>simp[Vm,storeCells]
   rw[p,Oper.upon_value];refine kk _ _ (h.put hn _) ?_;have hq:L.set k (.own ⟨s.a,0+(([]:List α).length-0),s.cap⟩ el (sz α) (aa (([]:List α).take 0++([]:List α).drop 0)))=L.set k (.own s el (sz α) (aa ([]:List α))):=by
    have WS:s=⟨s.a,0,s.cap⟩:=by cases s;simp_all
    conv=>rhs;rw[WS]
    simp
   rw[hq,mw hL,<-my hL];exact hw
  .have e1:aa xs=aa (xs.take i)++(aa ((xs.drop i).take (xs.length-j))++aa (xs.drop (i+(xs.length-j)))):=by
    rw[<-hC,<-hC];congr 1;rw[<-nC,eQ,eQ]
   have f:bQ (aa xs) (i*sz α) (aa (xs.drop j)) (aa (xs.take i++xs.drop j)++aa (xs.drop (i+(xs.length-j)))):=by
    refine⟨aa (xs.take i),aa ((xs.drop i).take (xs.length-j)),aa (xs.drop (i+(xs.length-j))),e1,?_,?_,by rw[hC];simp⟩
    .rw[eD,fE,ir O]
    .rw[eD,eD,fE,ig,ig,ir O]
   have B:bQ (pre++(aa xs++post)) (off+i*sz α) (aa (xs.drop j)) (pre++((aa (xs.take i++xs.drop j)++aa (xs.drop (i+(xs.length-j))))++post)):=cr ho (eS f);have A:=run_storeCells_at (P:=P) b (off+i*sz α) el (aa (xs.drop j)) 0 (pre++(aa xs++post)).toArray w hh (by have:=B.le;simp at this ⊢;omega) (by intro u mK;exact lQ.1 (qe _) u mK);simp only[lj]at A;rw[B.eq]at A;have p:(execOp a.eval ⟨some d,.call ⟨.builtin .append,#[x,y],#[t,t]⟩,ty,pos,bo,gd⟩).run P w=.ok (.value (Sl.v ⟨s.a,i+(xs.length-j),s.cap⟩)) (w.setRow b (pre++((aa (xs.take i++xs.drop j)++aa (xs.drop (i+(xs.length-j))))++post)).toArray):=by simp[Sl.v,q]at z;simp at A;have hz0:((i:Int)+((xs.length-j:Nat):Int)=0->False)\/True:=.inr cy;simp[execOp,resolve,invoke,builtin,h.eval hx,h.eval hy,Builtin.append_,hu,sizeOf,hi,W,Builtin.lenOf,Sl.v,D,M,H,q,hb,o,z,kL,A]
   rw[p,Oper.upon_value];refine kk _ _ (h.put hn _) (hw.setRow hL (by simp[Item.df,Sl.df,hb]) (by simp[Item.df,Sl.df,hb]) λg mJ=>?_);refine⟨LF,by have:=T.2.1;simp only;omega,.inr ⟨b,off,pre,aa (xs.drop (i+(xs.length-j)))++post,hb,by rw[mJ _ _ _ hh];simp,ho,o,?_⟩⟩;have hle:=f.len;rw[cH]at hle C ⊢;rw[cH];simp only;omega
theorem R4{α:Type}[an α]{x:Operand}{t el:TypeId}{i j k m:Nat}{z:Value}{s:Sl}{xs:List α}{cs:List Value}(hg:gd=none)(C:dst=none)(hx:ev e x=some (s.cut i j m).v)(hu:∀w,(underlying t).run P w=.ok (.slice el) w)
 (hz:∀w,(zeroValue el).run P w=.ok z w) (z0:α) (D:z.cells=(enc z0).toArray) (qm:m=sz α) (hp:0<sz α) (M:L[k]?=some (.own s el m cs)) (p:cs=aa xs) (h1:xs.length<=i) (h2:j<=s.cap)
 (kk:br P n w0 ops Q l e F L):br P n w0 ops Q (⟨dst,.call ⟨.builtin .clear,#[x],#[t]⟩,ty,pos,bo,gd⟩::l) e F L:=
 gQ hg λa w h hw=>by
  subst C p qm;have S:jj (World.hp w) s el (sz α) (aa xs):=hw.get M;have hlen:=S.len hp;unfold Oper.wp;by_cases yL:j-i=0
  .have f:(execOp a.eval ⟨none,.call ⟨.builtin .clear,#[x],#[t]⟩,ty,pos,bo,gd⟩).run P w=.ok (.value (.tuple #[])) w:=by
    have T:(s.cut i j (sz α)).len=0:=yL;simp[execOp,resolve,invoke,builtin,h.eval hx,Builtin.clear_,hu,Sl.v,T];cases (s.cut i j (sz α)).a<;>simp
   rw[f,Oper.upon_value];exact kk _ _ h hw
  .rcases S.2.2 with⟨g2,g3⟩|⟨b,off,pre,post,V,hh,ho,B,p⟩
   .omega
   .have W:(s.cut i j (sz α)).a=some ⟨b,off+i*sz α,none⟩:=by
     rcases ya (s:=s) (lo:=i) (hi:=j) (m:=sz α) V with⟨_,h9⟩|h9
     .omega
     .exact h9
    have H:(aa (List.replicate (j-i) z0)).length=(j-i)*sz α:=by rw[eD];simp
    have hmul:j*sz α<=s.cap*sz α:=pt _ h2;have ae2:(j-i)*sz α=j*sz α-i*sz α:=Nat.sub_mul _ _ _;have ae3:xs.length*sz α<=i*sz α:=pt _ h1;have ae4:i*sz α<=j*sz α:=pt _ O;have rI:(aa xs).length=xs.length*sz α:=eD xs;rw[cH]at p;have y:bQ (pre++(aa xs++post)) (off+i*sz α) (aa (List.replicate (j-i) z0)) (pre++(aa xs++(post.take (i*sz α-xs.length*sz α)++(aa (List.replicate (j-i) z0)++post.drop (i*sz α-xs.length*sz α+(j-i)*sz α))))):=by
     refine⟨pre++(aa xs++post.take (i*sz α-xs.length*sz α)),(post.drop (i*sz α-xs.length*sz α)).take ((j-i)*sz α),post.drop (i*sz α-xs.length*sz α+(j-i)*sz α),?_,?_,?_,?_⟩
     .simp only[fL];congr 2;rw[<-nC,eQ,eQ]
     .simp only[cH,fE,rI];omega
     .rw[fE,ig,H];omega
     .simp only[fL]
    have o:=run_storeCells_at (P:=P) b (off+i*sz α) el (aa (List.replicate (j-i) z0)) 0 (pre++(aa xs++post)).toArray w hh (by have:=y.le;simp at this ⊢;omega) (by intro u mK;exact lQ.1 (qe _) u mK);simp only[lj]at o;rw[y.eq]at o;have A:(Builtin.zeroCells z.cells (j-i)).toList=aa (List.replicate (j-i) z0):=by
     have qq:z.cells.size=sz α:=by rw[D];simp[an.len]
     have:=wJ hp D (j-i);unfold Builtin.zeroCells;rw[qq]at this ⊢;rw[this]
    have f:(execOp a.eval ⟨none,.call ⟨.builtin .clear,#[x],#[t]⟩,ty,pos,bo,gd⟩).run P w=.ok (.value (.tuple #[])) (w.setRow b (pre++(aa xs++(post.take (i*sz α-xs.length*sz α)++(aa (List.replicate (j-i) z0)++post.drop (i*sz α-xs.length*sz α+(j-i)*sz α))))).toArray):=by
     have tA:∃q,j-i=q+1:=⟨j-i-1,by omega⟩
     obtain⟨q,hq⟩:=tA;have T:(s.cut i j (sz α)).len=q+1:=hq;rw[hq]at A o ⊢
     try simp at o
     simp[execOp,resolve,invoke,builtin,h.eval hx,Builtin.clear_,hu,Sl.v,T,W,hz,A,o]
    rw[f,Oper.upon_value];refine kk _ _ h ?_;have:=hw.setRow (it':=.own s el (sz α) (aa xs)) M (b:=b) (cs:=pre++(aa xs++(post.take (i*sz α-xs.length*sz α)++(aa (List.replicate (j-i) z0)++post.drop (i*sz α-xs.length*sz α+(j-i)*sz α))))) (by simp[Item.df,Sl.df,V]) X λg mJ=>?_
    .rwa[mw M,<-my M]at this
    .refine⟨S.1,S.2.1,.inr ⟨b,off,pre,_,V,mJ _ _ _ hh,ho,B,?_⟩⟩;simp only[cH,fE,ig,H]at p ⊢;omega
theorem R5{α:Type}[an α]{x:Operand}{t el:TypeId}{i lo hi m:Nat}{z:Value}{s:Sl}{xs:List α}{cs:List Value}(hg:gd=none)(H:dst=none)(hx:ev e x=some (s.cut lo hi m).v)(hu:∀w,(underlying t).run P w=.ok (.slice el) w)
 (hz:∀w,(zeroValue el).run P w=.ok z w) (z0:α) (M:z.cells=(enc z0).toArray) (qm:m=sz α) (hp:0<sz α) (S:L[i]?=some (.own s el m cs)) (A:cs=aa xs) (h0:lo<=hi) (h1:hi<=xs.length)
 (k:br P n w0 ops Q l e F (L.set i (.own s el m (aa (mD xs lo hi z0))))):br P n w0 ops Q (⟨dst,.call ⟨.builtin .clear,#[x],#[t]⟩,ty,pos,bo,gd⟩::l) e F L:=
 gQ hg λa w h hw=>by
  subst H A qm;have V:jj (World.hp w) s el (sz α) (aa xs):=hw.get S;have hlen:=V.len hp;unfold Oper.wp;by_cases yL:hi-lo=0
  .have B:mD xs lo hi z0=xs:=by
    have:hi=lo:=by omega
    subst this;unfold mD;simp
   rw[B,mw S,<-my S]at k;have j:(execOp a.eval ⟨none,.call ⟨.builtin .clear,#[x],#[t]⟩,ty,pos,bo,gd⟩).run P w=.ok (.value (.tuple #[])) w:=by have W:(s.cut lo hi (sz α)).len=0:=yL;simp[execOp,resolve,invoke,builtin,h.eval hx,Builtin.clear_,hu,Sl.v,W];cases (s.cut lo hi (sz α)).a<;>simp
   rw[j,Oper.upon_value];exact k _ _ h hw
  .rcases V.2.2 with⟨g2,g3⟩|⟨b,off,pre,post,T,hh,ho,C,A⟩
   .omega
   .have yE:(s.cut lo hi (sz α)).a=some ⟨b,off+lo*sz α,none⟩:=by
     rcases ya (s:=s) (lo:=lo) (hi:=hi) (m:=sz α) T with⟨_,h9⟩|h9
     .omega
     .exact h9
    have W8:(aa (List.replicate (hi-lo) z0)).length=(hi-lo)*sz α:=by rw[eD];simp
    have e1:aa xs=aa (xs.take lo)++(aa ((xs.drop lo).take (hi-lo))++aa (xs.drop hi)):=by rw[<-hC,<-hC];congr 1;rw[show xs.drop hi=(xs.drop lo).drop (hi-lo) by rw[nC,show lo+(hi-lo)=hi by omega],eQ,eQ]
    have f:bQ (aa xs) (lo*sz α) (aa (List.replicate (hi-lo) z0)) (aa (mD xs lo hi z0)):=by
     refine⟨aa (xs.take lo),aa ((xs.drop lo).take (hi-lo)),aa (xs.drop hi),e1,?_,?_,by unfold mD;rw[hC,hC]⟩
     .rw[eD,fE,ir O]
     .rw[eD,W8,fE,ig,ir O]
    have p:bQ (pre++(aa xs++post)) (off+lo*sz α) (aa (List.replicate (hi-lo) z0)) (pre++(aa (mD xs lo hi z0)++post)):=cr ho (eS f);have o:=run_storeCells_at (P:=P) b (off+lo*sz α) el (aa (List.replicate (hi-lo) z0)) 0 (pre++(aa xs++post)).toArray w hh (by have:=p.le;simp at this ⊢;omega) (by intro u mK;exact lQ.1 (qe _) u mK);simp only[lj]at o;rw[p.eq]at o;have y:(Builtin.zeroCells z.cells (hi-lo)).toList=aa (List.replicate (hi-lo) z0):=by
     have qq:z.cells.size=sz α:=by rw[M];simp[an.len]
     have:=wJ hp M (hi-lo);unfold Builtin.zeroCells;rw[qq]at this ⊢;rw[this]
    have j:(execOp a.eval ⟨none,.call ⟨.builtin .clear,#[x],#[t]⟩,ty,pos,bo,gd⟩).run P w=.ok (.value (.tuple #[])) (w.setRow b (pre++(aa (mD xs lo hi z0)++post)).toArray):=by
     have tA:∃q,hi-lo=q+1:=⟨hi-lo-1,by omega⟩
     obtain⟨q,hq⟩:=tA;have W:(s.cut lo hi (sz α)).len=q+1:=hq;rw[hq]at y o
     try simp at o
     simp[execOp,resolve,invoke,builtin,h.eval hx,Builtin.clear_,hu,Sl.v,W,yE,hz,y,o]
    rw[j,Oper.upon_value];refine k _ _ h (hw.setRow S (by simp[Item.df,Sl.df,T]) (by simp[Item.df,Sl.df,T]) λg mJ=>?_);have D:=f.len;refine⟨by rw[D];exact V.1,V.2.1,.inr ⟨b,off,pre,post,T,mJ _ _ _ hh,ho,C,?_⟩⟩;rw[cH,D,<-cH];exact A
theorem RT{α:Type}[an α]{x y:Operand}{t t2 el:TypeId}{i m k:Nat}{ki:IntKind}{j:TypeInfo}{z:Value}(z0:α)(hg:gd=none)(H:dst=some d)(hn:d<n.n)(hx:ev e x=some (Sl.v Sl.nil))(hy:ev e y=some (.int .i64 (k:Int)))(hu:∀w,(underlying t).run P w=.ok (.slice el) w)
 (V:∀w,(underlying t2).run P w=.ok (.int ki) w) (hi:∀w,(typeInfo el).run P w=.ok j w) (T:j.size=m) (hz:j.zero=some z) (oy:z.cells=(enc z0).toArray) (qm:m=sz α) (hm:(m==0)=false) (D:k<=2^40) (kB:(decide (j.bytes<=128))=true) (hL:L[i]?=some (.own Sl.nil el m []))
 (kk:∀s':Sl,br P n w0 ops Q l ((d,s'.v)::e) F (L.set i (.own s' el m (aa (List.replicate k z0))))):br P n w0 ops Q (⟨dst,.call ⟨.builtin .append,#[x,y],#[t,t2]⟩,ty,pos,bo,gd⟩::l) e F L:=
 gQ hg λa w h hw=>by
  subst H qm;have h0:0<sz α:=by(have:¬sz α=0:=by simpa using hm);omega
  have s:j.bytes<=128:=by simpa using kB
  have W:IntKind.i64.wrap (k:Int)=k:=bT O O;have A:¬((2:Int)^48<(k:Int)*(j.bytes:Int)):=by have:k*j.bytes<=2^40*128:=tH D s;omega
  have tA:¬((k:Int)<0):=by omega
  simp only[Int.reducePow]at A;unfold Oper.wp;by_cases hk:k=0
  .subst hk;have o:(execOp a.eval ⟨some d,.call ⟨.builtin .append,#[x,y],#[t,t2]⟩,ty,pos,bo,gd⟩).run P w=.ok (.value (Sl.v Sl.nil)) w:=by
    have W1:IntKind.i64.wrap 0=0:=bT O O;simp[execOp,resolve,invoke,builtin,h.eval hx,h.eval hy,Builtin.append_,hu,V,sizeOf,hi,T,asInt,asIntOf,W1,Sl.v,Sl.nil]
   rw[o,Oper.upon_value];refine kk Sl.nil _ _ (h.put hn _) ?_;have:L.set i (.own Sl.nil el (sz α) (aa (List.replicate 0 z0)))=L:=by rw[show aa (List.replicate 0 z0)=[]from X,mw hL];exact(my hL).symm
   rw[this];exact hw
  .have Gm:¬(k*sz α=0):=by
    intro hh;rcases Cj.1 hh with h'|h'<;>omega
   have p:k*j.bytes<=140737488355328:=kC (tH D s) ab;have M:¬(281474976710656<Builtin.nextslicecap k 0*j.bytes):=by have:=growslice_fits (need:=k) (old:=0) (bytes:=j.bytes) O p;omega
   have tr:¬(9223372036854775807<(k:Int)):=by omega
   have hg:k<=grownCap w k 0 el:=by unfold grownCap Question.cut;exact oB _ _
   have qq:z.cells.size=sz α:=by rw[oy];simp[an.len]
   have B:∀q,(Builtin.zeroCells z.cells q).toList=aa (List.replicate q z0):=λq=>by have:=wJ h0 oy q;unfold Builtin.zeroCells;rw[qq]at this ⊢;rw[this]
   have o:(execOp a.eval ⟨some d,.call ⟨.builtin .append,#[x,y],#[t,t2]⟩,ty,pos,bo,gd⟩).run P w=.ok (.value (.slice (some ⟨w.heap.size,0,none⟩) k (grownCap w k 0 el)))
    {w with drawn:=w.drawn+1,heap:=w.heap.push (.cells (aa (List.replicate k z0)++(Builtin.zeroCells z.cells (grownCap w k 0 el-k)).toList).toArray el)}:=by
    have Wj:(Builtin.firstCells (sz α) 0 (.slice none 0 0)).run P w.drew=.ok #[] w.drew:=by simp[Builtin.firstCells]
    have GC:Builtin.zeroCells z.cells k=(aa (List.replicate k z0)).toArray:=by apply ny;rw[B]
    simp[execOp,resolve,invoke,builtin,h.eval hx,h.eval hy,Builtin.append_,hu,V,sizeOf,hi,T,asInt,asIntOf,W,tA,A,zeroValue,hz,Sl.v,Sl.nil,hk,tr,M,Question.forced,newRow,grownCap];rw[Wj];simp[Gm,GC];generalize Builtin.zeroCells z.cells _=f;have C:(aa (List.replicate k z0)).toArray++f=(aa (List.replicate k z0)++f.toList).toArray:=by apply ny;simp
    first|rfl|(rw[C];rfl)|simp
   rw[o,Oper.upon_value];have S:=(hw.sublist (L':=L.eraseIdx i) (GU L i)).drew
   refine kk ⟨some ⟨w.heap.size,0,none⟩,k,grownCap w k 0 el⟩ _ _ (h.put hn _) ((S.new (i:=.own ⟨some ⟨w.heap.size,0,none⟩,k,grownCap w k 0 el⟩ el (sz α) (aa (List.replicate k z0)))
    (.cells (aa (List.replicate k z0)++(Builtin.zeroCells z.cells (grownCap w k 0 el-k)).toList).toArray el) X λg mJ=>?_).perm (set_perm hL))
   refine⟨by rw[eD];simp,by simp only;omega,.inr ⟨_,0,[],_,X,by simpa using mJ,X,hg,?_⟩⟩;rw[cH,eD,B,eD,pD,pD,<-nA];exact Nat.le_of_eq (by congr 1;simp only;omega)
theorem Ix{x:Operand}{t el:TypeId}{f:Array TypeId}(j:ev e x=some (Sl.v Sl.nil))(g:f[0]?=some t)(i:∀w,(underlying t).run P w=.ok (.slice el) w):Ev P n w0 e F L ⟨dst,.call ⟨.builtin .len,#[x],f⟩,ty,pos,bo,gd⟩ (.int .i64 0):=λa w h k=>by simp[execOp,resolve,invoke,builtin,Builtin.len_,g,h.eval j,i,Sl.v,Sl.nil,goInt]
theorem Iq{x:Operand}{t el:TypeId}{f:Array TypeId}(j:ev e x=some (Sl.v Sl.nil))(g:f[0]?=some t)(i:∀w,(underlying t).run P w=.ok (.slice el) w):Ev P n w0 e F L ⟨dst,.call ⟨.builtin .cap,#[x],f⟩,ty,pos,bo,gd⟩ (.int .i64 0):=λa w h k=>by simp[execOp,resolve,invoke,builtin,Builtin.cap_,g,h.eval j,i,Sl.v,Sl.nil,goInt]
theorem PD{x b:Operand}{t el:TypeId}{m:Nat}(j:ev e x=some (Sl.v Sl.nil))(a:ev e b=some (.int .i64 0))(g:∀w,(underlying t).run P w=.ok (.slice el) w)(f:∀w,(sizeOf el).run P w=.ok m w):Ev P n w0 e F L ⟨dst,.slice t x none (some b) none,ty,pos,bo,gd⟩ (Sl.v Sl.nil):=λac w h k=>by simp[execOp,Instr.sliceAt,h.eval j,h.eval a,g,Sl.v,Sl.nil,Instr.slice,Instr.sliceBounds,run_sliceBound (P:=P) (w:=w) (i:=0) (m:=0) O O,f]
theorem Fj{α:Type}{l:List α}(h:l=[]):((room ([]:List α) l).bind λ_=>some (([]:List α)++l))=some []:=by subst h;simp[room]
theorem abF{α:Type}{xs:List α}{i j:Nat}(a:i<=j)(f:j<=xs.length):(xs.take i++xs.drop j).length<=xs.length:=by simp;omega
end
abbrev tX:=@Ss
section
variable {P:Program}{n:Fm}{w0:World}{ops:Array Oper}{Q:Exit->Act->World->Prop}{K:Act->Prop}{l:List Oper}{e:List (Nat×Value)}{F F0:bM}{L L':List Item}{v:Value}{dst:Option Nat}{d:Nat}{ty:TypeId}{pos:String}{bo:Array Edge}{gd:Option (Nat×Bool)}
theorem St.abg{w:World}{i:Nat}{m it':Item}(h:St w0 F L w)(g:L[i]?=some m)(o:it'.df=m.df)(p:it'.holds (World.hp w)):St w0 F (L.set i it') w:=by
 have a:gp (L.set i it')=gp L:=by
  rw[mw g]
  conv=>rhs;rw[my g]
  rw[pi,pi,gM,gM,o]
 refine⟨h.below,h.kv,λb k=>h.apart b (by rw[a]at k;exact k),λj f=>?_,by rw[a];exact h.nodup⟩;rcases qu f with f|rfl
 .exact h.holds j f
 .exact p
theorem Pv{x:Operand}{s:Sl}{t el:TypeId}{f:Array TypeId}(j:ev e x=some s.v)(g:f[0]?=some t)(i:∀w,(underlying t).run P w=.ok (.slice el) w):Ev P n w0 e F L ⟨dst,.call ⟨.builtin .cap,#[x],f⟩,ty,pos,bo,gd⟩ (.int .i64 (s.cap:Int)):=λa w h k=>by simp[execOp,resolve,invoke,builtin,Builtin.cap_,g,h.eval j,i,Sl.v,goInt]
theorem PE{x b:Operand}{t el:TypeId}{s:Sl}{j:Int}{m q:Nat}(z:ev e x=some s.v)(k:ev e b=some (.int .i64 j))(o:j=(q:Int))(y:∀w,(underlying t).run P w=.ok (.slice el) w)(p:∀w,(sizeOf el).run P w=.ok m w)(A:q<=s.cap):
 Ev P n w0 e F L ⟨dst,.slice t x none (some b) none,ty,pos,bo,gd⟩ (Sl.v ⟨s.a,q,s.cap⟩):=λac w h B=>by
 subst o;have g:∀a:Addr,a.add 0=a:=λa=>by unfold Addr.add;simp
 have f:s.a.map (λa:Addr=>a.add 0)=s.a:=by cases s.a<;>simp[g]
 simp[execOp,Instr.sliceAt,h.eval z,h.eval k,y,Sl.v,Instr.slice,Instr.sliceBounds,run_sliceBound (P:=P) (w:=w) (i:=(q:Int)) (m:=s.cap) O O,p]
 try simp[f]
theorem Bj{x b:Operand}{t el:TypeId}{s:Sl}{j:Int}{m q:Nat}(o:ev e x=some s.v)(a:ev e b=some (.int .i64 j))(f:j=(q:Int))(k:∀w,(underlying t).run P w=.ok (.slice el) w)(g:∀w,(sizeOf el).run P w=.ok m w)(p:q<=s.len):
 Ev P n w0 e F L ⟨dst,.slice t x (some b) none none,ty,pos,bo,gd⟩ (Sl.v (s.cut q s.len m)):=λac w h y=>by
 subst f;simp[execOp,Instr.sliceAt,h.eval o,h.eval a,k,Sl.v,Instr.slice,Instr.sliceBounds,run_sliceBound (P:=P) (w:=w) (i:=(q:Int)) (m:=s.len) O O,g,Sl.cut]
theorem jk.XL{a:Nat×Nat}{h:Nat->Option Obj}{s:Sl}{t:TypeId}{m:Nat}{xs:List Value}(f:jk a h s t m xs):s.len<=s.cap:=by rcases f.2.2 with⟨g,i⟩|⟨_,_,_,_,_,_,_,j,_⟩<;>omega
theorem R7{α:Type}[an α]{j m q:Nat}{s:Sl}{t:TypeId}{xs:List α}{cs:List Value}(i:L[j]?=some (.own s t m cs))(f:cs=aa xs)(S:m=sz α)(hp:0<sz α)(A:xs.length+q<=s.cap)(k:xs.length+q<=2^63-1)
 (h:∀B:List Value,B.length=q*m->br P n w0 ops Q l e F (L.set j (.own ⟨s.a,xs.length+q,s.cap⟩ t m (aa xs++B)))):br P n w0 ops Q l e F L:=λa w x p=>by
 subst f S;have z:jj (World.hp w) s t (sz α) (aa xs):=p.get i;have g:=z.len hp;rcases z.2.2 with⟨W,g3⟩|⟨b,off,pre,post,H,M,T,y,f⟩
 .have C:q=0:=by omega
  subst C;refine h [] (by simp) a w x ?_;have V:(⟨s.a,xs.length+0,s.cap⟩:Sl)=s:=by cases s;simp only at g ⊢;rw[g];rfl
  rw[V,is,mw i,<-my i];exact p
 .have o:q*sz α<=post.length:=by
   have D:(xs.length+q)*sz α<=s.cap*sz α:=pt _ A;rw[nA]at D;rw[cH,eD]at f;omega
  refine h (post.take (q*sz α)) (by simp;omega) a w x (p.abg i X ?_);refine⟨by rw[cH,eD,fE,ir o,<-nA],k,.inr ⟨b,off,pre,post.drop (q*sz α),H,?_,T,A,?_⟩⟩
  .rw[fL,eQ];exact M
  .rw[fL,eQ];exact f
theorem RR{α:Type}[an α]{x y:Operand}{t t2 el:TypeId}{j m i k:Nat}{ki:IntKind}{o:TypeInfo}{z:Value}{s:Sl}{xs:List α}{cs:List Value}(z0:α)(hg:gd=none)(W:dst=some d)(hn:d<n.n)(hx:ev e x=some (s.cut 0 i m).v)(hy:ev e y=some (.int .i64 (k:Int)))(hu:∀w,(underlying t).run P w=.ok (.slice el) w)
 (WZ:∀w,(underlying t2).run P w=.ok (.int ki) w) (hi:∀w,(typeInfo el).run P w=.ok o w) (nu:o.size=m) (hz:o.zero=some z) (oy:z.cells=(enc z0).toArray) (qm:m=sz α) (hm:(m==0)=false) (qj:i+k<=2^40) (kB:(decide (o.bytes<=128))=true)
 (hL:L[j]?=some (.own s el m cs)) (yF:cs=aa xs) (h1:i<=xs.length) (Wm:s.cap<i+k)
 (kk:∀s':Sl,br P n w0 ops Q l ((d,s'.v)::e) F (.own s' el m (aa (xs.take i++List.replicate k z0))::L)):br P n w0 ops Q (⟨dst,.call ⟨.builtin .append,#[x,y],#[t,t2]⟩,ty,pos,bo,gd⟩::l) e F L:=
 gQ hg λa w h hw=>by
  subst W qm yF;have h0:0<sz α:=by(have:¬sz α=0:=by simpa using hm);omega
  have B:o.bytes<=128:=by simpa using kB
  have hl:jj (World.hp w) s el (sz α) (aa xs):=hw.get hL;have hlen:=hl.len h0;have yP:=hl.XL;have W2:IntKind.i64.wrap (k:Int)=k:=bT O O;have C:¬((2:Int)^48<(k:Int)*(o.bytes:Int)):=by have:k*o.bytes<=2^40*128:=tH O B;omega
  have tA:¬((k:Int)<0):=by omega
  simp only[Int.reducePow]at C;have hk:¬(k=0):=by omega
  have Gm:¬(k*sz α=0):=by intro hh;rcases Cj.1 hh with h'|h'<;>omega
  have p:(i+k)*o.bytes<=140737488355328:=kC (tH qj B) ab;have Wk:¬(281474976710656<Builtin.nextslicecap (i+k) s.cap*o.bytes):=by have:=growslice_fits (need:=i+k) (old:=s.cap) (bytes:=o.bytes) O p;omega
  have tr:¬(9223372036854775807<((i:Int)+(k:Int))):=by omega
  have Wl:i+k<=grownCap w (i+k) s.cap el:=by unfold grownCap Question.cut;exact oB _ _
  have S:¬(i+k<=s.cap):=by omega
  have qq:z.cells.size=sz α:=by rw[oy];simp[an.len]
  have D:∀q,(Builtin.zeroCells z.cells q).toList=aa (List.replicate q z0):=λq=>by have:=wJ h0 oy q;unfold Builtin.zeroCells;rw[qq]at this ⊢;rw[this]
  have H:(s.cut 0 i (sz α)).len=i:=by simp[Sl.cut]
  have T:(s.cut 0 i (sz α)).cap=s.cap:=by simp[Sl.cut]
  have A:=ux (P:=P) (w:={w with drawn:=w.drawn+1}) (hl.cut (kQ i) O).drew;simp only[vz,eX,px]at A;rw[<-vg,H]at A;unfold Oper.wp
  have Gw:(execOp a.eval ⟨some d,.call ⟨.builtin .append,#[x,y],#[t,t2]⟩,ty,pos,bo,gd⟩).run P w=.ok (.value (.slice (some ⟨w.heap.size,0,none⟩) (i+k) (grownCap w (i+k) s.cap el)))
   {w with drawn:=w.drawn+1,heap:=w.heap.push (.cells (aa (xs.take i++List.replicate k z0)++(Builtin.zeroCells z.cells (grownCap w (i+k) s.cap el-(i+k))).toList).toArray el)}:=by
   have GC:Builtin.zeroCells z.cells k=(aa (List.replicate k z0)).toArray:=by apply ny;rw[D]
   simp[Sl.v,H,T]at A;simp[execOp,resolve,invoke,builtin,h.eval hx,h.eval hy,Builtin.append_,hu,WZ,sizeOf,hi,nu,asInt,asIntOf,W2,tA,C,zeroValue,hz,Sl.v,H,T,hk,tr,Wk,S,Builtin.lenOf,Question.forced,newRow,grownCap];rw[A];simp[Gm,GC];generalize Builtin.zeroCells z.cells _=f;have V:(aa (xs.take i)).toArray++((aa (List.replicate k z0)).toArray++f)=(aa (xs.take i++List.replicate k z0)++f.toList).toArray:=by apply ny;simp[hC]
   have M:(aa (xs.take i)).toArray++(aa (List.replicate k z0)).toArray++f=(aa (xs.take i++List.replicate k z0)++f.toList).toArray:=by apply ny;simp[hC]
   first|rfl|(rw[V];rfl)|(rw[M];rfl)|simp[hC]
  rw[Gw,Oper.upon_value];have Gs:=hw.drew
  refine kk ⟨some ⟨w.heap.size,0,none⟩,i+k,grownCap w (i+k) s.cap el⟩ _ _ (h.put hn _) (Gs.new (i:=.own ⟨some ⟨w.heap.size,0,none⟩,i+k,grownCap w (i+k) s.cap el⟩ el (sz α) (aa (xs.take i++List.replicate k z0)))
   (.cells (aa (xs.take i++List.replicate k z0)++(Builtin.zeroCells z.cells (grownCap w (i+k) s.cap el-(i+k))).toList).toArray el) X λg mJ=>?_)
  refine⟨by rw[eD];simp[ir h1],by simp only;omega,.inr ⟨_,0,[],_,X,by simpa using mJ,X,Wl,?_⟩⟩;rw[cH,eD,D,eD,cH,fE,pD,pD,ir h1,<-nA];exact Nat.le_of_eq (by congr 1;simp only;omega)
theorem Jh{α:Type}[an α]{x y:Operand}{t t2 el:TypeId}{i m lo hi:Nat}{s M:Sl}{ys:List α}{cs:List Value}(hg:gd=none)(D:dst=some d)(hn:d<n.n)(hx:ev e x=some (s.cut lo hi m).v)(hy:ev e y=some M.v)(hu:∀w,(underlying t).run P w=.ok (.slice el) w)
 (hs:∀w,(sizeOf el).run P w=.ok m w) (hm:m=sz α) (hp:0<sz α) (S:L[i]?=some (.own s el m cs)) (h2:∀w,St w0 F L w->∃t fr zs,jk fr (World.hp w) M t m zs/\zs.take (ys.length*m)=aa ys) (hk:min (hi-lo) M.len=ys.length) (h0:lo<=hi) (h1:hi<=s.len)
 (k:br P n w0 ops Q l ((d,.int .i64 (ys.length:Int))::e) F (L.set i (.own s el m (cs.take (lo*m)++(aa ys++cs.drop ((lo+ys.length)*m)))))):br P n w0 ops Q (⟨dst,.call ⟨.builtin .copy,#[x,y],#[t,t2]⟩,ty,pos,bo,gd⟩::l) e F L:=
 gQ hg λa w h W=>by
  subst D hm;have V:jj (World.hp w) s el (sz α) cs:=W.get S;have A:=V.1;obtain⟨FB,FL,zs,h3,h4⟩:=h2 w W;have ql:ys.length<=hi-lo:=by omega
  have j:=NM (P:=P) h3 (k:=ys.length) O;rw[h4]at j;have hq:min M.len (hi-lo)=ys.length:=by rw[Nat.min_comm];exact hk
  unfold Oper.wp;by_cases he:ys.length=0
  .have W5:ys=[]:=pC.1 he;subst W5;have B:cs.take (lo*sz α)++(aa ([]:List α)++cs.drop ((lo+([]:List α).length)*sz α))=cs:=by
    simp[yi]
   rw[B,mw S,<-my S]at k;have o:(execOp a.eval ⟨some d,.call ⟨.builtin .copy,#[x,y],#[t,t2]⟩,ty,pos,bo,gd⟩).run P w=.ok (.value (.int .i64 ((([]:List α).length:Nat):Int))) w:=by
    have WQ:M.len.min (hi-lo)=0:=hq;simp[execOp,resolve,invoke,builtin,Builtin.copy_,h.eval hx,h.eval hy,hu,hs,Sl.v,Builtin.lenOf,Sl.cut,goInt];simp[Sl.v,yi]at j;rw[WQ,j];cases WU:s.a<;>simp[storeCells]
    split<;>simp
   rw[o,Oper.upon_value];exact k _ _ (h.put hn _) W
  .rcases V.2.2 with⟨g2,_⟩|⟨b,off,pre,post,T,hh,ho,q,yF⟩
   .omega
   .have yP:s.len<=s.cap:=q;have yE:(s.cut lo hi (sz α)).a=some ⟨b,off+lo*sz α,none⟩:=by
     rcases ya (s:=s) (lo:=lo) (hi:=hi) (m:=sz α) T with⟨_,h9⟩|h9
     .omega
     .exact h9
    have H:(lo+ys.length)*sz α<=s.len*sz α:=pt _ O;rw[nA]at H;have f:bQ cs (lo*sz α) (aa ys) (cs.take (lo*sz α)++(aa ys++cs.drop ((lo+ys.length)*sz α))):=by
     refine⟨cs.take (lo*sz α),(cs.drop (lo*sz α)).take (ys.length*sz α),cs.drop ((lo+ys.length)*sz α),?_,?_,?_,X⟩
     .rw[nA,<-nC,eQ,eQ]
     .rw[fE,ir O]
     .rw[eD,fE,ig,ir O]
    have z:bQ (pre++(cs++post)) (off+lo*sz α) (aa ys) (pre++((cs.take (lo*sz α)++(aa ys++cs.drop ((lo+ys.length)*sz α)))++post)):=cr ho (eS f);have p:=run_storeCells_at (P:=P) b (off+lo*sz α) el (aa ys) 0 (pre++(cs++post)).toArray w hh (by have:=z.le;simp at this ⊢;omega) (by intro u mK;exact lQ.1 (qe _) u mK);simp only[lj]at p;rw[z.eq]at p;have o:(execOp a.eval ⟨some d,.call ⟨.builtin .copy,#[x,y],#[t,t2]⟩,ty,pos,bo,gd⟩).run P w=.ok (.value (.int .i64 (ys.length:Int))) (w.setRow b (pre++((cs.take (lo*sz α)++(aa ys++cs.drop ((lo+ys.length)*sz α)))++post)).toArray):=by have C:(s.cut lo hi (sz α)).len=hi-lo:=X;simp[Sl.v]at j p;simp[execOp,resolve,invoke,builtin,Builtin.copy_,h.eval hx,h.eval hy,hu,hs,Sl.v,Builtin.lenOf,yE,C,hq,goInt,j,p]
    rw[o,Oper.upon_value];refine k _ _ (h.put hn _) (W.setRow S (by simp[Item.df,Sl.df,T]) (by simp[Item.df,Sl.df,T]) λg mJ=>?_);have A:(cs.take (lo*sz α)++(aa ys++cs.drop ((lo+ys.length)*sz α))).length=cs.length:=f.len;refine⟨by rw[A];exact V.1,V.2.1,.inr ⟨b,off,pre,post,T,mJ _ _ _ hh,ho,q,?_⟩⟩;rw[cH,A,<-cH];exact yF
theorem aa4{α:Type}[an α]{i m lo:Nat}{s:Sl}{t:TypeId}{cs:List Value}{ys:List α}{rest:List Value}(k:L[i]?=some (.own s t m cs))(h:lo<=s.len)(o:cs.drop (lo*m)=aa ys++rest)(p:m=sz α):
 ∀w,St w0 F L w->∃t g zs,jk g (World.hp w) (s.cut lo s.len m) t m zs/\zs.take (ys.length*m)=aa ys:=λw q=>by
 subst p;have f:jj (World.hp w) s t (sz α) cs:=q.get k;refine⟨t,_,_,f.cut h (dG _),?_⟩;have a:=f.1;have j:(cs.drop (lo*sz α)).length=(s.len-lo)*sz α:=by rw[ig,a,Nat.sub_mul]
 rw[gN (Nat.le_of_eq j),o,<-eD ys,vw];rfl
theorem aa5{α:Type}[an α]{s:Sl}{m:Nat}{ys:List α}(g:Rd w0 F L s ys)(f:m=sz α):∀w,St w0 F L w->∃t a zs,jk a (World.hp w) s t m zs/\zs.take (ys.length*m)=aa ys:=λw i=>by subst f;obtain⟨t,a,h⟩:=g w i;exact⟨t,a,_,h,by rw[<-eD ys,vx]⟩
theorem Vb{i j:Nat}{x y:Item}(hi:L[i]?=some x)(g:L[j]?=some y)(a:i≠j)(k:(gp L).Nodup){b:Nat}(m:b∈x.df):b ∉ y.df:=by
 intro o;have e:=my hi;rw[e,pi,gM]at k;have f:=vu.1 k;have p:=vu.1 f.2.1;rcases Nat.lt_or_gt_of_ne a with h|h
 .have:y∈L.drop (i+1):=by
   refine j8 (i:=j-(i+1)) ?_;rw[tK,show i+1+(j-(i+1))=j by omega];exact g
  exact p.2.2 b m b (tT this o) X
 .have:y∈L.take i:=by
   refine j8 (i:=j) ?_;rw[tL,bE h];exact g
  exact f.2.2 b (tT this o) b (vE _ m) X
theorem Sa{x y:Operand}{t r el:TypeId}{m i j lo hi:Nat}{s B:Sl}{cs ds:List Value}{V:Func}{f:FuncId}{M:Array TypeId}(hg:gd=none)(Wd:dst=some d)(hn:d<n.n)(hx:ev e x=some B.v)(hy:ev e y=some (s.cut lo hi m).v)(hu:P.underlying t=some (.slice el))(hs:∀w,(sizeOf el).run P w=.ok m w)
 (hf:P.funcs[f]?=some V) (H:(V.name== "runtime.NumGoroutine")=false) (hb:V.body.isNone=true) (lM:Extern.findNext V=none) (he:Extern.find V=some (Extern.SlicesOverlaps.overlaps #[t,t] #[r]))
 (hL:L[i]?=some (.own s el m cs)) (W:L[j]?=some (.own B el m ds)) (yL:i≠j) (h1:0<s.len) (h2:0<B.len) (hm:0<m)
 (k:br P n w0 ops Q l ((d,.bool false)::e) F L):br P n w0 ops Q (⟨dst,.call ⟨.value (.func f),#[x,y],M⟩,ty,pos,bo,gd⟩::l) e F L:=
 gQ hg λa w h hw=>by
  subst Wd;have hl:jj (World.hp w) s el m cs:=hw.get hL;have Lz:jj (World.hp w) B el m ds:=hw.get W;rcases hl.2.2 with⟨g,_⟩|⟨b,off,pre,post,qj,hh,ho,vo,yF⟩
  .omega
  rcases Lz.2.2 with⟨g,_⟩|⟨b2,C,D,A,kB,Wo,ho2,aeY,aeZ⟩
  .omega
  have yQ:b2≠b:=λq=>by subst q;exact Vb W hL (Ne.symm yL) hw.nodup (b:=b2) (by simp[Item.df,Sl.df,kB]) (by simp[Item.df,Sl.df,qj])
  have p:∃o,(s.cut lo hi m).a=some ⟨b,o,none⟩:=by
   rcases ya (s:=s) (lo:=lo) (hi:=hi) (m:=m) qj with⟨h9,_⟩|h9
   .exact⟨_,h9⟩
   .exact⟨_,h9⟩
  obtain⟨o,p⟩:=p;have Wn:w.heap[b]?=some (.cells (pre++(cs++post)).toArray el (0,0)):=hh;have z:w.heap[b2]?=some (.cells (D++(ds++A)).toArray el (0,0)):=Wo;have nu:(pre++(cs++post)).toArray.size≠0:=by have:0<s.cap*m:=Nat.mul_pos O hm;simp only[tF,cH]at yF ⊢;omega
  have WM:=Lib.run_overlaps_apart w t r el hu m hs ⟨b2,C,none⟩ ⟨b,o,none⟩ B.len B.cap (s.cut lo hi m).len (s.cut lo hi m).cap yQ el el (D++(ds++A)).toArray.size (pre++(cs++post)).toArray.size
   (by unfold World.shape?;rw[z]) (by unfold World.shape?;rw[Wn]) nu (by unfold World.frozen?;rw[z];simp) (by unfold World.frozen?;rw[z];simp)
  unfold Oper.wp;have Gw:(execOp a.eval ⟨some d,.call ⟨.value (.func f),#[x,y],M⟩,ty,pos,bo,gd⟩).run P w=.ok (.value (.bool false)) w:=by
   have hc:=run_callFunc_extern (P:=P) hf H hb lM he #[B.v,(s.cut lo hi m).v] w;have Gz:B.v=.slice (some ⟨b2,C,none⟩) B.len B.cap:=by unfold Sl.v;rw[kB]
   have LI:(s.cut lo hi m).v=.slice (some ⟨b,o,none⟩) (s.cut lo hi m).len (s.cut lo hi m).cap:=by unfold Sl.v;rw[p]
   rw[Gz,LI,WM]at hc;have S:=h.eval hx;have T:=h.eval hy;rw[Gz]at S;rw[LI]at T;simp[execOp,resolve,Deferred.ofValue,Act.eval,invoke,S,T];simp[Act.eval]at S T
   first|exact hc|(simp[S,T];exact hc)|(rw[hc];rfl)|(simp[S,T,hc];done)
  rw[Gw,Oper.upon_value];exact k _ _ (h.put hn _) hw
end
theorem Xg{V J A B:List Value}(g:J.length=V.length):(((A++B++J).take (A.length+V.length)++(B++(A++B++J).drop (A.length+V.length+B.length))).take A.length)++(V++(((A++B++J).take (A.length+V.length)++(B++(A++B++J).drop (A.length+V.length+B.length))).drop (A.length+V.length)))=A++V++B:=by
 have f:(A++B++J).drop (A.length+V.length+B.length)=[]:=ie (by simp;omega);have a:((A++B++J).take (A.length+V.length)).length=A.length+V.length:=by simp;omega
 rw[f,is,Cw a,GM (by rw[a];omega),List.take_take,ir O,fL,vw X,fL]
theorem Xh{α:Type}{xs ys:List α}{i:Nat}{z:α}(h:i<=xs.length):gA (gA (xs.take i++List.replicate (xs.length+ys.length-i) z) i (xs.take i++List.replicate (xs.length+ys.length-i) z).length ys) (i+ys.length) (gA (xs.take i++List.replicate (xs.length+ys.length-i) z) i (xs.take i++List.replicate (xs.length+ys.length-i) z).length ys).length (xs.drop i)=xs.take i++ys++xs.drop i:=by
 have m:(xs.take i++List.replicate (xs.length+ys.length-i) z).length=xs.length+ys.length:=by simp;omega
 have k:gA (xs.take i++List.replicate (xs.length+ys.length-i) z) i (xs.take i++List.replicate (xs.length+ys.length-i) z).length ys=xs.take i++(ys++List.replicate (xs.length-i) z):=by
  rw[m];unfold gA;rw[gN (show ys.length<=xs.length+ys.length-i by omega),vw (by simp;omega)];have e:i+min (xs.length+ys.length-i) ys.length=i+ys.length:=by omega
  rw[e,Cv,ie (by simp;omega),pq,fE,ir h,List.drop_replicate];congr 3;omega
 rw[k];have a:(xs.take i++(ys++List.replicate (xs.length-i) z)).length=xs.length+ys.length:=by simp;omega
 rw[a];unfold gA;have f:(xs.drop i).take (xs.length+ys.length-(i+ys.length))=xs.drop i:=gN (by simp;omega);have g:i+ys.length+min (xs.length+ys.length-(i+ys.length)) (xs.drop i).length=xs.length+ys.length:=by simp;omega
 have j:(xs.take i++(ys++List.replicate (xs.length-i) z)).drop (xs.length+ys.length)=[]:=ie (by rw[a];omega);rw[f,g,j,is,<-fL,vw (by simp;omega)]
theorem Ur{α:Type}{xs ys:List α}{lo hi:Nat}(a:lo<=hi)(f:hi<=xs.length):(gA xs lo hi ys).length=xs.length:=by unfold gA;simp;omega
theorem S1{α:Type}[an α]{w0:World}{F:bM}{L:List Item}(a:0<sz α){v:Sl}{xs:List α}{lo:Nat}(h:Rd w0 F L v xs)(f:lo<=xs.length):Rd w0 F L (v.cut lo xs.length (sz α)) (xs.drop lo):=by have:=hX a h f (dG _);rwa[gN (by simp)]at this
theorem pU{ρ α:Type}{f:ρ->α}{m:Nat}{a:Vector ρ m}{xs:Vector α m}(j:a.toList.map f=xs.toList){i:Nat}{x:α}(k:xs[i]?=some x):∃r,a[i]?=some r/\f r=x/\r∈a.toList/\a.toList[i]?=some r:=by obtain⟨r,d,g,h⟩:=qz j (i:=i) (x:=x) (by simpa using k);exact⟨r,by simpa using d,g,h,d⟩
theorem q7{ρ α:Type}{f:ρ->α}{m:Nat}{a:Vector ρ m}{xs:Vector α m}(d:a.toList.map f=xs.toList)(i:Nat)(r:ρ):(a.setIfInBounds i r).toList.map f=(xs.setIfInBounds i (f r)).toList:=by rw[Cq,Cq,map_set d]
theorem AX{ρ α:Type}{f:ρ->α}(k:Nat)(r:ρ):(Vector.replicate k r).toList.map f=(Vector.replicate k (f r)).toList:=by simp
theorem qY{ρ:Type}{rel:World->bM->List Item->ρ->Prop}{w0:World}{F:bM}{L:List Item}{m:Nat}{a:Vector ρ m}{x:ρ}{i:Nat}(h:aW rel w0 F L a.toList)(d:rel w0 F L x):aW rel w0 F L (a.setIfInBounds i x).toList:=by rw[Cq];exact oL h d
theorem AT{ρ:Type}{rel:World->bM->List Item->ρ->Prop}{w0:World}{F:bM}{L:List Item}{x:ρ}{k:Nat}(a:rel w0 F L x):aW rel w0 F L (Vector.replicate k x).toList:=by rw[Vector.toList_replicate];exact aW.rep a
theorem jl{α a:Type}(f:α->a){l:List α}{i:Nat}{x:α}(h:l[i]?=some x):(List.map f l)[i]?=some (f x):=by rw[jh,h];rfl
theorem oG{α a:Type}{f:α->a}{l:List α}{i:Nat}{x y:α}(h:l[i]?=some x)(e:f y=f x):List.map f (l.set i y)=List.map f l:=by rw[tN,e];exact NX (jl f h)
theorem Mg{α d:Type}{f:α->d}{l:List α}{i:Nat}{y:α}{a b:d}(e:f y=b):((List.map f l).set i a).set i b=List.map f (l.set i y):=by rw[li,tN,e]
def jS{α:Type}(R a:List (LR α))(s:Sl)(l:List α):Prop:=(s=Sl.nil/\l=[])\/(⟨l,s⟩:LR α)∈R\/(⟨l,s⟩:LR α)∈a
theorem jS.nil{α:Type}{R a:List (LR α)}:jS R a Sl.nil []:=.inl ⟨X,X⟩
theorem jS.row{α:Type}{R a:List (LR α)}{k:Nat}{s:Sl}{l:List α}(h:R[k]?=some ⟨l,s⟩):jS R a s l:=.inr (.inl (j8 h))
theorem jS.set{α:Type}{R a:List (LR α)}{k:Nat}{s:Sl}{l:List α}{r y:LR α}(h:jS R a s l)(f:R[k]?=some r):jS (R.set k y) (a++[r]) s l:=by
 rcases h with h|h|h
 .exact .inl h
 .obtain⟨j,d⟩:=ji h;by_cases e:j=k
  .subst e;rw[f]at d;cases d;exact .inr (.inr (by simp))
  .refine .inr (.inl (j8 (i:=j) ?_));rw[List.getElem?_set,ca (λh=>e h.symm)];exact d
 .exact .inr (.inr (vE _ h))
theorem S0{α:Type}[an α]{w0:World}{F:bM}{L:List Item}{i j:Nat}{u t:TypeId}{R a:List (LR α)}{s:Sl}{l:List α}(g:L[i]?=some (.rows u R))(f:L[j]?=some (.rows t a))(h:jS R a s l):Rd w0 F L s l:=by
 rcases h with⟨rfl,rfl⟩|h|h
 .exact mm
 .obtain⟨k,d⟩:=ji h;exact nK g d
 .obtain⟨k,d⟩:=ji h;exact nK f d
theorem Ap{α:Type}[an α]{a:List (LR α)}{k:Nat}{r:LR α}(h:a[k]?=some r):(a.map LR.h)[k]?=some r.h:=by rw[jh,h];rfl
section
variable {P:Program}{n:Fm}{w0:World}{ops:Array Oper}{Q:Exit->Act->World->Prop}{l:List Oper}{e:List (Nat×Value)}{F:bM}{L L':List Item}
theorem Cd.qT{c:Code}(α:Type)[an α](u:TypeId)(k:Nat)(h:Cd P n w0 Q c e F (.rows u (List.replicate k (⟨[],Sl.nil⟩:LR α))::L)):Cd P n w0 Q c e F L:=λa w d f=>h a w d f.qT
theorem At.qT{x:Exit}(α:Type)[an α](u:TypeId)(k:Nat)(h:At n w0 Q x e F (.rows u (List.replicate k (⟨[],Sl.nil⟩:LR α))::L)):At n w0 Q x e F L:=λa w d f=>h a w d f.qT
end
abbrev t6:=@S0
instance :an (Option Nat):=⟨λx=>[.map x],1,λ_=>rfl,λ_=>rfl⟩
section
set_option linter.unusedSectionVars false
variable {K V:Type}[DecidableEq K]
def Entry(kf:K->Value)(vf:V->Value)(e:MapEntry)(p:K×V):Prop:=e.key=kf p.1/\e.val=vf p.2
def Fits(kf:K->Value)(vf:V->Value):List MapEntry->List (K×V)->Prop
 |[],[]=>True
 |e::a,p::m=>Entry kf vf e p/\Fits kf vf a m
 |_,_=>False
theorem Fits.len{kf:K->Value}{vf:V->Value}:∀{a:List MapEntry}{m:List (K×V)},Fits kf vf a m->a.length=m.length
 |[],[],_=>rfl
 |_::_,_::_,h=>by rw[eB,eB,h.2.len]
 |[],_::_,h=>h.elim
 |_::_,[],h=>h.elim
theorem Fits.get{kf:K->Value}{vf:V->Value}:∀{a:List MapEntry}{m:List (K×V)},Fits kf vf a m->∀(i:Nat),(a[i]?=none/\m[i]?=none)\/∃e p,a[i]?=some e/\m[i]?=some p/\Entry kf vf e p
 |[],[],_,i=>.inl ⟨by simp,by simp⟩
 |e::_,p::_,h,0=>.inr ⟨e,p,X,X,h.1⟩
 |_::a,_::m,h,i+1=>by simpa using h.2.get i
 |[],_::_,h,_=>h.elim
 |_::_,[],h,_=>h.elim
theorem Fits.push{kf:K->Value}{vf:V->Value}{e:MapEntry}{p:K×V}(hp:Entry kf vf e p):∀{a:List MapEntry}{m:List (K×V)},Fits kf vf a m->Fits kf vf (a++[e]) (m++[p])
 |[],[],_=>⟨hp,cy⟩
 |_::_,_::_,h=>⟨h.1,h.2.push hp⟩
 |[],_::_,h=>h.elim
 |_::_,[],h=>h.elim
theorem Fits.set{kf:K->Value}{vf:V->Value}{e:MapEntry}{p:K×V}(hp:Entry kf vf e p):∀{a:List MapEntry}{m:List (K×V)}(i:Nat),Fits kf vf a m->Fits kf vf (a.set i e) (m.set i p)
 |[],[],_,_=>trivial
 |_::_,_::_,0,h=>⟨hp,h.2⟩
 |_::_,_::_,i+1,h=>⟨h.1,h.2.set hp i⟩
 |[],_::_,_,h=>h.elim
 |_::_,[],_,h=>h.elim
structure kj(P:Program)(kt:TypeId)(kf:K->Value):Prop where
 check:∀em x w,(Instr.checkKey em 10000 kt (kf x)).run P w=.ok () w
 find:∀(x:K)(V:Type)(vf:V->Value)(es:List MapEntry)(m:List (K×V))w,Fits kf vf es m->(Instr.findKey kt (kf x) es).run P w=.ok ((m.findIdx? λp=>decide (x=p.1)).bind λi=>es[i]?.map λe=>(i,e.val)) w
 stays:∀x w,(Instr.keyThatStays (kf x) (kf x)).run P w=.ok (kf x) w
theorem KP{a:TypeDesc}{kf:K->Value}{vf:V->Value}(k:∀x y,Instr.sameNow a (kf x) (kf y)=some (decide (x=y)))(x:K):∀(f:List MapEntry)(m:List (K×V))(i:Nat),Fits kf vf f m->
 Instr.findNow a (kf x) f i=some ((m.findIdx? λp=>decide (x=p.1)).bind λj=>f[j]?.map λe=>(i+j,e.val))
 |[],[],i,_=>by simp[Instr.findNow]
 |e::f,p::m,i,h=>by
  unfold Instr.findNow;rw[h.1.1,k];by_cases g:x=p.1
  .simp[g,Cx]
  .simp only[g,ze];rw[KP k x f m (i+1) h.2,Cx];simp only[g,ze,zh,if_false]
   cases m.findIdx? (λp=>decide (x=p.1))with
   |none=>simp
   |some j=>simp[yY,yZ 1 j]
 |[],_::_,_,h=>h.elim
 |_::_,[],_,h=>h.elim
theorem kj.now{P:Program}{f:TypeId}{kf:K->Value}{a:TypeDesc}(p:∀w,(underlying f).run P w=.ok a w)(o:∀x y,Instr.sameNow a (kf x) (kf y)=some (decide (x=y)))
 (k:∀g x w,(Instr.checkKey g 10000 f (kf x)).run P w=.ok () w) (j:∀x,Instr.sameBits 10000 (kf x) (kf x)=true):kj P f kf:=by
 refine⟨k,λx V vf i m w h=>?_,λx w=>?_⟩
 .unfold Instr.findKey;simp only[Sem.run_bind,p,Result.andThen_ok,KP o x i m 0 h];simp
 .unfold Instr.keyThatStays;rw[j];simp
theorem kj.int{P:Program}{f:TypeId}(a:∀w,(underlying f).run P w=.ok (.int .i64) w):kj P f (λx:Int=>.int .i64 x):=by refine kj.now a (λx y=>by simp[Instr.sameNow];rw[ew];simp) (λg x w=>?_) (λx=>by simp[Instr.sameBits]);rw[show(10000:Nat)=9999+1 from X];unfold Instr.checkKey;simp[a]
theorem kj.u16{P:Program}{f:TypeId}(a:∀w,(underlying f).run P w=.ok (.int .u16) w):kj P f (λx:BitVec 16=>.int .u16 (x.toNat:Int)):=by refine kj.now a (λx y=>by simp[Instr.sameNow];rw[ew,gO,mR,BitVec.toNat_inj];simp) (λg x w=>?_) (λx=>by simp[Instr.sameBits]);rw[show(10000:Nat)=9999+1 from X];unfold Instr.checkKey;simp[a]
theorem JE(x y:Y):(Y.b x==Y.b y)=decide (x=y):=by rw[beq_toListBytes,ew];simp[ByteArray.toList_eq,Y.b]
theorem kj.str{P:Program}{f:TypeId}(a:∀w,(underlying f).run P w=.ok .string w):kj P f Y.v:=by refine kj.now a (λx y=>by simp only[Y.v,Instr.sameNow,JE]) (λg x w=>?_) (λx=>by simp[Y.v,Instr.sameBits,JE]);rw[show(10000:Nat)=9999+1 from X];unfold Instr.checkKey;simp[a,Y.v]
end
section
variable {K V:Type}[DecidableEq K]
def nF(m:List (K×V))(x:K):Option Nat:=m.findIdx? λp=>decide (x=p.1)
def dg(m:List (K×V))(x:K):Option V:=(nF m x).bind λi=>(m[i]?).map (·.2)
def eR(m:List (K×V))(x:K)(v:V):List (K×V):=match nF m x with
 |some i=>m.set i (x,v)
 |none=>m++[(x,v)]
def oX(f:List MapEntry)(a:Nat):Prop:=(∀x∈f,x.born<a)/\(f.map (·.born)).Nodup
theorem oX.push{g:List MapEntry}{c:Nat}{k v:Value}(h:oX g c):oX (g++[⟨k,v,c⟩]) (c+1):=by
 refine⟨λx f=>?_,?_⟩
 .rcases fx.1 f with f|f
  .have:=h.1 x f;omega
  .simp at f;subst f;exact zc _
 .rw[kS,vu];refine⟨h.2,by simp,λa i b j e=>?_⟩;obtain⟨x,f,rfl⟩:=mS.1 i;have:=h.1 x f;simp at j;omega
theorem oX.set{a:List MapEntry}{c j:Nat}{f:MapEntry}{k v:Value}(h:oX a c)(o:a[j]?=some f):oX (a.set j ⟨k,v,f.born⟩) c:=by
 obtain⟨i,m⟩:=eO.1 o;have e:(a.set j ⟨k,v,f.born⟩).map (·.born)=a.map (·.born):=by
  rw[tN];apply pB;intro q;rw[List.getElem?_set];by_cases g:j=q
  .subst g;simp[i,m]
  .simp[g]
 refine⟨λx p=>?_,by rw[e];exact h.2⟩;have:x.born∈(a.set j ⟨k,v,f.born⟩).map (·.born):=zn p;rw[e]at this;obtain⟨y,s,t⟩:=mS.1 this;have:=h.1 y s;omega
theorem JY{a:Array MapEntry}{j:Nat}{g:MapEntry}(f:MapEntry->MapEntry)(h:a[j]?=some g):(a.modify j f).toList=a.toList.set j (f g):=by
 apply pB;intro q;rw[Array.getElem?_toList,vC,List.getElem?_set];by_cases i:j=q
 .subst i;have k:j<a.size:=(lP.1 h).1;have m:a[j]=g:=(lP.1 h).2;simp[k,m]
 .simp[i]
def fZ(b:Nat)(kf:K->Value)(vf:V->Value)(m:List (K×V)):Item:=.gen [b] λh=>∃f a,h b=some (.map f a)/\Fits kf vf f.toList m/\oX f.toList a
theorem Mj{m:List (K×V)}{x:K}{i:Nat}(h:nF m x=some i):∃v,m[i]?=some (x,v):=by unfold nF at h;rw[GV]at h;obtain⟨a,f,_⟩:=h;have g:x=m[i].1:=j5 f;exact⟨m[i].2,by rw[gG a];simp[g]⟩
theorem Mk{x:K}:dg ([]:List (K×V)) x=none:=X
theorem CJ{p:K×V}{m:List (K×V)}{x:K}:dg (p::m) x=if x=p.1 then some p.2 else dg m x:=by
 unfold dg nF;rw[Cx];by_cases h:x=p.1
 .simp[h]
 .simp only[h,ze,zh,if_false];cases m.findIdx? (λp=>decide (x=p.1))<;>simp
theorem X7{k:K}{v:V}:eR ([]:List (K×V)) k v=[(k,v)]:=X
theorem X6{p:K×V}{m:List (K×V)}{k:K}{v:V}:eR (p::m) k v=if k=p.1 then(k,v)::m else p::eR m k v:=by
 unfold eR nF;rw[Cx];by_cases h:k=p.1
 .simp[h]
 .simp only[h,ze,zh,if_false];cases m.findIdx? (λp=>decide (k=p.1))<;>simp
theorem vO{k:K}{v:V}{x:K}:∀m:List (K×V),dg (eR m k v) x=if x=k then some v else dg m x
 |[]=>by rw[X7,CJ]
 |p::m=>by
  rw[X6,CJ];by_cases h:k=p.1
  .rw[bE h,CJ];by_cases a:x=k
   .simp[a]
   .have:x≠p.1:=λe=>a (e.trans h.symm);simp[a,this]
  .rw[ca h,CJ,vO m];by_cases a:x=p.1
   .have:x≠k:=λe=>h (e.symm.trans a);simp[a,this];intro e;exact absurd e.symm h
   .simp[a]
end
section
set_option linter.unusedSectionVars false
variable {P:Program}{n:Fm}{w0:World}{ops:Array Oper}{Q:Exit->Act->World->Prop}{l:List Oper}{e:List (Nat×Value)}{F:bM}{L L':List Item}{d:Nat}{dst:Option Nat}{ty:TypeId}{pos:String}{bo:Array Edge}{gd:Option (Nat×Bool)}
variable {K V:Type}[DecidableEq K]
theorem St.map{w:World}{i b:Nat}{kf:K->Value}{vf:V->Value}{m:List (K×V)}(h:St w0 F L w)(k:L[i]?=some (fZ b kf vf m)):∃f a,w.heap[b]?=some (.map f a)/\Fits kf vf f.toList m:=by obtain⟨f,a,g,j,_⟩:=h.holds _ (j8 k);exact⟨f,a,by simpa[World.hp]using g,j⟩
theorem S4{w:World}{i b:Nat}{kf:K->Value}{vf:V->Value}{m:List (K×V)}(h:St w0 F L w)(o:L[i]?=some (fZ b kf vf m)):∃f a,w.heap[b]?=some (.map f a)/\Fits kf vf f.toList m/\oX f.toList a:=by obtain⟨f,a,g,j,k⟩:=h.holds _ (j8 o);exact⟨f,a,by simpa[World.hp]using g,j,k⟩
theorem br.makeMap{t:TypeId}(kf:K->Value)(vf:V->Value)(j:gd=none)(f:dst=some d)(m:d<n.n)
 (k:∀b,br P n w0 ops Q l ((d,.map (some b))::e) F (fZ b kf vf ([]:List (K×V))::L)):br P n w0 ops Q (⟨dst,.makeMap t none,ty,pos,bo,gd⟩::l) e F L:=
 gQ j λa w h p=>by
  subst f;unfold Oper.wp;have o:(execOp a.eval ⟨some d,.makeMap t none,ty,pos,bo,gd⟩).run P w=.ok (.value (.map (some w.heap.size))) {w with heap:=w.heap.push (.map #[] 0)}:=by simp[execOp,Instr.makeMap]
  rw[o,Oper.upon_value];exact k _ _ _ (h.put m _) (p.new _ X λg i=>⟨#[],0,by simp[i],cy,by simp[oX]⟩)
theorem Me{w:World}{t A el:TypeId}{kf:K->Value}{vf:V->Value}{m:List (K×V)}{f:Array MapEntry}{a b:Nat}{c:Bool}(z:kj P A kf)(S:∀w,(underlying t).run P w=.ok (.map A el) w){z0:V}(T:∀w,(zeroValue el).run P w=.ok (vf z0) w)
 (H:w.heap[b]?=some (.map f a)) (y:Fits kf vf f.toList m) (x:K):
 (Instr.lookup t (.map (some b)) (kf x) c).run P w=.ok (if c=true then .tuple #[vf ((dg m x).getD z0),.bool (dg m x).isSome]else vf ((dg m x).getD z0)) w:=by
 have M:=z.find x V vf f.toList m w y;have k:=z.check (f.isEmpty) x w;have o:=MapKept.run_getObj_map (P:=P) H;unfold Instr.lookup;simp only[Sem.run_bind,S,Result.andThen_ok,o,Sem.run_pure,k,M];unfold dg
 cases h:nF m x with
 |none=>unfold nF at h;rw[h];simp[T]
 |some i=>
  obtain⟨v,q⟩:=Mj h;unfold nF at h;rcases y.get i with⟨_,g⟩|⟨s,p,B,g,C⟩
  .rw[q]at g;cases g
  .rw[q]at g;obtain rfl:=dp g;have j:f[i]?=some s:=by simpa using B
   have D:s.val=vf v:=C.2;rw[h];simp[j,q,D]
theorem Ev.lookup{x y:Operand}{t g el:TypeId}{kf:K->Value}{vf:V->Value}{m:List (K×V)}{b i:Nat}{k:K}{z0:V}(A:ev e x=some (.map (some b)))(B:ev e y=some (kf k))(p:L[i]?=some (fZ b kf vf m))
 (o:kj P g kf) (s:∀w,(underlying t).run P w=.ok (.map g el) w) (C:∀w,(zeroValue el).run P w=.ok (vf z0) w):Ev P n w0 e F L ⟨dst,.lookup t x y false,ty,pos,bo,gd⟩ (vf ((dg m k).getD z0)):=λa w h z=>by
 obtain⟨D,f,q,j⟩:=St.map z p;simp[execOp,h.eval A,h.eval B,Me o s C q j]
theorem Bk{x y:Operand}{t g el:TypeId}{kf:K->Value}{vf:V->Value}{m:List (K×V)}{b i:Nat}{k:K}{z0:V}(A:ev e x=some (.map (some b)))(B:ev e y=some (kf k))(p:L[i]?=some (fZ b kf vf m))
 (o:kj P g kf) (s:∀w,(underlying t).run P w=.ok (.map g el) w) (C:∀w,(zeroValue el).run P w=.ok (vf z0) w):Ev P n w0 e F L ⟨dst,.lookup t x y true,ty,pos,bo,gd⟩ (.tuple #[vf ((dg m k).getD z0),.bool (dg m k).isSome]):=λa w h z=>by
 obtain⟨D,f,q,j⟩:=St.map z p;simp[execOp,h.eval A,h.eval B,Me o s C q j]
theorem NW{α:Type}(a:Array α)(i:Nat)(o:α):a.setIfInBounds i o=a.modify i λ_=>o:=by
 apply GJ;intro j;rw[vC,Array.getElem?_setIfInBounds];by_cases h:i=j
 .subst h;by_cases hi:i<a.size<;>simp[hi]
 .simp[h]
theorem br.mapUpdate{x y z:Operand}{t kt el:TypeId}{kf:K->Value}{vf:V->Value}{m:List (K×V)}{b i:Nat}{k:K}{v:V}(hg:gd=none)(B:dst=none)(hx:ev e x=some (.map (some b)))(hy:ev e y=some (kf k))(hz:ev e z=some (vf v))(hL:L[i]?=some (fZ b kf vf m))
 (hK:kj P kt kf) (hu:∀w,(underlying t).run P w=.ok (.map kt el) w)
 (kk:br P n w0 ops Q l e F (L.set i (fZ b kf vf (eR m k v)))):br P n w0 ops Q (⟨dst,.mapUpdate t x y z,ty,pos,bo,gd⟩::l) e F L:=
 gQ hg λa w h hw=>by
  subst B;obtain⟨S,g,A,T,hB⟩:=S4 hw hL;have hf:=hK.find k V vf S.toList m w T;have V5:=hK.check false k w;have yK:=MapKept.run_getObj_map (P:=P) A;have key:∃o f,(Instr.mapUpdate t (.map (some b)) (kf k) (vf v)).run P w=.ok () {w with heap:=w.heap.modify b λ_=>.map o f}/\Fits kf vf o.toList (eR m k v)/\oX o.toList f:=by
   unfold Instr.mapUpdate eR;simp only[Sem.run_bind,hu,Result.andThen_ok,yK,V5,hf]
   cases D:nF m k with
   |none=>
    unfold nF at D;rw[D];refine⟨S.push ⟨kf k,vf v,g⟩,g+1,?_,?_,by rw[Array.toList_push];exact hB.push⟩
    .simp[MapKept.run_setObj_map _ A,NW]
    .rw[Array.toList_push];exact T.push (e:=⟨kf k,vf v,g⟩) (p:=(k,v)) ⟨X,X⟩
   |some j=>
    obtain⟨u,M⟩:=Mj D;unfold nF at D;rcases T.get j with⟨_,s⟩|⟨en,p,h1,s,h3⟩
    .rw[M]at s;cases s
    .rw[M]at s;obtain rfl:=dp s;have q:S[j]?=some en:=by simpa using h1
     have WX:=hK.stays k w;rw[D];refine⟨S.modify j λe=>{e with key:=kf k,val:=vf v},g,?_,?_,by rw[JY _ q];exact hB.set (by simpa using q)⟩
     .have C:en.key=kf k:=h3.1;simp[q,C,WX,MapKept.run_setObj_map _ A,NW]
     .rw[JY _ q];exact T.set (p:=(k,v)) ⟨X,X⟩ j
  obtain⟨o,f,H,W⟩:=key;unfold Oper.wp;have hr:(execOp a.eval ⟨none,.mapUpdate t x y z,ty,pos,bo,gd⟩).run P w=.ok .skip {w with heap:=w.heap.modify b λ_=>.map o f}:=by simp[execOp,h.eval hx,h.eval hy,h.eval hz,H]
  rw[hr,Oper.upon_skip];refine kk _ _ h ?_;rw[mw hL];rw[my hL]at hw;refine hw.change (j:=fZ b kf vf (eR m k v)) (by simp[fZ,Item.df]) X _ ⟨o,f,?_,W⟩;have aH:b<w.heap.size:=(lP.1 A).1;simp only[World.hp,ia,if_true];rw[vC,bE X,A];rfl
theorem br.insert{x y z:Operand}{t g el:TypeId}{kf:K->Value}{vf:V->Value}{m:List (K×V)}{b i:Nat}{k:K}{v:V}(p:gd=none)(f:dst=none)(A:ev e x=some (.map (some b)))(B:ev e y=some (kf k))(C:ev e z=some (vf v))(j:L[i]?=some (fZ b kf vf m))
 (h:kj P g kf) (q:∀w,(underlying t).run P w=.ok (.map g el) w)
 (D:br P n w0 ops Q l e F (L.set i (fZ b kf vf (eR m k v)))):br P n w0 ops Q (⟨dst,.insert t x y z,ty,pos,bo,gd⟩::l) e F L:=
 λa w o s=>by have:=br.mapUpdate (P:=P) (n:=n) (w0:=w0) (ops:=ops) (Q:=Q) (ty:=ty) (pos:=pos) (bo:=bo) p f A B C j h q D a w o s;unfold wpList at this ⊢;exact this
end
abbrev tU:=@kj.int
abbrev pI:=@kj.str
abbrev qB:=@br.insert
def cnt(j:Int):Option Nat:=if 0<=j then some j.toNat else none
theorem oh{j:Int}{n:Nat}(h:cnt j=some n):j=(n:Int):=by
 unfold cnt at h;split at h
 .cases h;omega
 .cases h
def nz(j:Int):Option Unit:=if j=0 then none else some ()
theorem G6{j:Int}{u:Unit}(h:nz j=some u):j≠0:=by
 unfold nz at h;split at h
 .cases h
 .assumption
theorem xv(z:Int):IntKind.u8.wrap z=((BitVec.ofInt 8 z).toNat:Int):=by simp only[IntKind.wrap,IntKind.bits,IntKind.signed,rN];simp;omega
theorem uL(z:Int):IntKind.u16.wrap z=((BitVec.ofInt 16 z).toNat:Int):=by simp only[IntKind.wrap,IntKind.bits,IntKind.signed,rN];simp;omega
theorem Ed(z:Int):IntKind.u32.wrap z=((BitVec.ofInt 32 z).toNat:Int):=by simp only[IntKind.wrap,IntKind.bits,IntKind.signed,rN];simp;omega
theorem Ee(z:Int):IntKind.u64.wrap z=((BitVec.ofInt 64 z).toNat:Int):=by simp only[IntKind.wrap,IntKind.bits,IntKind.signed,rN];simp;omega
theorem Yh{w:Nat}(a b:Int):BitVec.ofInt w (a-b)=BitVec.ofInt w a-BitVec.ofInt w b:=by apply BitVec.eq_of_toInt_eq;simp[BitVec.toInt_sub,BitVec.toInt_ofInt]
theorem NZ{K:Nat}(x:BitVec K)(n:Nat):BitVec.ofInt K ((x.toNat:Int)*2^(min n K))=x<<<n:=by
 apply nD;rw[rN,BitVec.toNat_shiftLeft];rw[show((x.toNat:Int)*2^(min n K))=((x.toNat*2^(min n K):Nat):Int) by simp];rw[show((2^K:Nat):Int)=((2^K:Nat):Int)from X,<-Int.natCast_emod,lp,Nat.shiftLeft_eq];by_cases h:n<=K
 .rw[ir h]
 .rw[Nat.min_eq_right O];rw[Nat.mul_mod_left];have:x.toNat*2^n=(x.toNat*2^(n-K))*2^K:=by
   rw[Nat.mul_assoc,<-Nat.pow_add];congr 2;omega
  rw[this,Nat.mul_mod_left]
theorem DA{K:Nat}(x:BitVec K)(n:Nat):Int.fdiv (x.toNat:Int) (2^(min n K))=((x>>>n).toNat:Int):=by rw[py,pw,<-abG x.toNat n K x.isLt];rw[show((2:Int)^(min n K))=((2^(min n K):Nat):Int) by simp];exact(Int.ofNat_fdiv _ _).symm
section
variable {P:Program}{n:Fm}{w0:World}{e:List (Nat×Value)}{F:bM}{L:List Item}{v:Value}{dst:Option Nat}{ty:TypeId}{pos:String}{bo:Array Edge}{gd:Option (Nat×Bool)}{x y:Operand}{t t2 s:TypeId}
theorem xz{i j:BitVec 8}(a:ev e x=some (.int .u8 i.toNat))(d:ev e y=some (.int .u8 j.toNat)):Ev P n w0 e F L ⟨dst,.binOp .sub t x y t2,ty,pos,bo,gd⟩ (.int .u8 (i-j).toNat):=by have h:=IH (P:=P) (n:=n) (w0:=w0) (F:=F) (L:=L) (dst:=dst) (ty:=ty) (pos:=pos) (bo:=bo) (gd:=gd) (t:=t) (t2:=t2) a d;rw[xv]at h;rwa[show BitVec.ofInt 8 ((i.toNat:Int)-(j.toNat:Int))=i-j from by rw[Yh,gz,gz]]at h
theorem Pu{i j:BitVec 8}(f:ev e x=some (.int .u8 i.toNat))(g:ev e y=some (.int .u8 j.toNat)):Ev P n w0 e F L ⟨dst,.binOp .and t x y t2,ty,pos,bo,gd⟩ (.int .u8 (i&&&j).toNat):=λa w d _=>by
 have h:∀r:BitVec 8,IntKind.u8.wrap (r.toNat:Int)=r.toNat:=λr=>by rw[xv,gz]
 simp only[execOp,d.eval f,d.eval g,eqGuard,binOp,Op.intBits,IntKind.bits,gz];simp only[h];rfl
theorem xy{i j:BitVec 8}(f:ev e x=some (.int .u8 i.toNat))(g:ev e y=some (.int .u8 j.toNat)):Ev P n w0 e F L ⟨dst,.binOp .or t x y t2,ty,pos,bo,gd⟩ (.int .u8 (i|||j).toNat):=λa w d _=>by
 have h:∀r:BitVec 8,IntKind.u8.wrap (r.toNat:Int)=r.toNat:=λr=>by rw[xv,gz]
 simp only[execOp,d.eval f,d.eval g,eqGuard,binOp,Op.intBits,IntKind.bits,gz];simp only[h];rfl
theorem Ip{i j:BitVec 8}(f:ev e x=some (.int .u8 i.toNat))(g:ev e y=some (.int .u8 j.toNat)):Ev P n w0 e F L ⟨dst,.binOp .andNot t x y t2,ty,pos,bo,gd⟩ (.int .u8 (i&&& ~~~j).toNat):=λa w d _=>by
 have h:∀r:BitVec 8,IntKind.u8.wrap (r.toNat:Int)=r.toNat:=λr=>by rw[xv,gz]
 simp only[execOp,d.eval f,d.eval g,eqGuard,binOp,Op.intBits,IntKind.bits,gz];simp only[h];rfl
theorem Bl{i:BitVec 8}{k:IntKind}{m:Nat}(g:ev e x=some (.int .u8 i.toNat))(j:ev e y=some (.int k (m:Int))):Ev P n w0 e F L ⟨dst,.binOp .shl t x y t2,ty,pos,bo,gd⟩ (.int .u8 (i<<<m).toNat):=λa w d _=>by
 have f:¬(m:Int)<0:=by omega
 have h:=NZ i m;simp only[execOp,d.eval g,d.eval j,eqGuard,binOp,Op.shift,IntKind.bits,ca f,lp];simp only[xv,h];simp
theorem Bm{i:BitVec 8}{k:IntKind}{m:Nat}(g:ev e x=some (.int .u8 i.toNat))(j:ev e y=some (.int k (m:Int))):Ev P n w0 e F L ⟨dst,.binOp .shr t x y t2,ty,pos,bo,gd⟩ (.int .u8 (i>>>m).toNat):=λa w d _=>by
 have f:¬(m:Int)<0:=by omega
 have h:=DA i m;simp only[execOp,d.eval g,d.eval j,eqGuard,binOp,Op.shift,IntKind.bits,ca f,lp];simp only[h];simp
theorem IB{i j:BitVec 8}(g:ev e x=some (.int .u8 i.toNat))(k:ev e y=some (.int .u8 j.toNat))(f:(j.toNat:Int)≠0):Ev P n w0 e F L ⟨dst,.binOp .rem t x y t2,ty,pos,bo,gd⟩ (.int .u8 (i%j).toNat):=λa w d _=>by
 have h:((i.toNat:Int).tmod (j.toNat:Int))=((i%j).toNat:Int):=by rw[vA];exact(Int.ofNat_tmod _ _).symm
 simp only[execOp,d.eval g,d.eval k,eqGuard,binOp,Op.intDiv,ca f,h];simp
theorem PA{k:IntKind}{i:Int}{a:TypeDesc}(g:ev e x=some (.int k i))(d:∀w,(underlying s).run P w=.ok a w)(f:∀w,(underlying t).run P w=.ok (.int .u8) w):Ev P n w0 e F L ⟨dst,.convert s t x,ty,pos,bo,gd⟩ (.int .u8 (BitVec.ofInt 8 i).toNat):=by rw[<-xv];exact uM g d f
theorem Pq{i j:BitVec 16}(a:ev e x=some (.int .u16 i.toNat))(d:ev e y=some (.int .u16 j.toNat)):Ev P n w0 e F L ⟨dst,.binOp .add t x y t2,ty,pos,bo,gd⟩ (.int .u16 (i+j).toNat):=by have h:=Eh (P:=P) (n:=n) (w0:=w0) (F:=F) (L:=L) (dst:=dst) (ty:=ty) (pos:=pos) (bo:=bo) (gd:=gd) (t:=t) (t2:=t2) a d;rw[uL]at h;rwa[show BitVec.ofInt 16 ((i.toNat:Int)+(j.toNat:Int))=i+j from by rw[BitVec.ofInt_add,gz,gz]]at h
theorem Ps{i j:BitVec 16}(f:ev e x=some (.int .u16 i.toNat))(g:ev e y=some (.int .u16 j.toNat)):Ev P n w0 e F L ⟨dst,.binOp .and t x y t2,ty,pos,bo,gd⟩ (.int .u16 (i&&&j).toNat):=λa w d _=>by
 have h:∀r:BitVec 16,IntKind.u16.wrap (r.toNat:Int)=r.toNat:=λr=>by rw[uL,gz]
 simp only[execOp,d.eval f,d.eval g,eqGuard,binOp,Op.intBits,IntKind.bits,gz];simp only[h];rfl
theorem P1{i j:BitVec 16}(f:ev e x=some (.int .u16 i.toNat))(g:ev e y=some (.int .u16 j.toNat)):Ev P n w0 e F L ⟨dst,.binOp .or t x y t2,ty,pos,bo,gd⟩ (.int .u16 (i|||j).toNat):=λa w d _=>by
 have h:∀r:BitVec 16,IntKind.u16.wrap (r.toNat:Int)=r.toNat:=λr=>by rw[uL,gz]
 simp only[execOp,d.eval f,d.eval g,eqGuard,binOp,Op.intBits,IntKind.bits,gz];simp only[h];rfl
theorem Pr{i j:BitVec 16}(f:ev e x=some (.int .u16 i.toNat))(g:ev e y=some (.int .u16 j.toNat)):Ev P n w0 e F L ⟨dst,.binOp .andNot t x y t2,ty,pos,bo,gd⟩ (.int .u16 (i&&& ~~~j).toNat):=λa w d _=>by
 have h:∀r:BitVec 16,IntKind.u16.wrap (r.toNat:Int)=r.toNat:=λr=>by rw[uL,gz]
 simp only[execOp,d.eval f,d.eval g,eqGuard,binOp,Op.intBits,IntKind.bits,gz];simp only[h];rfl
theorem ID{i:BitVec 16}{k:IntKind}{m:Nat}(g:ev e x=some (.int .u16 i.toNat))(j:ev e y=some (.int k (m:Int))):Ev P n w0 e F L ⟨dst,.binOp .shl t x y t2,ty,pos,bo,gd⟩ (.int .u16 (i<<<m).toNat):=λa w d _=>by
 have f:¬(m:Int)<0:=by omega
 have h:=NZ i m;simp only[execOp,d.eval g,d.eval j,eqGuard,binOp,Op.shift,IntKind.bits,ca f,lp];simp only[uL,h];simp
theorem IF{i:BitVec 16}{k:IntKind}{m:Nat}(g:ev e x=some (.int .u16 i.toNat))(j:ev e y=some (.int k (m:Int))):Ev P n w0 e F L ⟨dst,.binOp .shr t x y t2,ty,pos,bo,gd⟩ (.int .u16 (i>>>m).toNat):=λa w d _=>by
 have f:¬(m:Int)<0:=by omega
 have h:=DA i m;simp only[execOp,d.eval g,d.eval j,eqGuard,binOp,Op.shift,IntKind.bits,ca f,lp];simp only[h];simp
theorem P4{i j:BitVec 16}(g:ev e x=some (.int .u16 i.toNat))(k:ev e y=some (.int .u16 j.toNat))(f:(j.toNat:Int)≠0):Ev P n w0 e F L ⟨dst,.binOp .quo t x y t2,ty,pos,bo,gd⟩ (.int .u16 (i/j).toNat):=λa w d _=>by
 have h:IntKind.u16.wrap ((i.toNat:Int).tdiv (j.toNat:Int))=((i/j).toNat:Int):=by rw[show((i.toNat:Int).tdiv (j.toNat:Int))=((i/j).toNat:Int)from by rw[BitVec.toNat_udiv];exact(Int.ofNat_tdiv _ _).symm,uL,gz]
 simp only[execOp,d.eval g,d.eval k,eqGuard,binOp,Op.intDiv,ca f,h];simp
theorem IA{i j:BitVec 16}(g:ev e x=some (.int .u16 i.toNat))(k:ev e y=some (.int .u16 j.toNat))(f:(j.toNat:Int)≠0):Ev P n w0 e F L ⟨dst,.binOp .rem t x y t2,ty,pos,bo,gd⟩ (.int .u16 (i%j).toNat):=λa w d _=>by
 have h:((i.toNat:Int).tmod (j.toNat:Int))=((i%j).toNat:Int):=by rw[vA];exact(Int.ofNat_tmod _ _).symm
 simp only[execOp,d.eval g,d.eval k,eqGuard,binOp,Op.intDiv,ca f,h];simp
theorem It{k:IntKind}{i:Int}{a:TypeDesc}(g:ev e x=some (.int k i))(d:∀w,(underlying s).run P w=.ok a w)(f:∀w,(underlying t).run P w=.ok (.int .u16) w):Ev P n w0 e F L ⟨dst,.convert s t x,ty,pos,bo,gd⟩ (.int .u16 (BitVec.ofInt 16 i).toNat):=by rw[<-uL];exact uM g d f
theorem Pt{i j:BitVec 32}(f:ev e x=some (.int .u32 i.toNat))(g:ev e y=some (.int .u32 j.toNat)):Ev P n w0 e F L ⟨dst,.binOp .and t x y t2,ty,pos,bo,gd⟩ (.int .u32 (i&&&j).toNat):=λa w d _=>by
 have h:∀r:BitVec 32,IntKind.u32.wrap (r.toNat:Int)=r.toNat:=λr=>by rw[Ed,gz]
 simp only[execOp,d.eval f,d.eval g,eqGuard,binOp,Op.intBits,IntKind.bits,gz];simp only[h];rfl
theorem II{i j:BitVec 32}(f:ev e x=some (.int .u32 i.toNat))(g:ev e y=some (.int .u32 j.toNat)):Ev P n w0 e F L ⟨dst,.binOp .xor t x y t2,ty,pos,bo,gd⟩ (.int .u32 (i^^^j).toNat):=λa w d _=>by
 have h:∀r:BitVec 32,IntKind.u32.wrap (r.toNat:Int)=r.toNat:=λr=>by rw[Ed,gz]
 simp only[execOp,d.eval f,d.eval g,eqGuard,binOp,Op.intBits,IntKind.bits,gz];simp only[h];rfl
theorem IG{i:BitVec 32}{k:IntKind}{m:Nat}(g:ev e x=some (.int .u32 i.toNat))(j:ev e y=some (.int k (m:Int))):Ev P n w0 e F L ⟨dst,.binOp .shr t x y t2,ty,pos,bo,gd⟩ (.int .u32 (i>>>m).toNat):=λa w d _=>by
 have f:¬(m:Int)<0:=by omega
 have h:=DA i m;simp only[execOp,d.eval g,d.eval j,eqGuard,binOp,Op.shift,IntKind.bits,ca f,lp];simp only[h];simp
theorem Pz{k:IntKind}{i:Int}{a:TypeDesc}(g:ev e x=some (.int k i))(d:∀w,(underlying s).run P w=.ok a w)(f:∀w,(underlying t).run P w=.ok (.int .u32) w):Ev P n w0 e F L ⟨dst,.convert s t x,ty,pos,bo,gd⟩ (.int .u32 (BitVec.ofInt 32 i).toNat):=by rw[<-Ed];exact uM g d f
theorem Bi{i j:BitVec 64}(a:ev e x=some (.int .u64 i.toNat))(d:ev e y=some (.int .u64 j.toNat)):Ev P n w0 e F L ⟨dst,.binOp .add t x y t2,ty,pos,bo,gd⟩ (.int .u64 (i+j).toNat):=by have h:=Eh (P:=P) (n:=n) (w0:=w0) (F:=F) (L:=L) (dst:=dst) (ty:=ty) (pos:=pos) (bo:=bo) (gd:=gd) (t:=t) (t2:=t2) a d;rw[Ee]at h;rwa[show BitVec.ofInt 64 ((i.toNat:Int)+(j.toNat:Int))=i+j from by rw[BitVec.ofInt_add,gz,gz]]at h
theorem xx{i j:BitVec 64}(a:ev e x=some (.int .u64 i.toNat))(d:ev e y=some (.int .u64 j.toNat)):Ev P n w0 e F L ⟨dst,.binOp .mul t x y t2,ty,pos,bo,gd⟩ (.int .u64 (i*j).toNat):=by have h:=Iy (P:=P) (n:=n) (w0:=w0) (F:=F) (L:=L) (dst:=dst) (ty:=ty) (pos:=pos) (bo:=bo) (gd:=gd) (t:=t) (t2:=t2) a d;rw[Ee]at h;rwa[show BitVec.ofInt 64 ((i.toNat:Int)*(j.toNat:Int))=i*j from by rw[BitVec.ofInt_mul,gz,gz]]at h
theorem Ei{i j:BitVec 64}(f:ev e x=some (.int .u64 i.toNat))(g:ev e y=some (.int .u64 j.toNat)):Ev P n w0 e F L ⟨dst,.binOp .and t x y t2,ty,pos,bo,gd⟩ (.int .u64 (i&&&j).toNat):=λa w d _=>by
 have h:∀r:BitVec 64,IntKind.u64.wrap (r.toNat:Int)=r.toNat:=λr=>by rw[Ee,gz]
 simp only[execOp,d.eval f,d.eval g,eqGuard,binOp,Op.intBits,IntKind.bits,gz];simp only[h];rfl
theorem P5{i:BitVec 64}{k:IntKind}{m:Nat}(g:ev e x=some (.int .u64 i.toNat))(j:ev e y=some (.int k (m:Int))):Ev P n w0 e F L ⟨dst,.binOp .shr t x y t2,ty,pos,bo,gd⟩ (.int .u64 (i>>>m).toNat):=λa w d _=>by
 have f:¬(m:Int)<0:=by omega
 have h:=DA i m;simp only[execOp,d.eval g,d.eval j,eqGuard,binOp,Op.shift,IntKind.bits,ca f,lp];simp only[h];simp
theorem Ek{k:IntKind}{i:Int}{a:TypeDesc}(g:ev e x=some (.int k i))(d:∀w,(underlying s).run P w=.ok a w)(f:∀w,(underlying t).run P w=.ok (.int .u64) w):Ev P n w0 e F L ⟨dst,.convert s t x,ty,pos,bo,gd⟩ (.int .u64 (BitVec.ofInt 64 i).toNat):=by rw[<-Ee];exact uM g d f
theorem IC{i:Int}{k:IntKind}{m:Nat}(g:ev e x=some (.int .i64 i))(h:ev e y=some (.int k (m:Int))):Ev P n w0 e F L ⟨dst,.binOp .shl t x y t2,ty,pos,bo,gd⟩ (.int .i64 (ap (i*2^(min m 64)))):=λa w d _=>by
 have f:¬(m:Int)<0:=by omega
 simp only[execOp,d.eval g,d.eval h,eqGuard,binOp,Op.shift,IntKind.bits,ca f,lp];simp[ap]
theorem IE{i:Int}{k:IntKind}{m:Nat}(g:ev e x=some (.int .i64 i))(h:ev e y=some (.int k (m:Int))):Ev P n w0 e F L ⟨dst,.binOp .shr t x y t2,ty,pos,bo,gd⟩ (.int .i64 (i.fdiv (2^(min m 64)))):=λa w d _=>by
 have f:¬(m:Int)<0:=by omega
 simp only[execOp,d.eval g,d.eval h,eqGuard,binOp,Op.shift,IntKind.bits,ca f,lp];simp
theorem Ir{k:IntKind}{i:Int}{a:TypeDesc}(g:ev e x=some (.int k i))(d:∀w,(underlying s).run P w=.ok a w)(f:∀w,(underlying t).run P w=.ok (.int .i64) w):Ev P n w0 e F L ⟨dst,.convert s t x,ty,pos,bo,gd⟩ (.int .i64 (ap i)):=uM g d f
end
abbrev vZ:=@Pq
abbrev v1:=@Pu
abbrev ua:=@PA
abbrev v6:=@P5
def Y.bytes(s:Y):List (BitVec 8):=s.map UInt8.toBitVec
def gJ(l:List (BitVec 8)):Y:=l.map UInt8.ofBitVec
theorem Y.size(s:Y):(Y.b s).size=s.length:=by simp[Y.b,ByteArray.size]
theorem JF(s:Y)(i j:Nat):(Y.b s).extract i j=Y.b ((s.drop i).take (j-i)):=by apply ByteArray.ext;apply ny;simp[Y.b,ByteArray.data_extract,List.extract_eq_take_drop]
theorem S6(s t:Y):Y.b s++Y.b t=Y.b (s++t):=by apply ByteArray.ext;apply ny;simp[Y.b,ByteArray.data_append]
theorem S7(s:Y)(i:Nat):(Y.b s)[i]?=s[i]?:=by
 by_cases h:i<s.length
 .have a:i<(Y.b s).size:=by rw[Y.size];exact h
  rw[getElem?_pos (Y.b s) i a,gG h];rfl
 .have a:¬i<(Y.b s).size:=by rw[Y.size];exact h
  rw[getElem?_neg (Y.b s) i a,jA O]
theorem BS(s:Y):aa (Y.bytes s)=s.map λc=>Value.int .u8 (c.toNat:Int):=by
 induction s with
 |nil=>rfl
 |cons c s a=>show aa (c.toBitVec::Y.bytes s)=_;rw[mc,a];rfl
section
set_option linter.unusedSectionVars false
variable {P:Program}{n:Fm}{w0:World}{ops:Array Oper}{Q:Exit->Act->World->Prop}{l:List Oper}{e:List (Nat×Value)}{F:bM}{L L':List Item}{d:Nat}{dst:Option Nat}{ty:TypeId}{pos:String}{bo:Array Edge}{gd:Option (Nat×Bool)}
theorem PO{x y:Operand}{t:TypeId}{s:Y}{i:Int}{q:IntKind}{c:UInt8}(o:ev e x=some (Y.v s))(p:ev e y=some (.int q i))(m:∀w,(underlying t).run P w=.ok .string w)(h:bh s i=some c):
 Ev P n w0 e F L ⟨dst,.index t x y,ty,pos,bo,gd⟩ (.int .u8 c.toBitVec.toNat):=λa w f z=>by
 obtain⟨g,j⟩:0<=i/\s[i.toNat]?=some c:=by
  unfold bh at h;split at h
  .exact⟨by assumption,h⟩
  .cases h
 have k:(Y.b s)[i.toNat]?=some c:=by rw[S7];exact j
 simp[execOp,f.eval o,f.eval p,Instr.index,asIntOf,m,Y.v,g,k]
theorem Fv{s m:Y}{i j:Int}(h:bY s i j=some m):(0<=i/\i<=j/\j<=s.length)/\(Y.b s).extract i.toNat j.toNat=Y.b m:=by obtain⟨a,f⟩:=fQ h;exact⟨a,by rw[JF,f]⟩
theorem P8{x y z:Operand}{t:TypeId}{s m:Y}{i j:Int}(B:ev e x=some (Y.v s))(C:ev e y=some (.int .i64 i))(D:ev e z=some (.int .i64 j))(A:∀w,(underlying t).run P w=.ok .string w)(h:bY s i j=some m):
 Ev P n w0 e F L ⟨dst,.slice t x (some y) (some z) none,ty,pos,bo,gd⟩ (Y.v m):=λa w f M=>by
 obtain⟨⟨g,H,k⟩,o⟩:=Fv h;have p:0<=j:=by omega
 have K:i<=((j.toNat:Nat):Int):=by omega
 simp[execOp,f.eval B,f.eval C,f.eval D,Instr.sliceAt,Instr.slice,Instr.sliceBounds,Instr.sliceBound,asIntOf,A,Y.v,Y.size,g,k,p,o];intro q;exact absurd q O
theorem Qa{x z:Operand}{t:TypeId}{s m:Y}{j:Int}(p:ev e x=some (Y.v s))(q:ev e z=some (.int .i64 j))(o:∀w,(underlying t).run P w=.ok .string w)(h:bY s 0 j=some m):
 Ev P n w0 e F L ⟨dst,.slice t x none (some z) none,ty,pos,bo,gd⟩ (Y.v m):=λa w g A=>by
 obtain⟨⟨y,i,k⟩,f⟩:=Fv h;simp only[Int.toNat_zero]at f;simp[execOp,g.eval p,g.eval q,Instr.sliceAt,Instr.slice,Instr.sliceBounds,Instr.sliceBound,asIntOf,o,Y.v,Y.size,i,k,f]
theorem P9{x y:Operand}{t:TypeId}{s m:Y}{i:Int}(p:ev e x=some (Y.v s))(q:ev e y=some (.int .i64 i))(o:∀w,(underlying t).run P w=.ok .string w)(h:bY s i (s.length:Int)=some m):
 Ev P n w0 e F L ⟨dst,.slice t x (some y) none none,ty,pos,bo,gd⟩ (Y.v m):=λa w g A=>by
 obtain⟨⟨j,k,z⟩,f⟩:=Fv h;simp only[lp]at f;simp[execOp,g.eval p,g.eval q,Instr.sliceAt,Instr.slice,Instr.sliceBounds,Instr.sliceBound,asIntOf,o,Y.v,Y.size,j,k,f]
theorem Pp{x y:Operand}{t t2:TypeId}{s m:Y}(i:ev e x=some (Y.v s))(j:ev e y=some (Y.v m))(h:s.length+m.length<=2^40):
 Ev P n w0 e F L ⟨dst,.binOp .add t x y t2,ty,pos,bo,gd⟩ (Y.v (s++m)):=λa w g k=>by
 have f:¬(9223372036854775807<((s.length:Int)+(m.length:Int))):=by omega
 simp[execOp,g.eval i,g.eval j,eqGuard,binOp,Op.stringOp,Y.v,Y.size,f,S6]
theorem JG(s:Y):(Y.b s).toList=s:=by simp[ByteArray.toList_eq,Y.b]
theorem PI{x y:Operand}{t t2:TypeId}{s m:Y}(g:ev e x=some (Y.v s))(h:ev e y=some (Y.v m)):
 Ev P n w0 e F L ⟨dst,.binOp .eql t x y t2,ty,pos,bo,gd⟩ (.bool (decide (s=m))):=λa w f i=>by
 simp[execOp,f.eval g,f.eval h,eqGuard,binOp,Op.stringOp,Y.v,JG];rw[ew];simp
theorem PZ{x y:Operand}{t t2:TypeId}{s m:Y}(g:ev e x=some (Y.v s))(h:ev e y=some (Y.v m)):
 Ev P n w0 e F L ⟨dst,.binOp .neq t x y t2,ty,pos,bo,gd⟩ (.bool (!decide (s=m))):=λa w f i=>by
 simp[execOp,f.eval g,f.eval h,eqGuard,binOp,Op.stringOp,Y.v,JG];rw[ew];simp
theorem Yg(l:List (BitVec 8)):aa l=(gJ l).map λc=>Value.int .u8 (c.toNat:Int):=by
 have:Y.bytes (gJ l)=l:=by unfold Y.bytes gJ;rw[List.map_map,show(UInt8.toBitVec ∘ UInt8.ofBitVec)=id from X,List.map_id]
 rw[<-BS,this]
theorem Ej{x:Operand}{t u el:TypeId}{s:Sl}{ys:List (BitVec 8)}(W:ev e x=some s.v)(S:∀w,(underlying t).run P w=.ok (.slice el) w)(m:∀w,(underlying el).run P w=.ok (.int .u8) w)(T:∀w,(underlying u).run P w=.ok .string w)(h:Rd w0 F L s ys):
 Ev P n w0 e F L ⟨dst,.convert t u x,ty,pos,bo,gd⟩ (Y.v (gJ ys)):=λa w C V=>by
 obtain⟨A,fr,q⟩:=h w V;have M:s.len=ys.length:=q.len ab;have k:(Conv.bytesToString s.v).run P w=.ok (Y.v (gJ ys)) w:=by
  rcases q.2.2 with⟨B,_⟩|⟨b,off,pre,post,D,K,ho,_⟩
  .have hy:ys=[]:=pC.1 O;subst hy;have p:Y.v (gJ [])=.string ByteArray.empty:=X;rw[p]
   cases i:s.a with
   |none=>simp[Sl.v,i,Conv.bytesToString]
   |some y=>have:=run_bytesToString (P:=P) w y 0 s.cap [] (by simp[loadCells,loadCellsFrom]);simp[Sl.v,i,B];simpa using this
  .have f:=run_loadCells_list (P:=P) (w:=w) ⟨b,off,none⟩ (((gJ ys).map (λc=>(c.toNat:Int))).map (Value.int .u8)) (λj v o=>by
    rw[kL,vc K];have z:((gJ ys).map (λc=>(c.toNat:Int))).map (Value.int .u8)=aa ys:=by rw[Yg];simp
    rw[z]at o;rw[lR O,it (by have:=(eO.1 o).1;omega)]
    rw[show off+j-pre.length=j by omega];exact o)
   have g:(((gJ ys).map (λc=>(c.toNat:Int))).map (Value.int .u8)).length=s.len:=by simp[gJ,M]
   rw[g]at f;have:=run_bytesToString (P:=P) w ⟨b,off,none⟩ s.len s.cap _ f;rw[foldl_push_byteCells]at this;simp only[Sl.v,D];rw[this];simp[Y.v,Y.b]
 have H:(convert t u s.v).run P w=(Conv.bytesToString s.v).run P w:=by simp[convert,S,T,m,Sl.v]
 simp[execOp,C.eval W,H,k]
theorem abq{w:World}{m:Nat}(y:Y):(Builtin.firstCells m (Y.b y).size (.string (Y.b y))).run P w=.ok (aa (Y.bytes y)).toArray w:=by
 have a:(Y.b y).extract 0 (Y.b y).size=Y.b y:=by rw[JF,Y.size];simp
 simp only[Builtin.firstCells,a,Sem.run_pure];congr 1;rw[BS];apply ny;simp[Y.b]
theorem S3{w:World}{t u ty el:TypeId}{i:Nat}{k:TypeInfo}{z:Value}{s:Sl}{xs:List Value}{y:Y}(hw:St w0 F L w)(hu:∀w,(underlying t).run P w=.ok (.slice el) w)(x:∀w,(underlying u).run P w=.ok .string w)(hi:∀w,(typeInfo el).run P w=.ok k w)(q:k.size=1)(hz:k.zero=some z)(oy:z.cells.size=1)
 (D:L[i]?=some (.own s el 1 xs)) (qj:s.len+y.length<=2^40) (kB:k.bytes<=128):
 ∃s' w',(Builtin.append_ #[t,u] ty #[s.v,Y.v y]).run P w=.ok s'.v w'/\s'.len=s.len+y.length/\St w0 F (L.set i (.own s' el 1 (xs++aa (Y.bytes y)))) w':=by
 have W:jj (World.hp w) s el 1 xs:=hw.get D;have C:(aa (Y.bytes y)).length=y.length:=by rw[BS];simp
 have h1:(aa (Y.bytes y)).all qJ=true:=qe _;generalize W6:aa (Y.bytes y)=ys at C h1;have o:∀w:World,(Builtin.firstCells 1 (Y.b y).size (.string (Y.b y))).run P w=.ok ys.toArray w:=λw=>by rw[<-W6];exact abq y
 rw[Y.size]at o;have m:(s.len+y.length)*k.bytes<=140737488355328:=kC (tH qj kB) ab;have hl:(xs++ys).length=(s.len+y.length)*1:=by rw[cH,W.1,C];omega
 by_cases j:s.len+y.length<=s.cap
 .rcases W.2.2 with⟨g2,g3⟩|⟨b,off,pre,post,hb,hh,ho,vo,K⟩
  .have e2:y.length=0:=by omega
   have ey:ys=[]:=pC.1 O;subst ey;refine⟨s,w,?_,by omega,?_⟩
   .have h:=o w;rw[e2]at h
    cases ha:s.a with
    |none=>simp[Builtin.append_,hu,x,sizeOf,hi,q,Builtin.lenOf,Sl.v,Y.v,Y.size,ha,g2,g3,e2,h]
    |some a=>simp[Builtin.append_,hu,x,sizeOf,hi,q,Builtin.lenOf,Sl.v,Y.v,Y.size,ha,g2,g3,e2,h,storeCells]
   .rw[is];have:L.set i (.own s el 1 xs)=L:=by rw[mw D];exact(my D).symm
    rw[this];exact hw
  .have rI:=W.1;have WP:y.length<=post.length:=by
    rw[cH]at K;omega
   have A:bQ (pre++(xs++post)) (off+s.len*1) ys (pre++((xs++ys)++post.drop ys.length)):=by refine⟨pre++xs,post.take ys.length,post.drop ys.length,by simp,by simp;omega,by simp;omega,by simp⟩
   have p:=run_storeCells_at (P:=P) b (off+s.len*1) el ys 0 (pre++(xs++post)).toArray w hh (by have:=A.le;simp at this ⊢;omega) (by intro u mK;exact lQ.1 h1 u mK);simp only[lj]at p;rw[A.eq]at p;refine⟨⟨s.a,s.len+y.length,s.cap⟩,w.setRow b (pre++((xs++ys)++post.drop ys.length)).toArray,?_,X,?_⟩
   .have h:=o w;simp[Builtin.append_,hu,x,sizeOf,hi,q,Builtin.lenOf,Sl.v,Y.v,Y.size,hb,j,h,kL];simp at p;simp[p]
   .refine hw.setRow D (by simp[Item.df,Sl.df,hb]) (by simp[Item.df,Sl.df,hb]) λg B=>?_;refine⟨hl,by simp only;omega,.inr ⟨b,off,pre,post.drop ys.length,hb,B _ _ _ hh,ho,j,?_⟩⟩;simp only[cH,ig]at K ⊢;omega
 .have T:¬(281474976710656<Builtin.nextslicecap (s.len+y.length) s.cap*k.bytes):=by
   have:=growslice_fits (need:=s.len+y.length) (old:=s.cap) (bytes:=k.bytes) O m;omega
  have tr:¬(9223372036854775807<((s.len:Int)+(y.length:Int))):=by omega
  have M:=ux (P:=P) (w:={w with drawn:=w.drawn+1}) W.drew;have S:=o w.drew;have hg:s.len+y.length<=grownCap w (s.len+y.length) s.cap el:=by unfold grownCap Question.cut;exact oB _ _
  refine⟨⟨some ⟨w.heap.size,0,none⟩,s.len+y.length,grownCap w (s.len+y.length) s.cap el⟩,
   {w with drawn:=w.drawn+1,heap:=w.heap.push (.cells ((xs++ys)++(Builtin.zeroCells z.cells (grownCap w (s.len+y.length) s.cap el-(s.len+y.length))).toList).toArray el)},?_,X,?_⟩
  .simp[Sl.v]at M;simp[Builtin.append_,hu,x,sizeOf,zeroValue,hi,q,hz,Builtin.lenOf,Sl.v,Y.v,Y.size,j,tr,T,Question.forced,M,S,newRow,grownCap];generalize Builtin.zeroCells z.cells _=f;have H:xs.toArray++(ys.toArray++f)=(xs++(ys++f.toList)).toArray:=by apply ny;simp
   rw[H];rfl
  .have V:=(hw.sublist (L':=L.eraseIdx i) (GU L i)).drew
   refine(V.new (i:=.own ⟨some ⟨w.heap.size,0,none⟩,s.len+y.length,grownCap w (s.len+y.length) s.cap el⟩ el 1 (xs++ys))
    (.cells ((xs++ys)++(Builtin.zeroCells z.cells (grownCap w (s.len+y.length) s.cap el-(s.len+y.length))).toList).toArray el) X λg B=>?_).perm (set_perm D)
   refine⟨hl,by simp only;omega,.inr ⟨_,0,[],_,X,by simpa using B,X,hg,?_⟩⟩;have rI:=W.1;simp only[cH,rI,C,Builtin.zeroCells,oy];simp;omega
theorem RS{x y:Operand}{t u el:TypeId}{i:Nat}{f:TypeInfo}{z:Value}{s:Sl}{xs:List (BitVec 8)}{m:Y}{cs:List Value}(S:gd=none)(g:dst=some d)(W:d<n.n)(hx:ev e x=some s.v)(hy:ev e y=some (Y.v m))(hu:∀w,(underlying t).run P w=.ok (.slice el) w)(C:∀w,(underlying u).run P w=.ok .string w)
 (hi:∀w,(typeInfo el).run P w=.ok f w) (B:f.size=1) (hz:f.zero=some z) (D:z.cells.size=1) (H:L[i]?=some (.own s el 1 cs)) (A:cs=aa xs) (M:xs.length+(Y.bytes m).length<=2^40) (q:(decide (f.bytes<=128))=true)
 (k:∀p:Sl,br P n w0 ops Q l ((d,p.v)::e) F (L.set i (.own p el 1 (aa (xs++Y.bytes m))))):br P n w0 ops Q (⟨dst,.call ⟨.builtin .append,#[x,y],#[t,u]⟩,ty,pos,bo,gd⟩::l) e F L:=
 gQ S λa w h K=>by
  subst g A;have T:s.len=xs.length:=(K.get H:jj (World.hp w) s el 1 (aa xs)).len ab;have V:(Y.bytes m).length=m.length:=by simp[Y.bytes]
  obtain⟨p,w',hr,_,o⟩:=S3 (ty:=ty) (y:=m) K hu C hi B hz D H O (by simpa using q);unfold Oper.wp;have j:(execOp a.eval ⟨some d,.call ⟨.builtin .append,#[x,y],#[t,u]⟩,ty,pos,bo,gd⟩).run P w=.ok (.value p.v) w':=by simp[execOp,resolve,invoke,builtin,h.eval hx,h.eval hy,hr]
  rw[j,Oper.upon_value];rw[<-hC]at o;exact k p _ _ (h.put W _) o
theorem Px{x:Operand}{t:TypeId}{i:BitVec 32}(k:ev e x=some (.int .u32 i.toNat)):Ev P n w0 e F L ⟨dst,.unOp .xor t x,ty,pos,bo,gd⟩ (.int .u32 ((4294967295:BitVec 32)^^^i).toNat):=λa w j _=>by
 have h:∀r:BitVec 32,IntKind.u32.wrap (r.toNat:Int)=r.toNat:=λr=>by rw[Ed,gz]
 have f:BitVec.ofInt 32 IntKind.u32.max=(4294967295:BitVec 32):=by decide
 have g:IntKind.u32.signed=false:=X;simp only[execOp,j.eval k,Op.unary,Op.intBits,IntKind.bits,gz,g,zh,if_false,f];simp only[h];rfl
theorem Iz{x y:Operand}{t t2:TypeId}{i j:Int}(g:ev e x=some (.int .i64 i))(h:ev e y=some (.int .i64 j)):Ev P n w0 e F L ⟨dst,.binOp .or t x y t2,ty,pos,bo,gd⟩ (.int .i64 (ap ((BitVec.ofInt 64 i|||BitVec.ofInt 64 j).toNat:Int))):=λa w f _=>by simp only[execOp,f.eval g,f.eval h,eqGuard,binOp,Op.intBits,IntKind.bits];rfl
end
abbrev gW:=@Pp
abbrev fG:=@PI
abbrev jO:=@PO
abbrev sa:=@PZ
abbrev nN:=@P9
abbrev sb:=@Qa
def Dw(s:Y)(c:BitVec 8):Int:=Lib.indexByte s (UInt8.ofBitVec c)
def uy(s:Y)(c:BitVec 8):Int:=((s.count (UInt8.ofBitVec c):Nat):Int)
theorem Oy(c:BitVec 8):(c.toNat:Int).toNat.toUInt8=UInt8.ofBitVec c:=by rw[lp];apply UInt8.toNat_inj.1;have:=c.isLt;simp
section
variable {P:Program}{n:Fm}{w0:World}{ops:Array Oper}{Q:Exit->Act->World->Prop}{K:Act->Prop}{l:List Oper}{e:List (Nat×Value)}{F F0:bM}{L L':List Item}{v:Value}{dst:Option Nat}{d:Nat}{ty:TypeId}{pos:String}{bo:Array Edge}{gd:Option (Nat×Bool)}
theorem Iu{x y:Operand}{u q:Value}{f:FuncId}{o:Array TypeId}{i:Func}{E:Array Value->Sem Value}(B:ev e x=some u)(C:ev e y=some q)(z:P.funcs[f]?=some i)(g:(i.name== "runtime.NumGoroutine")=false)(s:i.body.isNone=true)(p:Extern.findNext i=none)(t:Extern.find i=some E)
 (A:∀w,(E #[u,q]).run P w=.ok v w):Ev P n w0 e F L ⟨dst,.call ⟨.value (.func f),#[x,y],o⟩,ty,pos,bo,gd⟩ v:=λa w h D=>by
 have j:=run_callFunc_extern (P:=P) z g s p t #[u,q] w;rw[A w]at j;have k:=h.eval B;have m:=h.eval C;simp[execOp,resolve,Deferred.ofValue,Act.eval,invoke,k,m];simp[Act.eval]at k m
 first|exact j|(simp[k,m];exact j)|(rw[j];rfl)|(simp[k,m,j];done)
theorem PL{x y:Operand}{s:Y}{c:BitVec 8}{f:FuncId}{h:Array TypeId}{g:Func}(o:ev e x=some (Y.v s))(p:ev e y=some (.int .u8 c.toNat))(m:P.funcs[f]?=some g)(a:(g.name== "runtime.NumGoroutine")=false)(j:g.body.isNone=true)(i:Extern.findNext g=none)(k:Extern.find g=some Extern.BytealgIndexByte.indexByte):
 Ev P n w0 e F L ⟨dst,.call ⟨.value (.func f),#[x,y],h⟩,ty,pos,bo,gd⟩ (.int .i64 (Dw s c)):=
 Iu o p m a j i k λw=>by have:=Lib.run_indexByteString (P:=P) (Y.b s) (c.toNat:Int) w;rw[Oy]at this;exact this
theorem Pw{x y:Operand}{s:Y}{c:BitVec 8}{f:FuncId}{h:Array TypeId}{g:Func}(o:ev e x=some (Y.v s))(p:ev e y=some (.int .u8 c.toNat))(m:P.funcs[f]?=some g)(a:(g.name== "runtime.NumGoroutine")=false)(j:g.body.isNone=true)(i:Extern.findNext g=none)(k:Extern.find g=some Extern.BytealgCount.count):
 Ev P n w0 e F L ⟨dst,.call ⟨.value (.func f),#[x,y],h⟩,ty,pos,bo,gd⟩ (.int .i64 (uy s c)):=
 Iu o p m a j i k λw=>by have:=Lib.run_countString (P:=P) (Y.b s) (c.toNat:Int) w;rw[Oy]at this;exact this
theorem Iw{p:IntKind}{x y:Operand}{t el:TypeId}{b off off' len s:Nat}{i:Int}(m:ev e x=some (.pointer (some ⟨b,off,none⟩)))(o:ev e y=some (.int p i))(k:∀w,(underlying t).run P w=.ok (.array len el) w)
 (j:∀w,(sizeOf el).run P w=.ok s w) (g:0<=i) (hi:i<len) (h:off+i.toNat*s=off'):Ev P n w0 e F L ⟨dst,.indexAddr t x y,ty,pos,bo,gd⟩ (.pointer (some ⟨b,off',none⟩)):=λa w f _=>by
 subst h;simp[execOp,f.eval m,f.eval o,Instr.indexAt,asIntOf,k,Instr.sureAddr,j,g,hi,Addr.add]
theorem PY{x:Operand}{t t2:TypeId}{k:Array (String×TypeId)}(j:ev e x=some .nilIface)(i:∀w,(underlying t).run P w=.ok (.interface k) w):Ev P n w0 e F L ⟨dst,.binOp .neq t x (.const .nilIface) t2,ty,pos,bo,gd⟩ (.bool false):=λa w h m=>by have f:Op.equal t .nilIface .nilIface=Op.equalIn (9999+1) t .nilIface .nilIface:=X;have g:a.eval (.const .nilIface)=.nilIface:=X;simp[execOp,h.eval j,g,eqGuard,binOp,f];unfold Op.equalIn;simp[i]
theorem PH{x:Operand}{t t2:TypeId}{k:Array (String×TypeId)}(j:ev e x=some .nilIface)(i:∀w,(underlying t).run P w=.ok (.interface k) w):Ev P n w0 e F L ⟨dst,.binOp .eql t x (.const .nilIface) t2,ty,pos,bo,gd⟩ (.bool true):=λa w h m=>by have f:Op.equal t .nilIface .nilIface=Op.equalIn (9999+1) t .nilIface .nilIface:=X;have g:a.eval (.const .nilIface)=.nilIface:=X;simp[execOp,h.eval j,g,eqGuard,binOp,f];unfold Op.equalIn;simp[i]
theorem EU{x:Operand}{t u el:TypeId}{s:Y}(hg:gd=none)(o:dst=some d)(hn:d<n.n)(hx:ev e x=some (Y.v s))(hs:P.underlying t=some .string)(hd:P.underlying u=some (.slice el))(W:P.underlying el=some (.int .u8))(hl:s.length<=2^40)
 (kk:∀(S:Sl)(j:bM),dC F j->Rd w0 j [] S (Y.bytes s)->br P n w0 ops Q l ((d,S.v)::e) j L):br P n w0 ops Q (⟨dst,.convert t u x,ty,pos,bo,gd⟩::l) e F L:=
 gQ hg λa w h hw=>by
  subst o;have A:=run_bytes_of_string (P:=P) w t u el (Y.b s) hs hd W;obtain⟨c,f⟩:∃c,c=grownCap w (Y.b s).size 0 el:=⟨_,X⟩
  have C:(Y.b s).size<=c:=by rw[f];unfold grownCap Question.cut;exact oB _ _
  rw[<-f]at A;have z:(Y.b s).size=s.length:=Y.size s;have q:bytesRow (Y.b s) c=([]++(aa (Y.bytes s)++List.replicate (c-s.length) (Value.int .u8 0))).toArray:=by apply ny;rw[BS];unfold bytesRow;simp[Y.b,z,ByteArray.size]
  rw[q]at A;generalize(([]++(aa (Y.bytes s)++List.replicate (c-s.length) (Value.int .u8 0))).toArray).size=m at A;unfold Oper.wp;have y:(execOp a.eval ⟨some d,.convert t u x,ty,pos,bo,gd⟩).run P w=.ok (.value (.slice (some ⟨w.heap.size,0,none⟩) (Y.b s).size c)) {w with drawn:=w.drawn+1,heap:=w.heap.push (.cells ([]++(aa (Y.bytes s)++List.replicate (c-s.length) (Value.int .u8 0))).toArray el (m,m+1))}:=by have k:=A;simp only[World.alloc,World.drew]at k;have hv:Y.v s=.string (Y.b s):=X;have M:=h.eval hx;rw[hv]at M;simp[execOp,M];rw[k];simp
  rw[y,Oper.upon_value];have p:=hw.drew.new (.cells ([]++(aa (Y.bytes s)++List.replicate (c-s.length) (Value.int .u8 0))).toArray el (m,m+1)) (i:=.obj w.heap.size (.cells ([]++(aa (Y.bytes s)++List.replicate (c-s.length) (Value.int .u8 0))).toArray el (m,m+1))) X (by intro g B;exact B);obtain⟨j,T,D,hh⟩:=St.freeze (i:=0) p X;refine kk ⟨some ⟨w.heap.size,0,none⟩,(Y.b s).size,c⟩ j T (λw' H=>?_) _ _ (h.put hn _) D;have V:=hh w' H;refine⟨el,_,?_,?_,.inr ⟨w.heap.size,0,[],List.replicate (c-s.length) (Value.int .u8 0),X,V,X,C,?_⟩⟩
  .rw[eD];simp[Y.bytes,z]
  .simp only;omega
  .rw[cH,eD,pD];have:sz (BitVec 8)=1:=X;simp only[this,Y.bytes,fk];omega
end
def qR(t:TypeId)(e:Int):PanicEntry:={v:=.iface t (.int .i64 e),recovered:=false}
def Bq(w0:World)(F:bM)(t:TypeId)(pe:Int)(post:bM->List Item->Value->Prop)(e:Ending)(f:World):Prop:=
 ∃a L' v,e=(bif pe !=0 then Ending.panicked [qR t pe]else Ending.returned v)/\dC F a/\St w0 a L' f/\post a L' v
def lE(P:Program)(w0:World)(f:FuncId)(args:List Value)(F:bM)(L:List Item)(t:TypeId)(pe:Int)(post:bM->List Item->Value->Prop):Prop:=
 ∀w,St w0 F L w->Calls P f args.toArray w (Bq w0 F t pe post)
def Pn(ds:List Deferred)(w0:World)(Q:Exit->Act->World->Prop)(ch:List PanicEntry)(F:bM)(L:List Item):Prop:=∀a w,a.defers=ds->St w0 F L w->Q (.panic ch) a w
theorem lE.enter{P:Program}{w0:World}{f:FuncId}{args:List Value}{F:bM}{L:List Item}{t:TypeId}{pe:Int}{post:bM->List Item->Value->Prop}{fn:Func}{c:Code}{n m:Nat}(i:P.funcs[f]?=some fn)(g:fn.body=some c)(o:fn.ntmps=n)
 (k:args.length=m) (j:m<=n) (h:Cd P ⟨n,[]⟩ w0 (bodyPost P fn (Bq w0 F t pe post)) c (rD 0 args) F L):lE P w0 f args F L t pe post:=λw q=>by
 subst o k;refine calls_of_wp i g (h _ w ⟨X,by simp;omega,λt v p=>?_⟩ q);have:=(CG args 0 t v p).2;simp only[px]at this;have a:=(eO.1 this).1;rw[GR (by simpa using a)];simpa using this
section
variable {P:Program}{n:Fm}{w0:World}{ops:Array Oper}{Q:Exit->Act->World->Prop}{l:List Oper}{e:List (Nat×Value)}{F F0:bM}{L L':List Item}{v:Value}{dst:Option Nat}{d:Nat}{ty:TypeId}{pos:String}{bo:Array Edge}{gd:Option (Nat×Bool)}
 {post:bM->List Item->Value->Prop} {fn:Func} {t:TypeId} {pe:Int} {ch:List PanicEntry} {ds:List Deferred}
theorem SA{k:Act->World->Prop}(h:Pn ds w0 Q ch F L):Pn ds w0 (Exit.then k Q) ch F L:=h
theorem Sz{a:Nat}(h:Pn ds w0 Q ch F L):Pn ds w0 (Exit.inBlock a Q) ch F L:=h
theorem Pn.nx{K:Act->World->Prop}(h:Pn ds w0 Q ch F L):Pn ds w0 (Nx Q K) ch F L:=λ_ w hd g a f=>h a w (f.trans hd) g
theorem ad9(f:L'.Sublist L)(h:Pn ds w0 Q ch F L'):Pn ds w0 Q ch F L:=λa w hd g=>h a w hd (g.sublist f)
theorem Pn.hR(a:L=L')(h:Pn ds w0 Q ch F L'):Pn ds w0 Q ch F L:=by subst a;exact h
theorem Pn.lG(t:TypeId)(s:Nat)(h:Pn ds w0 Q ch F (.own Sl.nil t s []::L)):Pn ds w0 Q ch F L:=λa w hd f=>h a w hd (f.lG t s)
theorem Pn.perm(hp:L.Perm L')(h:Pn ds w0 Q ch F L'):Pn ds w0 Q ch F L:=λa w hd f=>h a w hd (f.perm hp)
theorem Sy{i:Nat}{f:Item}(g:L[i]?=some f)(a:f::L.eraseIdx i=L')(h:Pn ds w0 Q ch F L'):Pn ds w0 Q ch F L:=by subst a;exact Pn.perm (fa g) h
theorem Pn.freeze{i:Nat}{g:Item}(o:L[i]?=some g)(h:∀f,dC F f->(∀w,St w0 f [] w->g.holds (World.hp w))->Pn ds w0 Q ch f (L.eraseIdx i)):Pn ds w0 Q ch F L:=λa w hd p=>by obtain⟨f,j,k,m⟩:=p.freeze o;exact h f j m a w hd k
theorem Pn.out(hp:(pe !=0)=true)(f:dC F0 F)(h:L'.Sublist L)(g:post F L' v):Pn [] w0 (bodyPost P fn (Bq w0 F0 t pe post)) [qR t pe] F L:=λa w hd i=>⟨hd,F,L',v,by rw[hp];rfl,f,i.sublist h,g⟩
theorem O9{x:Exit}(q:x=.ret\/x=.normal)(hp:pe=0)(h:At n w0 (bodyPost P fn (nf w0 F0 post)) x e F L):At n w0 (bodyPost P fn (Bq w0 F0 t pe post)) x e F L:=λa w o p=>by
 subst hp;rcases q with rfl|rfl
 .obtain⟨g,v,i,f,L',m,j,k⟩:=h a w o p;exact⟨g,v,i,f,L',m,j,k⟩
 .obtain⟨g,v,i,f,L',m,j,k⟩:=h a w o p;exact⟨g,v,i,f,L',m,j,k⟩
theorem RY{f:FuncId}{xs:List Operand}{vs:List Value}{m:Array TypeId}(hp:(pe !=0)=false)(x:gd=none)(j:dst=some d)(y:d<n.n)(B:iU e xs vs)(g:∀(args:Array Value)(w:World),(callFunc f args).run P w=.ok (.enter f args) w)(s:lE P w0 f vs F L t pe post)
 (k:∀i L' v,dC F i->post i L' v->br P n w0 ops Q l ((d,v)::e) i L'):br P n w0 ops Q (⟨dst,.call ⟨.value (.func f),xs.toArray,m⟩,ty,pos,bo,gd⟩::l) e F L:=
 gQ x λa w h A=>by subst j;unfold Oper.wp;rw[uw h B g,Oper.upon_enter];refine(s w A).mono ?_;rintro e' C ⟨i,L',v,p,q,o,z⟩;rw[hp,rQ]at p;subst p;exact k i L' v q z _ _ (h.put y v) o
theorem R2{f:FuncId}{xs:List Operand}{vs:List Value}{j:Array TypeId}(hp:(pe !=0)=true)(s:gd=none)(z:iU e xs vs)(g:∀(args:Array Value)(w:World),(callFunc f args).run P w=.ok (.enter f args) w)(q:lE P w0 f vs F L t pe post)
 (k:∀i L' v,dC F i->post i L' v->Pn n.ds w0 Q [qR t pe] i L'):br P n w0 ops Q (⟨dst,.call ⟨.value (.func f),xs.toArray,j⟩,ty,pos,bo,gd⟩::l) e F L:=
 gQ s λa w h y=>by unfold Oper.wp;rw[uw h z g,Oper.upon_enter];refine(q w y).mono ?_;rintro e' A ⟨i,L',v,o,p,m,x⟩;rw[hp,pA]at o;subst o;exact k i L' v p x _ _ h.defers m
theorem PX{x:Operand}{s:TypeId}{k:IntKind}(g:ev e x=some v)(f:∀w,(underlying s).run P w=.ok (.int k) w):Ev P n w0 e F L ⟨dst,.makeInterface s x,ty,pos,bo,gd⟩ (.iface s v):=λa w h i=>by simp[execOp,h.eval g,Instr.makeInterface,f]
theorem br.panic{x:Operand}{i:Int}(f:gd=none)(m:ev e x=some (.iface t (.int .i64 i)))(k:Pn n.ds w0 Q [qR t i] F L):br P n w0 ops Q (⟨dst,.panic x,ty,pos,bo,gd⟩::l) e F L:=
 gQ f λa w h j=>by
  unfold Oper.wp;have g:(execOp a.eval ⟨dst,.panic x,ty,pos,bo,gd⟩).run P w=.halt (.panic (.iface t (.int .i64 i))) w:=by simp[execOp,h.eval m,Instr.panic,goPanic]
  rw[g,Oper.upon_panic];exact k a w h.defers j
theorem Pf{j:Nat}{l:List Oper}(m:Nat)(g:P.follows .mixedOrders=true)(a:decide (m<=l.length)=true)(f:n4 l.toArray m)(i:Region.noSelect l.toArray=true)
 (h:Region.noSelect l.toArray=true->n4 l.toArray m->fV P n w0 Q l m (λ_ _=>False) (λ_=>True) m (Array.replicate l.length false) e F L):Cd P n w0 Q (.region j l.toArray true) e F L:=
 Ik m _ g (by simpa using a) (h i f) λ_ _ h=>h.elim
end
abbrev j9:=@O9
abbrev vX:=@Pf
abbrev rZ:=@PX
abbrev fO:=@RY
abbrev fS:=@R2
abbrev tV:=@br.panic
abbrev qD:=@lE.enter
abbrev fm:=@Sy
abbrev f5:=@Sz
abbrev fb:=@Pn.out
abbrev dD:=@SA
theorem az{p:Prop}(h:p:=by kernel_rfl):p:=h
theorem rl{α:Type}{l:List α}:l.Sublist l:=.refl l
theorem bm{α:Type}{l:List α}:[].Sublist l:=List.nil_sublist l
theorem bs{α a:Type}{o:Option α}{f:α->Option a}{r:a}(h:o.bind f=some r):∃x,o=some x/\f x=some r:=bind_some h
theorem si{α:Type}{x y:α}(h:some x=some y):x=y:=dp h
theorem sj{α:Type}{x y:α}(h:some x=some y):y=x:=(dp h).symm
theorem bz{α i:Type}{o:Option α}{f:α->Option i}{r:i}{g:Prop}(h:o.bind f=some r)(k:∀x,o=some x->f x=some r->g):g:=let⟨x,a,b⟩:=bind_some h;k x a b
theorem lz{α g:Type}{x:α}{f:α->Option g}{r:g}{a:Prop}(h:Let x f=some r)(k:∀y,x=y->f y=some r->a):a:=k x X h
theorem iz{α:Type}{b:Bool}{x y:Option α}{r:α}{a:Prop}(h:(bif b then x else y)=some r)(k:b=true->x=some r->a)(l:b=false->y=some r->a):a:=(ic h).elim (λq=>k q.1 q.2) λq=>l q.1 q.2
theorem iy{α:Type}{b:Bool}{x y:Option α}{r:α}{a:Prop}(h:(bif b then x else y)=some r)(k:b=false->y=some r->a)(l:b=true->x=some r->a):a:=iz h l k
theorem bK{P:Program}{w0:World}{f:FuncId}{args:List Value}{F:bM}{L:List Item}{post:bM->List Item->Value->Prop}{a:Func}{c:Code}(n:Nat)(i:P.funcs[f]?=some a)(g:(a.body,a.ntmps,decide (args.length<=n))=(some c,n,true))(h:Cd P ⟨n,[]⟩ w0 (bodyPost P a (nf w0 F post)) c (rD 0 args) F L):Ok P w0 f args F L post:=by simp only[rO,eW]at g;exact Ok.enter i g.1 g.2.1 X g.2.2 h
theorem e0{p:Prop}(h:p:=by repeat' first|exact X|exact cy|apply And.intro):p:=h
theorem bW{n:Nat}:n<n+1:=zc n
theorem el{α:Type}[an α]{x:α}:(enc x).length=sz α:=an.len x
theorem ci{α:Type}[an α]{x y:α}:bQ (enc x) 0 (enc y) (enc y):=cC ((an.len _).trans (an.len _).symm)
theorem ft{F a K:bM}(h:dC F a)(k:dC a K):dC F K:=dC.trans h k
section
variable {P:Program}{n:Fm}{w0:World}{ops:Array Oper}{Q:Exit->Act->World->Prop}{K:Act->Prop}{l:List Oper}{e:List (Nat×Value)}{F:bM}{L:List Item}{v:Value}{d:Nat}{ty:TypeId}{pos:String}{bo:Array Edge}{gd:Option (Nat×Bool)}{dst:Option Nat}{post:bM->List Item->Value->Prop}
def Dy(ops:Array Oper)(e:List (Nat×Value))(n d j:Nat):Option Value:=if d<n then(ops[j]?).bind λo=>o.dst.bind λt=>look e t else none
theorem NT{b:Bool}{j:Nat}(h:Dy ops e n.n d j=some (.bool b)):d<n.n/\∃t,(ops[j]?).bind (·.dst)=some t/\look e t=some (.bool b):=by
 unfold Dy at h;split at h
 .rename_i a;obtain⟨o,f,h⟩:=Cl.1 h;obtain⟨t,g,h⟩:=Cl.1 h;exact⟨a,t,by rw[f];exact g,h⟩
 .cases h
theorem aq{i:Op}{j:Nat}{a b:Bool}(h:Dy ops e n.n d j=some (.bool b))(m:b=!a)(k:br P n w0 ops Q l ((d,undef)::e) F L):br P n w0 ops Q (⟨some d,i,ty,pos,bo,some (j,a)⟩::l) e F L:=by obtain⟨o,t,f,g⟩:=NT h;exact br.skip X f g m X o k
theorem cR{i:Op}{j:Nat}{a b:Bool}(h:Dy ops e n.n d j=some (.bool b))(m:b=!a)(k:Qt P n w0 ops K l ((d,undef)::e) F L):Qt P n w0 ops K (⟨some d,i,ty,pos,bo,some (j,a)⟩::l) e F L:=by obtain⟨o,t,f,g⟩:=NT h;exact Qt.skip X f g m X o k
theorem PK(off':Nat){x:Operand}{t:TypeId}{k b off:Nat}{a:Array Field}{f:Field}{s:Nat}(o:ev e x=some (.pointer (some ⟨b,off,none⟩)))(m:∀w,(underlying t).run P w=.ok (.struct a) w)
 (h:a[k]?=some f) (j:∀w,(sizeOf f.type).run P w=.ok s w) (g:(s==0)=false) (i:off+f.offset=off'):Ev P n w0 e F L ⟨dst,.fieldAddr t x k,ty,pos,bo,gd⟩ (.pointer (some ⟨b,off',none⟩)):=Ev.fieldAddr o m h j g i
theorem lf(i:Nat){a:Item}(f:L[i]?=some a)(h:br P n w0 ops Q l e F (a::L.eraseIdx i)):br P n w0 ops Q l e F L:=R8 f X h
theorem af(i:Nat){x:Exit}{a:Item}(f:L[i]?=some a)(h:At n w0 Q x e F (a::L.eraseIdx i)):At n w0 Q x e F L:=OV f X h
theorem cl{f:FuncId}{xs:List Operand}{vs:List Value}{h:Array TypeId}(j:decide (d<n.n)=true)(m:iU e xs vs)(a:∀(args:Array Value)(w:World),(callFunc f args).run P w=.ok (.enter f args) w)(i:Ok P w0 f vs F L post)
 (k:∀g L' v,dC F g->post g L' v->br P n w0 ops Q l ((d,v)::e) g L'):br P n w0 ops Q (⟨some d,.call ⟨.value (.func f),xs.toArray,h⟩,ty,pos,bo,none⟩::l) e F L:=br.call X X (j5 j) m a i k
theorem bH{f:FuncId}{xs:List Operand}{vs:List Value}{g:Array TypeId}(i:decide (d<n.n)=true)(j:iU e xs vs)(a:∀(args:Array Value)(w:World),(callFunc f args).run P w=.ok (.enter f args) w)(h:Ok P w0 f vs F L (Is v L))
 (k:br P n w0 ops Q l ((d,v)::e) F L):br P n w0 ops Q (⟨some d,.call ⟨.value (.func f),xs.toArray,g⟩,ty,pos,bo,none⟩::l) e F L:=RU X X (j5 i) j a h k
theorem bL(i:Nat){x y:Operand}{t:TypeId}{b off s:Nat}{cs cs' vs:List Value}{f:TypeId}{L':List Item}(p:ev e x=some (.pointer (some ⟨b,off,none⟩)))(q:ev e y=some v)(h:L[i]?=some (.ak b cs f))
 (m:∀w,(sizeOf t).run P w=.ok s w) (o:v.cells.toList=vs) (j:vs.length=s) (g:vs.all qJ=true) (hp:bQ cs off vs cs') (a:L.set i (.ak b cs' f)=L')
 (k:br P n w0 ops Q l e F L'):br P n w0 ops Q (⟨none,.store t x y,ty,pos,bo,none⟩::l) e F L:=br.store X X p q h m o j g hp a k
end
abbrev cU(b:Nat)(m:List (Int×Int)):Item:=fZ b (λx:Int=>(iv x:Value)) (λx:Int=>(iv x:Value)) m
abbrev ar:=@PK
def fA(P:Program)(w0:World):Prop:=Lib.TabIs P w0 "internal/strconv.uint64pow10" .u64 Lib.pow10Tab
def oA(n:Int):Option Y:=if-9223372036854775808<=n/\n<=9223372036854775807 then some (Lib.itoa n)else none
theorem fA.now{P:Program}{w0 w:World}{g:Nat}(h:fA P w0)(f:P.globalNamed "internal/strconv.uint64pow10"=some g)(e:Below w0.heap.size w0 w):Lib.TabIs P w "internal/strconv.uint64pow10" .u64 Lib.pow10Tab:=by
 unfold fA Lib.TabIs World.var? at*
 rw[f]at h ⊢;simp only[lk]at h ⊢;have d:g<w0.heap.size:=by
  rcases pr g w0.heap.size with a|a
  .exact a
  .rw[Array.getElem?_eq_none a]at h;cases h
 rw[e.block g d];exact h
theorem St.grow{w0:World}{F:bM}{L:List Item}{w:World}(h:St w0 F L w)(k:Nat)(os:Array Obj):St w0 F L (Sort.grow (w.drewN k) os):=by
 have a:∀b,b<w.heap.size->(Sort.grow (w.drewN k) os).heap[b]?=w.heap[b]?:=λb d=>Sort.heap_grow_old (w.drewN k) os d;have e:(Sort.grow (w.drewN k) os).heap.size=w.heap.size+os.size:=Sort.size_grow (w.drewN k) os;refine⟨h.below.trans ⟨X,X,X,by rw[e];omega,λb d=>a b (by have:=h.below.size;omega)⟩,λb o d=>?_,λb d=>?_,λj f=>?_,h.nodup⟩
 .have:=h.kv b o d;rw[a b (lP.1 this).1];exact this
 .have:=h.apart b d;exact⟨this.1,by rw[e];omega,this.2.2⟩
 .refine uW (λb d=>?_) (h.holds j f);exact a b (h.apart b (tT f d)).2.1
theorem Ok.itoa{P:Program}{w0:World}{f:FuncId}{F:bM}{L:List Item}{n:Int}{r:Y}{g:Nat}(H:oA n=some r)(l:fA P w0)(o:P.globalNamed "internal/strconv.uint64pow10"=some g)
 (j:∀(n:Int),-9223372036854775808<=n->n<=9223372036854775807->∀w:World,Lib.TabIs P w "internal/strconv.uint64pow10" .u64 Lib.pow10Tab->Calls P f #[.int .i64 n] w λe i=>e=.returned (.string ⟨(Lib.itoa n).toArray⟩)/\∃k os,i=Sort.grow (w.drewN k) os):
 Ok P w0 f [iv n] F L (Is (Y.v r) L):=λw h=>by
 unfold oA at H;split at H
 .rename_i d;cases H;refine(j n d.1 d.2 w (l.now o h.below)).mono λe i⟨m,k,os,a⟩=>?_;subst m;subst a;exact⟨F,L,_,X,nO _,h.grow k os,X,X⟩
 .cases H
theorem St.up{w0:World}{F:bM}{L:List Item}{w f:World}(h:St w0 F L w)(a:Below w.heap.size w f):St w0 F L f:=
 ⟨h.below.trans ⟨a.os,a.tape,a.output,a.size,λk i=>a.block k (by have:=h.below.size;omega)⟩,
  λb o g=>by have:=h.kv b o g;rw[a.block b (lP.1 this).1];exact this,
  λb d=>by have:=h.apart b d;exact⟨this.1,by have:=a.size;omega,this.2.2⟩,
  λj e=>uW (λb d=>a.block b (h.apart b (tT e d)).2.1) (h.holds j e),h.nodup⟩
theorem UM(xs:List Y):aa xs=xs.map Y.v:=by
 induction xs with
 |nil=>rfl
 |cons a l d=>rw[lS,<-d];rfl
theorem UK(xs:List Int):aa xs=xs.map iv:=by
 induction xs with
 |nil=>rfl
 |cons a l d=>rw[lS,<-d];rfl
theorem KM(xs:List (BitVec 16)):aa xs=xs.map λx=>.int .u16 x.toNat:=by
 induction xs with
 |nil=>rfl
 |cons a l d=>rw[lS,<-d];rfl
theorem Rd.cells{w0 w:World}{F:bM}{L:List Item}{α:Type}[an α]{v:α->Value}{s:Sl}{xs:List α}(f:aa xs=xs.map v)(k:sz α=1)(m:Rd w0 F L s xs)(n:St w0 F L w):
 s.len=xs.length/\xs.length<=s.cap/\∀(j:Nat)x,xs[j]?=some x->∃b o,s.a=some ⟨b,o,none⟩/\b<w.heap.size/\w.cell? ⟨b,o+j,none⟩=some (v x):=by
 obtain⟨t,q,h,y,d⟩:=m w n;have a:(aa xs).length=xs.length:=by rw[f,fk]
 rw[a,k,Nat.mul_one]at h;refine⟨h.symm,by omega,λj x g=>?_⟩;have l:=(eO.1 g).1;rcases d with⟨d,e⟩|⟨b,off,pre,post,d,e,p,z,A⟩
 .omega
 .refine⟨b,off,d,(lP.1 e).1,?_⟩;have i:(aa xs)[j]?=some (v x):=by rw[f,jh,g];rfl
  rw[vc e,lR O,it (by rw[a];omega),<-p,za];exact i
def yV(xs:List Y)(a:Y):Option Y:=if xs.length<=140737488355328/\(Lib.join xs a).length<=140737488355328 then some (Lib.join xs a)else none
theorem Ok.join{P:Program}{w0:World}{f:FuncId}{F:bM}{L:List Item}{s:Sl}{xs:List Y}{d r:Y}(H:yV xs d=some r)(hr:Rd w0 F L s xs)
 (T:∀(n o c:Nat)(xs:List ByteArray)(d:ByteArray)(w:World),(∀(j:Nat)x,xs[j]?=some x->w.cell? ⟨n,o+j,none⟩=some (.string x))->n<w.heap.size->xs.length<=140737488355328->xs.length<=c->
  (Lib.join (xs.map (·.data.toList)) d.data.toList).length<=140737488355328->Calls P f #[.slice (some ⟨n,o,none⟩) xs.length c,.string d] w λe l=>e=.returned (.string ⟨(Lib.join (xs.map (·.data.toList)) d.data.toList).toArray⟩)/\Below w.heap.size w l)
 (V:∀(a:Option Addr)(c:Nat)(d:ByteArray)(w:World),Calls P f #[.slice a 0 c,.string d] w λe l=>e=.returned (.string ⟨#[]⟩)/\l=w):
 Ok P w0 f [Sl.v s,Y.v d] F L (Is (Y.v r) L):=λw z=>by
 unfold yV at H;split at H
 .rename_i t;cases H;obtain⟨C,S,m⟩:=hr.cells (UM xs) X z;refine Calls.mono (show Calls P f #[.slice s.a s.len s.cap,Y.v d] w _ from ?_) (λ_ _ h=>h);rw[C]
  cases xs with
  |nil=>refine(V s.a s.cap (Y.b d) w).mono ?_;rintro e l ⟨rfl,rfl⟩;exact⟨F,L,_,X,nO _,z,X,X⟩
  |cons K B=>
   generalize A:K::B=xs at C S m t ⊢;obtain⟨b,o,W,p,-⟩:=m 0 K (by rw[<-A];rfl);rw[W]at m ⊢;have D:(xs.map Y.b).map (·.data.toList)=xs:=by rw[List.map_map];exact(List.map_congr_left λx _=>by simp[Y.b]).trans (List.map_id xs)
   have i:(Y.b d).data.toList=d:=by simp[Y.b]
   have k:=T b o s.cap (xs.map Y.b) (Y.b d) w (λj x g=>?_) p (by rw[fk];exact t.1) (by rw[fk];omega) (by rw[D,i];exact t.2)
   .rw[D,i,fk]at k;refine k.mono ?_;rintro e l ⟨rfl,p⟩;exact⟨F,L,_,X,nO _,z.up p,X,X⟩
   .rw[jh]at g
    cases q:xs[j]? with
    |none=>rw[q]at g;cases g
    |some y=>
     rw[q]at g;obtain⟨b',o',M,-,Q⟩:=m j y q;cases M;injection g with g
     subst g;exact Q
 .cases H
def hY(xs:List Int):List UInt8:=xs.flatMap λn=>Lib.itoa n++[32]
def sA(xs:List Int):Option Y:=if xs.length<=1048576/\∀x∈xs,-9223372036854775808<=x/\x<=9223372036854775807 then some (hY xs++[46])else none
theorem Jk{P:Program}{w0:World}{f:FuncId}{F:bM}{L:List Item}{α:Type}[an α]{v:α->Value}{g:α->Int}{l:Nat}{s:Sl}{xs:List α}{r:Y}(z:aa xs=xs.map v)(m:sz α=1)(H:sA (xs.map g)=some r)(y:Rd w0 F L s xs)
 (p:fA P w0) (t:P.globalNamed "internal/strconv.uint64pow10"=some l)
 (n:∀(a:Option Addr)(c:Nat)(w:World),(∀(j:Nat)x,xs[j]?=some x->∃b o,a=some ⟨b,o,none⟩/\b<w.heap.size/\w.cell? ⟨b,o+j,none⟩=some (v x))->xs.length<=1048576->(∀x∈xs.map g,-9223372036854775808<=x/\x<=9223372036854775807)->
  Lib.TabIs P w "internal/strconv.uint64pow10" .u64 Lib.pow10Tab->Calls P f #[.slice a xs.length c] w λe k=>e=.returned (.string ⟨(hY (xs.map g)++[46]).toArray⟩)/\Below w.heap.size w k):
 Ok P w0 f [Sl.v s] F L (Is (Y.v r) L):=λw i=>by
 unfold sA at H;split at H
 .rename_i d;rw[fk]at d;cases H;obtain⟨A,C,B⟩:=y.cells z m i;refine Calls.mono (show Calls P f #[.slice s.a s.len s.cap] w _ from ?_) (λ_ _ h=>h);rw[A];refine(n s.a s.cap w B d.1 d.2 (p.now t i.below)).mono ?_;rintro e k ⟨rfl,q⟩;exact⟨F,L,_,X,nO _,i.up q,X,X⟩
 .cases H
def yS(s c:Y):Option Int:=if c=[108,115,116]/\s.length<4294967281 then some (Lib.indexAny s c)else none
theorem Ok.indexAny{P:Program}{w0:World}{f:FuncId}{F:bM}{L:List Item}{s c:Y}{r:Int}(H:yS s c=some r)
 (g:∀(s:ByteArray)(w:World),s.size<4294967281->Calls P f #[.string s,.string ⟨#[108,115,116]⟩] w λe d=>e=.returned (.int .i64 (Lib.indexAny s.data.toList [108,115,116]))/\Below w.heap.size w d):
 Ok P w0 f [Y.v s,Y.v c] F L (Is (iv r) L):=λw i=>by
 unfold yS at H;split at H
 .rename_i a;obtain⟨rfl,a⟩:=a;cases H;refine(g (Y.b s) w (by simpa[Y.b,ByteArray.size]using a)).mono ?_;rintro e d ⟨rfl,h⟩;exact⟨F,L,_,X,nO _,i.up h,by simp[Y.b,iv],X⟩
 .cases H
def Sl.sub(v:Sl)(k n:Nat):Sl:=⟨v.a.map λa=>⟨a.block,a.off+k,none⟩,n,n⟩
theorem Rd.sub{w0:World}{F:bM}{L:List Item}{α:Type}[an α]{k i:Nat}{s:Sl}{xs:List (Vector α k)}{y:Vector α k}(o:Rd w0 F L s xs)(h:xs[i]?=some y)(j:0<sz (Vector α k))(l:k<=2^63-1):Rd w0 F L (Sl.sub s (i*sz (Vector α k)) k) y.toList:=λw p=>by
 obtain⟨t,d,x,D,a⟩:=o w p;have hi:=(eO.1 h).1;rcases a with⟨a,H⟩|⟨b,off,pre,post,e,f,g,z,C⟩
 .rw[eD,a,vz]at x;have:0<xs.length*sz (Vector α k):=Nat.mul_pos O j;omega
 .obtain⟨A,B,m,n⟩:=bF (s:=sz (Vector α k)) X h ag;have q:(enc y).length=k*sz α:=by rw[an.len];rfl
  refine⟨t,d,by rw[eD];simp[Sl.sub],l,.inr ⟨b,off+i*sz (Vector α k),pre++A,B++post,by simp[Sl.sub,e],?_,?_,dG _,?_⟩⟩
  .rw[f,m];show _=some (Obj.cells (pre++A++(enc y++(B++post))).toArray t d);simp
  .rw[cH,g,n];rfl
  .show k*sz α<=(enc y++(B++post)).length;rw[cH,q];omega
theorem P7{P:Program}{n:Fm}{w0:World}{e:List (Nat×Value)}{F:bM}{L:List Item}{dst:Option Nat}{ty:TypeId}{pos:String}{bo:Array Edge}{gd:Option (Nat×Bool)}{α:Type}[an α]{x:Operand}{t el:TypeId}{k m i:Nat}{s:Sl}{xs:List (Vector α k)}{y:Vector α k}
 (A:ev e x=some (Sl.at s (i*sz (Vector α k)))) (o:Rd w0 F L s xs) (h:xs[i]?=some y) (j:0<sz (Vector α k)) (q:∀w,(underlying t).run P w=.ok (.array k el) w) (p:∀w,(sizeOf el).run P w=.ok m w):
 Ev P n w0 e F L ⟨dst,.slice t x none none none,ty,pos,bo,gd⟩ (Sl.v (Sl.sub s (i*sz (Vector α k)) k)):=λa w l z=>by
 obtain⟨T,M,B,Q,f⟩:=o w z;have hi:=(eO.1 h).1;rcases f with⟨f,S⟩|⟨b,off,pre,post,g,C,D,H,K⟩
 .rw[eD,f,vz]at B;have:0<xs.length*sz (Vector α k):=Nat.mul_pos O j;omega
 .have d:=l.eval A;simp only[Sl.at,g]at d;simp[execOp,Instr.sliceAt,d,q,Instr.sureAddr,Instr.sliceBounds,p,Sl.v,Sl.sub,g,kL]
def om:Y:=[101,114,114,111,114,32]
end Go.Proofs.YteagbdjohkfneaaGreatDoor
namespace Go.Proofs.YteagbdjohkfneaaGreatDoor
open Go.RowKit an Go.Lib Go.Sort
theorem Zb{α:Type}[Inhabited α]{v:α->Value}{pre post:List Value}{xs ys:List α}(h:ys.length=xs.length):
 putCells v pre.length ys.toArray (pre++(xs.map v++post)).toArray=(pre++(ys.map v++post)).toArray:=by
 apply GJ;intro k;unfold putCells;simp only[Array.getElem?_mapIdx,List.getElem?_toArray,tF];rcases pr k pre.length with a|a
 .rw[it a,it a];rw[gG a];simp only[tI];rw[ca O]
 .rw[lR a,lR a];rcases pr (k-pre.length) xs.length with d|d
  .rw[it (by rw[fk];exact d),it (by rw[fk];omega),jh,jh,
    gG d,gG O]
   simp only[tI];rw[bE O];congr 2;rw[getElem!_pos ys.toArray _ (by simp;omega)];simp
  .rw[lR (by rw[fk];exact d),lR (by rw[fk];omega),fk,fk,h]
   cases post[k-pre.length-xs.length]? with
   |none=>rfl
   |some x=>simp only[tI];rw[ca O]
theorem St.putRow{w0 w:World}{F:bM}{L:List Item}{α:Type}[Inhabited α][an α]{v:α->Value}{s:Sl}{t:TypeId}{xs ys:List α}{b o:Nat}(e:∀xs:List α,aa xs=xs.map v)(i:ys.length=xs.length)(h:St w0 F (.own s t 1 (aa xs)::L) w)
 (g:s.a=some ⟨b,o,none⟩) (n:0<xs.length):St w0 F (.own s t 1 (aa ys)::L) (putRow v w b o ys.toArray):=by
 refine(show St w0 F ([]++.own s t 1 (aa ys)::L) (Sort.putRow v w b o ys.toArray)from St.change (L:=[]) (M:=L) (j:=.own s t 1 (aa ys)) (b:=b) h (by simp[Item.df,Sl.df,g]) X (onCells (putCells v o ys.toArray)) ?_);have a:=h.holds _ (mj ..);obtain⟨p,q,d⟩:=a;have l:(aa xs).length=xs.length:=by rw[e,fk]
 have m:(aa ys).length=ys.length:=by rw[e,fk]
 refine⟨by rw[m,i,<-l];exact p,q,?_⟩;rcases d with⟨d,f⟩|⟨z,A,pre,post,d,f,k,x,y⟩
 .omega
 .rw[g]at d;cases d;refine .inr ⟨b,o,pre,post,g,?_,k,x,?_⟩
  .show(w.heap.modify b _)[b]?=_;have f:w.heap[b]?=_:=f;rw[vC,bE X,f];simp only[tI,onCells];rw[e,e,<-k,Zb i]
  .rw[cH]at y ⊢;omega
theorem St.WI{w0 w:World}{F:bM}{L:List Item}{α:Type}[Inhabited α][an α]{v:α->Value}{s:Sl}{t:TypeId}{xs:List α}{b o:Nat}(f:∀xs:List α,aa xs=xs.map v)(h:St w0 F (.own s t 1 (aa xs)::L) w)
 (i:s.a=some ⟨b,o,none⟩) (l:0<xs.length):Holds v w b o xs.toArray/\b<w.heap.size:=by
 obtain⟨p,q,e⟩:=h.holds _ (mj ..);have g:(aa xs).length=xs.length:=by rw[f,fk]
 rcases e with⟨e,a⟩|⟨n,z,pre,post,e,a,m,x,y⟩
 .omega
 .rw[i]at e;cases e;refine⟨λj k=>⟨?_,?_⟩,(lP.1 a).1⟩
  .have d:j<xs.length:=by simpa using k
   rw[vc a,lR O,it (by rw[g];omega),<-m,za,f,jh,gG d];rw[getElem!_pos xs.toArray _ (by simpa using d)];simp
  .have a:w.heap[b]?=_:=a;simp[World.frozen?,a]
def w6{α:Type}(a:α->α->Int)(xs:List α):Option (List α):=if xs.length<4611686018427387904 then some (xs.mergeSort λx y=>!(ltOf a) y x)else none
theorem Su{P:Program}{w0:World}{f:FuncId}{g:Value}{F:bM}{L:List Item}{α:Type}[Inhabited α][an α]{v:α->Value}{p:α->α->Int}{s:Sl}{t:TypeId}{xs r:List α}(B:∀xs:List α,aa xs=xs.map v)(M:sz α=1)(H:w6 p xs=some r)
 (V:∀(b o c:Nat)(d:Array α)(w:World),Holds v w b o d->b<w.heap.size->d.size<4611686018427387904->Calls P f #[.slice (some ⟨b,o,none⟩) d.size c,g] w λe m=>e=.returned (.tuple #[])/\∃n os,m=sortWorld v w b o n (d.toList.mergeSort λx y=>!(ltOf p) y x).toArray os)
 (hN:∀(a:Option Addr)(c:Nat)(w:World),Calls P f #[.slice a 0 c,g] w λe m=>e=.returned (.tuple #[])/\m=w):
 Ok P w0 f [Sl.v s,g] F (.own s t 1 (aa xs)::L) (λ_ L' u=>u=.tuple #[]/\L'=.own s t 1 (aa r)::L):=λw l=>by
 unfold w6 at H;split at H
 .rename_i Q;cases H;have k:Rd w0 F (.own s t 1 (aa xs)::L) s xs:=nJ (i:=0) X M.symm X;obtain⟨S,k2,k3⟩:=k.cells (B xs) M l;refine Calls.mono (show Calls P f #[.slice s.a s.len s.cap,g] w _ from ?_) (λ_ _ h=>h);rw[S]
  cases xs with
  |nil=>refine(hN s.a s.cap w).mono ?_;rintro e m ⟨rfl,rfl⟩;exact⟨F,_,_,X,nO _,l,X,by simp⟩
  |cons T K=>
   obtain⟨b,o,q,hb,-⟩:=k3 0 T X;generalize C:T::K=xs at S k2 Q l k ⊢;have j:0<xs.length:=by rw[<-C];exact Nat.succ_pos _
   obtain⟨W,z⟩:=l.WI B q j;have D:=V b o s.cap xs.toArray w W z (by simpa using Q);rw[q];refine Calls.mono (show Calls P f #[.slice (some ⟨b,o,none⟩) xs.toArray.size s.cap,g] w _ from D) ?_;rintro e m ⟨rfl,n,os,rfl⟩;refine⟨F,_,_,X,nO _,?_,X,X⟩;have A:(xs.mergeSort λx y=>!(ltOf p) y x).length=xs.length:=List.length_mergeSort ..;exact(St.putRow B A (w:=Sort.ahead w n) (St.grow l n #[]) q j).grow 0 os
 .cases H
def iI(x:BitVec 16):Int:=(pop8 ((x.toNat:Int)/256)+pop8 ((x.toNat:Int)%256))%256
def lb(x y:BitVec 16):Int:=if compareInt (iI x) (iI y)=0 then compareInt x.toNat y.toNat else compareInt (iI x) (iI y)
theorem Fd{x y:BitVec 16}:ltOf lb x y=true↔iI x<iI y\/(iI x=iI y/\x.toNat<y.toNat):=by
 unfold ltOf lb;generalize iI x=a;generalize iI y=b;unfold compareInt;rw[eW]
 repeat' split
 all_goals omega
theorem Fe{x y:BitVec 16}:ltOf lb x y=false↔¬(iI x<iI y\/(iI x=iI y/\x.toNat<y.toNat)):=by rw[<-Fd];cases ltOf lb x y<;>simp
set_option maxRecDepth 100000 in
theorem TT:Sort.SWO (ltOf lb):=by
 refine⟨λx=>?_,λx y z a d=>?_,λx y z a d=>?_⟩
 .rw[Fe];omega
 .rw[Fd]at*;omega
 .rw[Fe]at*;omega
set_option maxRecDepth 100000 in
theorem TU(x y:BitVec 16)(a:ltOf lb x y=false)(d:ltOf lb y x=false):x=y:=by
 rw[Fe]at*
 apply nD;omega
end Go.Proofs.YteagbdjohkfneaaGreatDoor
namespace Go.Proofs.YteagbdjohkfneaaGreatDoor
open Go.RowKit an
theorem Sr{P:Program}{w0:World}{f:FuncId}{args:List Value}{F:bM}{L:List Item}{post:bM->List Item->Value->Prop}{fn:Func}{c:Code}{n m:Nat}(i:P.funcs[f]?=some fn)(g:fn.body=some c)(o:fn.ntmps=n)
 (k:args.length=m) (j:m<=n) (h:Cd P ⟨n,[]⟩ w0 (bodyPostD P fn (nf w0 F post)) c (rD 0 args) F L):Ok P w0 f args F L post:=λw q=>by
 subst o k;refine calls_of_wp_defers i g (h _ w ⟨X,by simp;omega,λt v p=>?_⟩ q);have:=(CG args 0 t v p).2;simp only[px]at this;have a:=(eO.1 this).1;rw[GR (by simpa using a)];simpa using this
def kl(n:Fm)(e:List (Nat×Value))(w0:World)(Q:Exit->Act->World->Prop)(ch:List PanicEntry)(F:bM)(L:List Item):Prop:=∀a w,fU n a e->St w0 F L w->Q (.panic ch) a w
section
variable {P:Program}{n:Fm}{w0:World}{ops:Array Oper}{Q:Exit->Act->World->Prop}{l:List Oper}{e e':List (Nat×Value)}{F F0:bM}{L L':List Item}{v:Value}{dst:Option Nat}{d:Nat}{ty:TypeId}{pos:String}{bo:Array Edge}{gd:Option (Nat×Bool)}
 {post:bM->List Item->Value->Prop} {fn:Func} {t:TypeId} {pe:Int} {ch:List PanicEntry}
theorem Jm{k:Act->World->Prop}(h:kl n e w0 Q ch F L):kl n e w0 (Exit.then k Q) ch F L:=h
theorem aea{a:Nat}(h:kl n e w0 Q ch F L):kl n e w0 (Exit.inBlock a Q) ch F L:=h
theorem aeb(f:L'.Sublist L)(h:kl n e w0 Q ch F L'):kl n e w0 Q ch F L:=λa w hd g=>h a w hd (g.sublist f)
theorem kl.hR(a:L=L')(h:kl n e w0 Q ch F L'):kl n e w0 Q ch F L:=by subst a;exact h
theorem kl.perm(hp:L.Perm L')(h:kl n e w0 Q ch F L'):kl n e w0 Q ch F L:=λa w hd f=>h a w hd (f.perm hp)
theorem BC{i:Nat}{f:Item}(g:L[i]?=some f)(a:f::L.eraseIdx i=L')(h:kl n e w0 Q ch F L'):kl n e w0 Q ch F L:=by subst a;exact kl.perm (fa g) h
theorem R3{f:FuncId}{xs:List Operand}{vs:List Value}{j:Array TypeId}(hp:(pe !=0)=true)(s:gd=none)(z:iU e xs vs)(g:∀(args:Array Value)(w:World),(callFunc f args).run P w=.ok (.enter f args) w)(q:lE P w0 f vs F L t pe post)
 (k:∀i L' v,dC F i->post i L' v->kl n e w0 Q [qR t pe] i L'):br P n w0 ops Q (⟨dst,.call ⟨.value (.func f),xs.toArray,j⟩,ty,pos,bo,gd⟩::l) e F L:=
 gQ s λa w h y=>by unfold Oper.wp;rw[uw h z g,Oper.upon_enter];refine(q w y).mono ?_;rintro e' A ⟨i,L',v,o,p,m,x⟩;rw[hp,pA]at o;subst o;exact k i L' v p x _ _ h m
theorem Sb{x:Operand}{i:Int}(f:gd=none)(m:ev e x=some (.iface t (.int .i64 i)))(k:kl n e w0 Q [qR t i] F L):br P n w0 ops Q (⟨dst,.panic x,ty,pos,bo,gd⟩::l) e F L:=
 gQ f λa w h j=>by
  unfold Oper.wp;have g:(execOp a.eval ⟨dst,.panic x,ty,pos,bo,gd⟩).run P w=.halt (.panic (.iface t (.int .i64 i))) w:=by simp[execOp,h.eval m,Instr.panic,goPanic]
  rw[g,Oper.upon_panic];exact k a w h j
def tn(g:FuncId)(cap:List Value):Deferred:={target:=.fn (.func g) cap.toArray,args:=#[]}
theorem br.defer{x:Operand}{g:FuncId}{cap:List Value}{f:Array TypeId}(j:gd=none)(i:dst=none)(p:ev e x=some (.func (.func g) #[] cap.toArray))
 (k:br P ⟨n.n,tn g cap::n.ds⟩ w0 ops Q l e F L):br P n w0 ops Q (⟨dst,.defer ⟨.value x,#[],f⟩,ty,pos,bo,gd⟩::l) e F L:=
 gQ j λa w h o=>by
  subst i;unfold Oper.wp;have m:(execOp a.eval ⟨none,.defer ⟨.value x,#[],f⟩,ty,pos,bo,gd⟩).run P w=.ok (.defer (tn g cap)) w:=by simp[execOp,resolve,h.eval p,tn,Deferred.ofValue]
  rw[m,Oper.upon_defer];exact k _ _ ⟨by simp[Act.put,h.defers],h.size,h.get⟩ o
def Im(P:Program)(g:FuncId)(cap:List Value):Prop:=∀w,CallsD P g cap.toArray .returning w λe a f=>(∃v,e=.returned v)/\a=.returning/\f=w
def Il(P:Program)(w0:World)(g:FuncId)(cap:List Value)(ch:List PanicEntry)(F:bM)(L L':List Item):Prop:=∀w,St w0 F L w->CallsD P g cap.toArray (.panicking ch) w λe a f=>(∃v,e=.returned v)/\settle a=.returning/\St w0 F L' f
theorem O6{g:FuncId}{cap:List Value}{m:Nat}{k:ResultVar}(p:Im P g cap)(hi:∀w,(invoke (.fn (.func g) cap.toArray) #[]).run P w=.ok (.enter g cap.toArray) w)(f:fn.results=#[k])(o:kH P ⟨m,[tn g cap]⟩ w0 e F L k v)(q:dC F0 F)(s:L'.Sublist L)(hp:post F L' v):
 At ⟨m,[tn g cap]⟩ w0 (bodyPostD P fn (nf w0 F0 post)) .ret e F L:=λa w i j=>by
 show Leaves P fn a.tmps _ a.defers .returning w;rw[i.defers];refine leaves_cons (λh=>nomatch h) (hi w) ((p w).mono ?_);rintro y z x ⟨⟨A,rfl⟩,rfl,rfl⟩;have:=o a x i j;exact⟨v,by simp[An,f,this],F,L',v,X,q,j.sublist s,hp⟩
theorem Jl{g:FuncId}{cap:List Value}{m:Nat}{o:ResultVar}{j:List Item}(s:Il P w0 g cap ch F L j)(hi:∀w,(invoke (.fn (.func g) cap.toArray) #[]).run P w=.ok (.enter g cap.toArray) w)(f:fn.results=#[o])(q:kH P ⟨m,[tn g cap]⟩ w0 e F j o v)(x:dC F0 F)(y:L'.Sublist j)(hp:post F L' v):
 kl ⟨m,[tn g cap]⟩ e w0 (bodyPostD P fn (nf w0 F0 post)) ch F L:=λa w k A=>by
 show Leaves P fn a.tmps _ a.defers (.panicking ch) w;rw[k.defers];refine leaves_cons (λh=>nomatch h) (hi w) ((s w A).mono ?_);rintro C B p ⟨⟨D,rfl⟩,z,i⟩;show Leaves P fn a.tmps _ [] (settle B) p;rw[z];have:=q a p k i;exact⟨v,by simp[An,f,this],F,L',v,X,x,i.sublist y,hp⟩
end
section
variable {P:Program}
def iY(P:Program)(d:Nat)(t:TypeId)(α:Type)[an α][DecidableEq α]:Prop:=
 ∀(x y:α)(cs e:List Value)(off:Nat)(w:World),bS cs off (enc x)->bS e off (enc y)->
  ∃a b,(part t cs.toArray off).run P w=.ok a w/\(part t e.toArray off).run P w=.ok b w/\(Op.equalIn d t a b).run P w=.ok (decide (x=y)) w
theorem sd{t:TypeId}{cs:List Value}{off:Nat}{v:Value}{w:World}(a:∀w,(isAgg t).run P w=.ok false w)(h:bS cs off [v]):(part t cs.toArray off).run P w=.ok v w:=by have:=h.at (j:=0) X;simp at this;simp[part,a,this]
theorem wa{t:TypeId}{cs ch:List Value}{off s:Nat}{w:World}(a:∀w,(isAgg t).run P w=.ok true w)(e:∀w,(sizeOf t).run P w=.ok s w)(d:ch.length=s)(h:bS cs off ch):(part t cs.toArray off).run P w=.ok (.agg ch.toArray) w:=by have:=h.extract d;simp[part,a,e];simpa using this
theorem iY.int{d:Nat}{t:TypeId}(a:∀w,(isAgg t).run P w=.ok false w)(e:∀w,(underlying t).run P w=.ok (.int .i64) w):iY P (d+1) t Int:=λx y cs h off w f g=>by refine⟨_,_,sd a f,sd a g,?_⟩;rw[run_equalIn_int w d t .i64 .i64 x y (sB e)];congr 1
theorem iY.u8{d:Nat}{t:TypeId}(a:∀w,(isAgg t).run P w=.ok false w)(e:∀w,(underlying t).run P w=.ok (.int .u8) w):iY P (d+1) t (BitVec 8):=λx y cs h off w f g=>by refine⟨_,_,sd a f,sd a g,?_⟩;rw[run_equalIn_int w d t .u8 .u8 _ _ (sB e)];congr 1;rw[ew];simp[BitVec.toNat_inj,mR]
theorem iY.bool{d:Nat}{t:TypeId}(a:∀w,(isAgg t).run P w=.ok false w)(e:∀w,(underlying t).run P w=.ok .bool w):iY P (d+1) t Bool:=λx y cs h off w f g=>by refine⟨_,_,sd a f,sd a g,?_⟩;rw[run_equalIn_bool w d t x y (sB e)];congr 1
theorem iY.str{d:Nat}{t:TypeId}(a:∀w,(isAgg t).run P w=.ok false w)(e:∀w,(underlying t).run P w=.ok .string w):iY P (d+1) t Y:=λx y cs h off w f g=>by refine⟨_,_,sd a f,sd a g,?_⟩;show(Op.equalIn (d+1) t (.string (Y.b x)) (.string (Y.b y))).run P w=_;rw[run_equalIn_string w d t _ _ (sB e)];congr 1;rw[ew];simp[ByteArray.toList_eq,Y.b]
theorem NL{α:Type}[an α][DecidableEq α]{d el c:Nat}(n:iY P d el α){xs ys:List Value}{l m:List α}{w:World}(o:c=sz α)(p:xs=aa l)(q:ys=aa m)(f:l.length=m.length):
 ∀(k i:Nat),i+k=l.length->(Op.eqItems d el c xs.toArray ys.toArray (List.range' i k)).run P w=.ok (decide (l.drop i=m.drop i)) w
 |0,i,h=>by rw[List.drop_eq_nil_of_le O,List.drop_eq_nil_of_le O];simp[Op.eqItems]
 |k+1,i,h=>by
  subst p q o;have g:i<l.length:=by omega
  have j:i<m.length:=by omega
  obtain⟨a,b,t,x,y⟩:=n l[i] m[i] (aa l) (aa m) (i*sz α) w (by simpa using Bp (k:=0) (gG g) (ms _)) (by simpa using Bp (k:=0) (gG j) (ms _));have s:=NL n (w:=w) X X X f k (i+1) O;have e:decide (l.drop i=m.drop i)=(decide (l[i]=m[i])&&decide (l.drop (i+1)=m.drop (i+1))):=by rw[jg g,jg j,ew];simp only[eW,List.cons.injEq,eu]
  rw[e];simp only[List.range'_succ,Op.eqItems,Sem.run_bind,t,x,y,Result.andThen_ok];cases decide (l[i]=m[i])
  .simp
  .simpa using s
theorem iY.array{α:Type}[an α][DecidableEq α]{d k el s:Nat}{t:TypeId}{e:TypeInfo}(f:∀w,(isAgg t).run P w=.ok true w)(g:∀w,(sizeOf t).run P w=.ok s w)(a:s=k*sz α)(j:∀w,(underlying t).run P w=.ok (.array k el) w)(hi:P.info? el=some e)(i:P.cellsOf el=sz α)
 (h:iY P d el α):iY P (d+1) t (Vector α k):=λx y cs p off w n o=>by
 refine⟨_,_,wa f g ((an.len x).trans a.symm) n,wa f g ((an.len y).trans a.symm) o,?_⟩;rw[run_equalIn_array w d _ _ (sB j) hi];have:=NL h (w:=w) (l:=x.toList) (m:=y.toList) i X X (by simp) k 0 (by simp);rw[List.range_eq_range'];refine this.trans ?_;congr 1;rw[ew];simp[Vector.toList_inj]
theorem iY.Id{α:Type}[an α][DecidableEq α]{d:Nat}{t:TypeId}{s:Nat}(i:∀w,(isAgg t).run P w=.ok true w)(j:∀w,(sizeOf t).run P w=.ok s w)(e:s=sz α)(hd:d=Op.maxDepth)(h:iY P d t α)(x y:α)(w:World):(Op.equal t (.agg (enc x).toArray) (.agg (enc y).toArray)).run P w=.ok (decide (x=y)) w:=by subst hd;obtain⟨a,b,f,g,k⟩:=h x y _ _ 0 w (ms _) (ms _);rw[wa i j ((an.len x).trans e.symm) (ms _)]at f;rw[wa i j ((an.len y).trans e.symm) (ms _)]at g;cases f;cases g;exact k
theorem iY.struct{α:Type}[an α][DecidableEq α]{d s:Nat}{t:TypeId}{f:Array Field}(h:∀w,(isAgg t).run P w=.ok true w)(i:∀w,(sizeOf t).run P w=.ok s w)(e:s=sz α)(j:∀w,(underlying t).run P w=.ok (.struct f) w)(g:P.stoodInHeld t=false)
 (k:∀(x y:α)(w:World),(Op.eqFields d (enc x).toArray (enc y).toArray f.toList).run P w=.ok (decide (x=y)) w):iY P (d+1) t α:=λx y cs n off w l m=>by
 refine⟨_,_,wa h i ((an.len x).trans e.symm) l,wa h i ((an.len y).trans e.symm) m,?_⟩;have a:P.fieldsOf t=f:=by simp[Program.fieldsOf,sB j]
 rw[run_equalIn_struct w d t _ _ (by rw[a];exact sB j) g,a];exact k x y w
theorem FD{g:Type}[an g][DecidableEq g]{d off:Nat}{f:Field}{i:List Field}{x y:List Value}{p q:g}{w:World}{r:Bool}(o:(f.name== "_")=false)(n:iY P d f.type g)(s:f.offset=off)(t:bS x off (enc p))(z:bS y off (enc q))
 (k:(Op.eqFields d x.toArray y.toArray i).run P w=.ok r w):(Op.eqFields d x.toArray y.toArray (f::i)).run P w=.ok (decide (p=q)&&r) w:=by
 subst s;obtain⟨a,b,j,l,m⟩:=n p q x y f.offset w t z;have h:f.name≠ "_":=by simpa using o
 simp only[Op.eqFields,bE h,Sem.run_bind,j,l,m,Result.andThen_ok];by_cases e:p=q
 .simp[e,k]
 .simp[e]
end
end Go.Proofs.YteagbdjohkfneaaGreatDoor
namespace Go.Proofs.YteagbdjohkfneaaGreatDoor
open Go.RowKit Go.ChangeShapes Go.WideShapes Go.ChangeAt an
def Ext(w a:World):Prop:=Below w.heap.size w a
namespace Ext
theorem refl(w:World):Ext w w:=Below.refl _ _
theorem trans{a b c:World}(h:Ext a b)(k:Ext b c):Ext a c:=Below.trans h (Below.mono k h.size)
theorem alloc{a w:World}(h:Ext a w)(o:Obj):Ext a (w.alloc o):=Below.alloc h h.size o
theorem drew{a w:World}(h:Ext a w):Ext a w.drew:=Below.drew h
theorem setCell{a w:World}(h:Ext a w){p:Addr}(hp:a.heap.size<=p.block)(u:Value):Ext a (w.setCell p u):=Below.setCell h hp u
theorem all{w a:World}(h:Ext w a):(∀b o,b<w.heap.size->a.cell? ⟨b,o,none⟩=w.cell? ⟨b,o,none⟩)/\(∀b o,b<w.heap.size->a.frozen? ⟨b,o,none⟩=w.frozen? ⟨b,o,none⟩)/\w.heap.size<=a.heap.size:=
 ⟨λb o d=>Below.cell (p:=⟨b,o,none⟩) h d,λb o d=>Below.frozen (p:=⟨b,o,none⟩) h d,h.size⟩
theorem size{w a:World}(h:Ext w a):w.heap.size<=a.heap.size:=Below.size h
theorem cell{w d:World}(h:Ext w d){p:Addr}{v:Value}(a:w.cell? p=some v):d.cell? p=some v:=(Below.cell h (block_lt_of_cell a)).trans a
end Ext
theorem VX{n:Int}(h:IntKind.i64.has n):-9223372036854775808<=n/\n<=9223372036854775807:=by simpa[IntKind.has,IntKind.min,IntKind.max,IntKind.signed,IntKind.bits]using h
theorem VZ{n:Int}(h:IntKind.u8.has n):0<=n/\n<=255:=by simpa[IntKind.has,IntKind.min,IntKind.max,IntKind.signed,IntKind.bits]using h
theorem VY{n:Int}(h:IntKind.u16.has n):0<=n/\n<=65535:=by simpa[IntKind.has,IntKind.min,IntKind.max,IntKind.signed,IntKind.bits]using h
theorem Fc{P:Program}{w:World}{r:Reach}{b:Nat}{t:TypeId}{k:IntKind}{v:Value}(a:P.underlying t=some (.int k))(h:Cell.okWide P w r b t v):∃n,v=.int k n/\k.has n:=by
 simp only[Cell.okWide,Cell.ok,a]at h;cases v<;>simp at h
 obtain⟨rfl,h⟩:=h;exact⟨_,X,h⟩
theorem TS{P:Program}{w:World}{r:Reach}{b:Nat}{t:TypeId}{v:Value}(a:P.underlying t=some .bool)(h:Cell.okWide P w r b t v):∃x,v=.bool x:=by
 simp only[Cell.okWide,Cell.ok,a]at h;cases v<;>simp at h
 exact⟨_,X⟩
theorem Yl{P:Program}{w:World}{r:Reach}{b:Nat}{t:TypeId}{v:Value}{d:TypeDesc}(m:P.underlying t=some d)(hd:(match d with|.struct _|.array _ _=>true|_=>false)=true)
 {ts:List TypeId} (aP:P.cellTypes P.depth t=some ts) {N:Nat} (k:P.cellsOf t=N) (h:Value.okWide P w r b t v):
 ∃cs,v=.agg cs/\cs.size=N/\∀i u,cs[i]?=some u->∃g,ts[i%ts.length]?=some g/\Cell.okWide P w r b g u:=by
 have j:∃cs,v=.agg cs/\cs.size=P.cellsOf t/\Row.okWide P w r b t cs:=by cases d<;>simp at hd<;>simpa only[Value.okWide,m]using h
 obtain⟨cs,rfl,a,f,e,_,l⟩:=j;obtain rfl:ts=f:=dp (aP.symm.trans e);exact⟨cs,X,a.trans k,l⟩
theorem Ow{H:Type}{enc:TypeId×Value->H}{P:Program}(n:laidOutB P=true){W l:World}(m:Ext W l):∀{ts:List TypeId}{vs:List Value}{e:List (DataW H)}{ps:List MemPlace},
 (∀t∈ts,P.readableRec t=true/\t<P.types.size)->DataW.TrodAll enc P W 0 (λ_=>true) true ts vs e ps->(∀x∈ps,x.block<W.heap.size)->
 DataW.TrodAll enc P l 0 (λb=>decide (b<W.heap.size)) true ts vs e ps
 |[],vs,e,ps,_,h,_=>by obtain⟨rfl,rfl,rfl⟩:=trodAll_nil h;exact trodAll_mk0
 |t::ts,vs,e,ps,i,h,a=>by obtain⟨v,A,d,o,p,q,rfl,rfl,rfl,s,y⟩:=trodAll_cons h;have f:=Below.trod n (i t (by simp)).1 (i t (by simp)).2 s m (λx k=>a x (by simp[k]));have g:=Ow n m (λz j=>i z (by simp[j])) y (λx k=>a x (by simp[k]));exact trodAll_cons_mk f g
theorem Ox{H:Type}{enc:TypeId×Value->H}{P:Program}{W:World}:∀{ts:List TypeId}{vs:List Value}{a:List (DataW H)}{ps:List MemPlace},
 DataW.TrodAll enc P W 0 (λ_=>true) true ts vs a ps->a.length=ts.length
 |[],vs,a,ps,h=>by obtain⟨_,rfl,_⟩:=trodAll_nil h;rfl
 |t::ts,vs,a,ps,h=>by obtain⟨v,g,d,e,i,j,_,rfl,_,_,f⟩:=trodAll_cons h;simp[Ox f]
def ju(P:Program)(w:World)(r:Reach)(b:Nat)(ts:List TypeId)(α:Type)[an α][cJ α]:Prop:=
 ∀cs:List Value,cs.length=ts.length->(∀(i:Nat)(t:TypeId)(v:Value),ts[i]?=some t->cs[i]?=some v->Cell.okWide P w r b t v)->∃x:α,cs=enc x/\cJ.ok x
section
variable {P:Program}{w:World}{r:Reach}{b:Nat}
theorem CU{cs:List Value}(h:cs.length=1):∃v,cs=[v]:=by
 match cs,h with
 |[v],_=>exact⟨v,X⟩
theorem ju.int{t:TypeId}(f:P.underlying t=some (.int .i64)):ju P w r b [t] Int:=λcs d a=>by obtain⟨v,rfl⟩:=CU d;obtain⟨n,rfl,e⟩:=Fc f (a 0 t v X X);exact⟨n,X,VX e⟩
theorem ju.u8{t:TypeId}(f:P.underlying t=some (.int .u8)):ju P w r b [t] (BitVec 8):=λcs d a=>by
 obtain⟨v,rfl⟩:=CU d;obtain⟨n,rfl,e⟩:=Fc f (a 0 t v X X);have:=VZ e;refine⟨BitVec.ofNat 8 n.toNat,?_,cy⟩;show[Value.int .u8 n]=[Value.int .u8 ((BitVec.ofNat 8 n.toNat).toNat:Int)]
 rw[kP,kO O,GS this.1]
theorem ju.u16{t:TypeId}(f:P.underlying t=some (.int .u16)):ju P w r b [t] (BitVec 16):=λcs d a=>by
 obtain⟨v,rfl⟩:=CU d;obtain⟨n,rfl,e⟩:=Fc f (a 0 t v X X);have:=VY e;refine⟨BitVec.ofNat 16 n.toNat,?_,cy⟩;show[Value.int .u16 n]=[Value.int .u16 ((BitVec.ofNat 16 n.toNat).toNat:Int)]
 rw[kP,kO O,GS this.1]
theorem ju.bool{t:TypeId}(e:P.underlying t=some .bool):ju P w r b [t] Bool:=λcs d a=>by obtain⟨v,rfl⟩:=CU d;obtain⟨x,rfl⟩:=TS e (a 0 t v X X);exact⟨x,X,cy⟩
theorem Po{α e:Type}[an α][cJ α][an e][cJ e]{ts us:List TypeId}(g:ju P w r b ts α)(h:ju P w r b us e)(cs:List Value)(j:cs.length=(ts++us).length)
 (f:∀(i:Nat)(t:TypeId)(v:Value),(ts++us)[i]?=some t->cs[i]?=some v->Cell.okWide P w r b t v):∃(x:α)(y:e),cs=enc x++enc y/\cJ.ok x/\cJ.ok y:=by
 rw[cH]at j
 obtain⟨x,k,m⟩:=g (cs.take ts.length) (by simp;omega) λi t v d a=>f i t v (by rw[it (eO.1 d).1];exact d) (by
  rw[tL]at a;split at a
  .exact a
  .cases a)
 obtain⟨y,l,n⟩:=h (cs.drop ts.length) (by simp;omega) λi t v d a=>f (ts.length+i) t v (by rw[lR O,za];exact d) (by rw[tK]at a;exact a);exact⟨x,y,by rw[<-k,<-l,eQ],m,n⟩
instance {α a:Type}[an α][an a]:an (α×a):=⟨λp=>enc p.1++enc p.2,sz α+sz a,λp=>by rw[cH,an.len,an.len],λp=>by rw[jf,an.one,an.one];rfl⟩
instance {α a:Type}[cJ α][cJ a]:cJ (α×a):=⟨λp=>cJ.ok p.1/\cJ.ok p.2⟩
theorem adr{α d:Type}[an α][cJ α][an d][cJ d]{ts us:List TypeId}(e:ju P w r b ts α)(f:ju P w r b us d):ju P w r b (ts++us) (α×d):=λcs i g=>by obtain⟨x,y,h,a,c⟩:=Po e f cs i g;exact⟨(x,y),h,a,c⟩
theorem ju.conv{α a:Type}[an α][cJ α][an a][cJ a]{ts:List TypeId}(f:α->a)(h:ju P w r b ts α)(e:∀x,enc (f x)=enc x)(i:∀x:α,cJ.ok x->cJ.ok (f x)):ju P w r b ts a:=λcs g d=>by obtain⟨x,j,k⟩:=h cs g d;exact⟨f x,by rw[e];exact j,i x k⟩
theorem Io{α:Type}[an α][cJ α]{ts:List TypeId}(h:ju P w r b ts α):∀(k:Nat)(cs:List Value),cs.length=(List.replicate k ts).flatten.length->(∀(i:Nat)(t:TypeId)(v:Value),(List.replicate k ts).flatten[i]?=some t->cs[i]?=some v->Cell.okWide P w r b t v)->
 ∃l:List α,l.length=k/\cs=aa l/\∀x∈l,cJ.ok x
 |0,cs,d,_=>by
  have m:cs=[]:=by simpa using d
  exact⟨[],X,by rw[m];rfl,by simp⟩
 |k+1,cs,d,f=>by
  rw[GL,List.flatten_cons]at d f;rw[cH]at d
  obtain⟨x,n,p⟩:=h (cs.take ts.length) (by simp;omega) λi t v e a=>f i t v (by rw[it (eO.1 e).1];exact e) (by
   rw[tL]at a;split at a
   .exact a
   .cases a)
  obtain⟨l,g,o,q⟩:=Io h k (cs.drop ts.length) (by rw[ig];omega) λi t v e a=>f (ts.length+i) t v (by rw[lR O,za];exact e) (by rw[tK]at a;exact a);refine⟨x::l,by simp[g],by rw[mc,<-n,<-o,eQ],?_⟩;intro z j;rcases fM.1 j with rfl|j
  .exact p
  .exact q z j
theorem ads{α:Type}[an α][cJ α]{ts us:List TypeId}{k:Nat}(h:ju P w r b ts α)(g:us=(List.replicate k ts).flatten):ju P w r b us (Vector α k):=λcs f e=>by
 subst g;obtain⟨l,a,rfl,d⟩:=Io h k cs f e;subst a;refine⟨⟨l.toArray,X⟩,X,λi x j=>d x ?_⟩;have:l[i]?=some x:=by simpa using j
 exact j8 this
theorem ju.agg{α:Type}[an α][cJ α]{t:TypeId}{v:Value}{d:TypeDesc}(o:P.underlying t=some d)(hd:(match d with|.struct _|.array _ _=>true|_=>false)=true){ts:List TypeId}(aP:P.cellTypes P.depth t=some ts)(l:P.cellsOf t=ts.length)
 (k:ju P w r b ts α) (h:Value.okWide P w r b t v):∃x:α,v=.agg (enc x).toArray/\cJ.ok x:=by
 obtain⟨cs,rfl,n,m⟩:=Yl o hd aP l h;obtain⟨x,q,s⟩:=k cs.toList (by simpa using n) λi z g f p=>by
  have e:cs[i]?=some g:=by simpa using p
  obtain⟨y,a,j⟩:=m i g e;have hi:=(eO.1 f).1;rw[kO hi]at a;rw[f]at a;cases a;exact j
 exact⟨x,by rw[<-q],s⟩
def bM.of(W:World):bM:=λb=>W.heap[b]?
theorem St.first(W:World):St W (bM.of W) [] W:=⟨Below.refl _ _,λ_ _ h=>h,λb a=>by simp[gp]at a,λi hi=>by simp at hi,by simp[gp]⟩
theorem Ok.law{P:Program}{W:World}{f:FuncId}{args:List Value}{v:Value}{post:bM->List Item->Value->Prop}(h:Ok P W f args (bM.of W) [] post)(hp:∀F L u,post F L u->u=v):Calls P f args.toArray W λe g=>e=.returned v/\Ext W g:=
 (h W (St.first W)).mono λ_ _⟨d,L',u,i,_,j,a⟩=>⟨by rw[i,hp d L' u a],j.below⟩
end
