/-
  A frame for walks: what a piece of code does, said over all acts and worlds that fit a list of slots and a list of owned blocks.
-/
import Derived.WalkSpells
import Derived.WalkLawsBesides
import Derived.Lib.Hide
import Derived.Deep.Quiet
import Derived.Conc.Own5
import Derived.Conc.EventLaws2
import Derived.StillTail
set_option linter.unusedSimpArgs false
set_option linter.unusedVariables false
namespace Go.Proofs.YtklkkoelldkncaaGreatDoor
open Go.RowKit Go.Conc
abbrev lc:=@Array.ext'
abbrev AX:=@Array.ext_getElem?
abbrev AY:=@Array.mem_append
abbrev sJ:=@List.mem_replicate
abbrev iq:=@List.mem_singleton
abbrev uC:=@List.mem_toArray
abbrev uD:=@List.nil_append
abbrev uE:=@List.nodup_append
abbrev qO:=@List.not_mem_nil
abbrev E0:=@List.pairwise_append
abbrev AZ:=@List.pairwise_cons
abbrev E1:=@List.range_eq_range'
abbrev A0:=@List.range_succ
abbrev pp:=@Array.mem_map
abbrev xr:=@List.replicate_succ
abbrev A1:=@List.set_eq_take_append_cons_drop
abbrev l0:=@List.set_set
abbrev E2:=@List.singleton_append
abbrev cj:=@List.size_toArray
abbrev uF:=@List.take_add_one
abbrev eD:=@List.take_append_drop
abbrev E3:=@List.take_append_of_le_length
abbrev xt:=@List.take_left'
abbrev iI:=@List.take_of_length_le
abbrev my:=@Array.mem_of_getElem?
abbrev qP:=@Nat.add_assoc
abbrev nt:=@Nat.add_comm
abbrev mz:=@Nat.add_mul
abbrev E4:=@Nat.add_sub_cancel_left
abbrev mA:=@Nat.add_zero
abbrev E5:=@Nat.and_one_is_mod
abbrev pq:=@Nat.div_div_eq_div_mul
abbrev pr:=@Nat.eq_zero_or_pos
abbrev pt:=@Nat.le_add_right
abbrev sK:=@Nat.le_of_eq
abbrev A2:=@BitVec.eq_of_getLsbD_eq
abbrev dO:=@Nat.le_refl
abbrev iU:=@Nat.le_trans
abbrev pu:=@Nat.lt_or_ge
abbrev A3:=@Nat.lt_succ_self
abbrev iV:=@Nat.min_eq_left
abbrev sL:=@Nat.mod_eq_of_lt
abbrev uG:=@Nat.mod_lt
abbrev A4:=@Nat.mul_eq_zero
abbrev qQ:=@Nat.mul_le_mul
abbrev oh:=@Nat.mul_le_mul_right
abbrev sM:=@BitVec.eq_of_toNat_eq
abbrev uH:=@Nat.pow_le_pow_right
abbrev uI:=@Nat.pow_succ
abbrev oi:=@Nat.shiftRight_eq_div_pow
abbrev qR:=@Nat.sub_zero
abbrev oj:=@Nat.succ_mul
abbrev cb:=@Nat.zero_add
abbrev jF:=@Nat.zero_le
abbrev sN:=@Option.bind_eq_some_iff
abbrev gK:=@Option.bind_some
abbrev f7:=@Option.getD_some
abbrev xu:=@BitVec.getLsbD_and
abbrev uJ:=@Option.isSome_iff_exists
abbrev pw:=@Option.map_eq_some_iff
abbrev mB:=@Option.map_some
abbrev dF:=@Option.some.inj
abbrev gU:=@Option.some.injEq
abbrev xv:=@Option.toList_some
abbrev f8:=@Prod.ext
abbrev uK:=@Vector.ext
abbrev A5:=@Vector.getElem_ofFn
abbrev A6:=@Vector.toList_setIfInBounds
abbrev E6:=@BitVec.getLsbD_not
abbrev jW:=@beq_iff_eq
abbrev mC:=@beq_self_eq_true
abbrev kC:=@bne_self_eq_false
abbrev lF:=@cond_false
abbrev l6:=@cond_true
abbrev cX:=@decide_eq_false
abbrev px:=@decide_eq_false_iff_not
abbrev dl:=@decide_eq_true
abbrev gL:=@decide_eq_true_eq
abbrev xw:=@decide_false
abbrev A7:=@BitVec.toNat_and
abbrev ol:=@if_false
abbrev ck:=@if_neg
abbrev ce:=@if_pos
abbrev jX:=@if_true
abbrev E7:=@of_decide_eq_false
abbrev om:=@of_decide_eq_true
abbrev qS:=@or_false
abbrev lG:=@BitVec.toNat_ofInt
abbrev uL:=@BitVec.toNat_ofNat
abbrev oo:=@Array.getD_eq_getD_getElem?
abbrev ko:=@BitVec.toNat_udiv
abbrev iJ:=@BitVec.toNat_umod
abbrev oq:=@BitVec.toNat_ushiftRight
abbrev uM:=@Bool.and_eq_false_iff
abbrev eJ:=@Bool.and_eq_true
abbrev A8:=@Bool.and_false
abbrev jG:=@Bool.and_self
abbrev uN:=@Bool.eq_false_iff
abbrev eZ:=@Bool.eq_iff_iff
abbrev sO:=@Bool.false_eq_true
abbrev E8:=@Array.getElem?_append_left
abbrev uO:=@Bool.not_false
abbrev ii:=@Bool.not_true
abbrev py:=@Bool.or_eq_true
abbrev qT:=@Bool.or_self
abbrev l7:=@Bool.true_and
abbrev E9:=@Int.eq_ofNat_of_zero_le
abbrev jY:=@Int.le_refl
abbrev A9:=@Int.natCast_inj
abbrev Ba:=@Int.ofNat_tmod
abbrev jZ:=@Int.toNat_natCast
abbrev xx:=@Array.getElem?_eq_getElem
abbrev Fa:=@Int.toNat_of_nonneg
abbrev jc:=@List.all_append
abbrev ot:=@List.all_cons
abbrev mD:=@List.all_eq_true
abbrev Bb:=@List.any_eq_true
abbrev f9:=@List.append_assoc
abbrev jH:=@List.append_nil
abbrev qU:=@List.cons_append
abbrev nu:=@List.drop_drop
abbrev jd:=@List.drop_eq_getElem_cons
abbrev gV:=@Array.getElem?_eq_some_iff
abbrev Bc:=@List.drop_left'
abbrev kp:=@List.drop_of_length_le
abbrev eT:=@List.drop_zero
abbrev Fc:=@List.eraseIdx_eq_take_drop_succ
abbrev Bd:=@List.eraseIdx_sublist
abbrev sP:=@List.ext_getElem?
abbrev Be:=@List.findIdx?_cons
abbrev Fd:=@List.findIdx?_eq_some_iff_getElem
abbrev ou:=@List.getElem?_append_left
abbrev pz:=@List.getElem?_append_right
abbrev pA:=@Array.getElem?_modify
abbrev sQ:=@List.getElem?_cons_succ
abbrev pB:=@List.getElem?_cons_zero
abbrev qV:=@List.getElem?_drop
abbrev je:=@List.getElem?_eq_getElem
abbrev nv:=@List.getElem?_eq_none
abbrev Bf:=@List.getElem?_eq_none_iff
abbrev ff:=@List.getElem?_eq_some_iff
abbrev kD:=@List.getElem?_map
abbrev kE:=@List.getElem?_of_mem
abbrev jI:=@List.getElem?_set_ne
abbrev pC:=@Array.getElem?_push
abbrev ir:=@List.getElem?_set_self
abbrev Bg:=@List.getElem?_take
abbrev Fe:=@List.getElem?_take_of_lt
abbrev qW:=@List.getElem?_toArray
abbrev qX:=@List.getElem_mem
abbrev cr:=@List.length_append
abbrev bN:=@List.length_cons
abbrev gM:=@List.length_drop
abbrev sR:=@List.length_eq_zero_iff
abbrev kF:=@List.length_map
abbrev Ff:=@Array.getElem?_setIfInBounds
abbrev bV:=@List.length_nil
abbrev ov:=@List.length_replicate
abbrev pD:=@List.length_set
abbrev gn:=@List.length_take
abbrev kG:=@List.map_append
abbrev ow:=@List.map_cons
abbrev ox:=@List.map_set
abbrev e9:=@List.mem_append
abbrev qY:=@List.mem_append_left
abbrev uP:=@List.mem_append_right
abbrev l8:=@Array.getElem?_setIfInBounds_ne
abbrev fB:=@List.mem_cons
abbrev nw:=@List.mem_cons_of_mem
abbrev pE:=@List.mem_flatMap
abbrev mE:=@List.mem_map
abbrev sS:=@List.mem_map_of_mem
abbrev eN:=@List.mem_of_getElem?
abbrev oy:=@List.mem_of_mem_drop
abbrev qZ:=@List.mem_of_mem_take
abbrev kH:=@List.mem_or_eq_of_mem_set
abbrev xy:=@List.mem_range
theorem X{α:Sort _}{a:α}:a=a:=rfl
theorem O{p:Prop}(h:p:=by omega):p:=h
theorem ab{p:Prop}(h:p:=by decide):p:=h
theorem bo:True:=trivial
abbrev pv(b o:Nat):Value:=.pointer (some ⟨b,o,none⟩)
abbrev iv(i:Int):Value:=.int .i64 i
def look:List (Nat×Value)->Nat->Option Value
 |[],_=>none
 |(k,v)::e,t=>bif k==t then some v else look e t
def ev(e:List (Nat×Value)):Operand->Option Value
 |.tmp t=>look e t
 |.const v=>some v
 |.global g=>some (.pointer (some ⟨g,0,none⟩))
 |.func f=>some (.func (.func f) #[] #[])
structure Fm where
 n:Nat
 ds:List Deferred
theorem oC{d:Nat}{n:Fm}(h:Nat.ble (d+1) n.n=true):d<n.n:=Nat.le_of_ble_eq_true h
structure cG(n:Fm)(a:Act)(e:List (Nat×Value)):Prop where
 defers:a.defers=n.ds
 size:a.tmps.size=n.n
 get:∀t v,look e t=some v->a.tmps[t]?=some v
theorem cG.eval{n:Fm}{a:Act}{e:List (Nat×Value)}(h:cG n a e){x:Operand}{v:Value}(d:ev e x=some v):a.eval x=v:=by
 cases x with
 |tmp t=>have:=h.get t v d;simp only[Act.eval,oo,this,f7]
 |const i=>simpa[ev,Act.eval]using d
 |global g=>simpa[ev,Act.eval]using d
 |func f=>simpa[ev,Act.eval]using d
theorem cG.put{n:Fm}{a:Act}{e:List (Nat×Value)}(h:cG n a e){d:Nat}(hd:d<n.n)(v:Value):cG n (a.put (some d) v) ((d,v)::e):=by
 refine⟨h.defers,by simp[Act.put,h.size],λt u f=>?_⟩;simp only[look]at f;by_cases g:d=t
 .subst g;simp only[mC,l6,gU]at f;subst f;simp[Act.put,h.size,hd]
 .have:(d==t)=false:=by simpa using g
  rw[this,lF]at f;simp only[Act.put,Ff,ck g];exact h.get t u f
def sub(e:List (Nat×Value)):List (Nat×Value)->Prop
 |[]=>True
 |(k,v)::r=>look e k=some v/\sub e r
theorem sub.look{e:List (Nat×Value)}:∀{e':List (Nat×Value)},sub e e'->∀t v,look e' t=some v->look e t=some v
 |[],_,t,v,h=>by simp[YtklkkoelldkncaaGreatDoor.look]at h
 |(k,u)::r,⟨d,f⟩,t,v,h=>by
  simp only[YtklkkoelldkncaaGreatDoor.look]at h;by_cases a:k=t
  .subst a;simp only[mC,l6,gU]at h;subst h;exact d
  .have:(k==t)=false:=by simpa using a
   rw[this,lF]at h;exact sub.look f t v h
theorem cG.sub{n:Fm}{a:Act}{e e':List (Nat×Value)}(h:cG n a e)(d:YtklkkoelldkncaaGreatDoor.sub e e'):cG n a e':=
 ⟨h.defers,h.size,λt v f=>h.get t v (d.look t v f)⟩
def evs(e:List (Nat×Value)):List Operand->List Value->Prop
 |[],[]=>True
 |x::xs,v::vs=>ev e x=some v/\evs e xs vs
 |_,_=>False
theorem cG.wP{n:Fm}{a:Act}{e:List (Nat×Value)}(h:cG n a e):∀{xs:List Operand}{vs:List Value},evs e xs vs->xs.map a.eval=vs
 |[],[],_=>rfl
 |x::xs,v::vs,⟨d,f⟩=>by rw[ow,h.eval d,h.wP f]
 |[],_::_,h=>h.elim
 |_::_,[],h=>h.elim
abbrev bk:=Nat->Option Obj
structure Sl where
 a:Option Addr
 len:Nat
 cap:Nat
def Sl.v(s:Sl):Value:=.slice s.a s.len s.cap
def Sl.nil:Sl:=⟨none,0,0⟩
inductive Item where
 |blk (b:Nat) (cs:List Value) (t:TypeId)
 |own (v:Sl) (t:TypeId) (s:Nat) (xs:List Value)
 |gen (fs:List Nat) (p:(Nat->Option Obj)->Prop)
 |obj (b:Nat) (o:Obj)
def gX(a:Nat×Nat)(h:Nat->Option Obj)(v:Sl)(t:TypeId)(s:Nat)(xs:List Value):Prop:=
 xs.length=v.len*s/\v.len<=2^63-1/\((v.len=0/\v.cap=0)\/
  ∃b off pre post,v.a=some ⟨b,off,none⟩/\h b=some (.cells (pre++(xs++post)).toArray t a)/\pre.length=off/\v.len<=v.cap/\v.cap*s<=(xs++post).length)
abbrev gW(h:Nat->Option Obj)(v:Sl)(t:TypeId)(s:Nat)(xs:List Value):Prop:=gX (0,0) h v t s xs
def Item.holds(h:Nat->Option Obj):Item->Prop
 |.blk b cs t=>h b=some (.cells cs.toArray t (0,0))
 |.own v t s xs=>gW h v t s xs
 |.gen a p=>p (λb=>if b∈a then h b else none)
 |.obj b o=>h b=some o
def Sl.bH(v:Sl):List Nat:=(v.a.map (·.block)).toList
def Item.bH:Item->List Nat
 |.blk b _ _=>[b]
 |.own v _ _ _=>v.bH
 |.gen a _=>a
 |.obj b _=>[b]
theorem sV{a:Nat×Nat}{h d:Nat->Option Obj}{v:Sl}{t:TypeId}{s:Nat}{xs:List Value}(l:∀b∈v.bH,d b=h b)(hi:gX a h v t s xs):gX a d v t s xs:=by obtain⟨f,g,i⟩:=hi;refine⟨f,g,i.imp id ?_⟩;rintro⟨b,off,pre,post,e,j,k⟩;exact⟨b,off,pre,post,e,by rw[l b (by simp[Sl.bH,e])];exact j,k⟩
theorem tW{h f:Nat->Option Obj}{i:Item}(a:∀b∈i.bH,f b=h b)(hi:i.holds h):i.holds f:=by
 cases i with
 |blk b cs t=>simpa[Item.holds,a b (by simp[Item.bH])]using hi
 |obj b o=>simpa[Item.holds,a b (by simp[Item.bH])]using hi
 |own v t s xs=>exact sV a hi
 |gen d p=>
  have e:(λb=>if b∈d then f b else none)=λb=>if b∈d then h b else none:=by
   funext b;by_cases m:b∈d
   .simp[m,a b m]
   .simp[m]
  simp only[Item.holds,e];exact hi
def World.hp(w:World):Nat->Option Obj:=λb=>w.heap[b]?
def cu(L:List Item):List Nat:=L.flatMap Item.bH
structure St(w0:World)(F:bk)(L:List Item)(w:World):Prop where
 below:Below 0 w0 w
 gh:∀b o,F b=some o->w.heap[b]?=some o
 apart:∀b∈cu L,w0.heap.size<=b/\b<w.heap.size/\F b=none
 holds:∀i∈L,i.holds (World.hp w)
 nodup:(cu L).Nodup
def cS(F F':bk):Prop:=∀b o,F b=some o->F' b=some o
theorem cS.refl(F:bk):cS F F:=λ_ _ h=>h
theorem fl{F:bk}:cS F F:=λ_ _ h=>h
theorem cS.trans{F a H:bk}(h:cS F a)(k:cS a H):cS F H:=λb o d=>k b o (h b o d)
theorem cS.none{F a:bk}(h:cS F a){b:Nat}(d:a b=none):F b=none:=by
 cases e:F b with
 |none=>rfl
 |some o=>rw[h b o e]at d;cases d
theorem St.weaken{w0:World}{F F':bk}{L:List Item}{w:World}(h:St w0 F' L w)(d:cS F F'):St w0 F L w:=
 ⟨h.below,λb o a=>h.gh b o (d b o a),λb a=>⟨(h.apart b a).1,(h.apart b a).2.1,d.none (h.apart b a).2.2⟩,h.holds,h.nodup⟩
theorem ob(L M:List Item):cu (L++M)=cu L++cu M:=by simp[cu]
theorem eQ(i:Item)(L:List Item):cu (i::L)=i.bH++cu L:=by simp[cu]
theorem fI{i:Item}{L:List Item}{b:Nat}(hi:i∈L)(a:b∈i.bH):b∈cu L:=pE.2 ⟨i,hi,a⟩
theorem D3{L L':List Item}(h:L'.Sublist L):(cu L').Sublist (cu L):=by
 induction h with
 |slnil=>exact List.Sublist.refl _
 |cons a _ d=>rw[eQ];exact d.trans (List.sublist_append_right _ _)
 |cons_cons a _ d=>rw[eQ,eQ];exact List.Sublist.append (List.Sublist.refl _) d
theorem St.sublist{w0:World}{F:bk}{L L':List Item}{w:World}(h:St w0 F L w)(d:L'.Sublist L):St w0 F L' w:=by have a:(cu L').Sublist (cu L):=D3 d;exact⟨h.below,h.gh,λb e=>h.apart b (a.subset e),λi hi=>h.holds i (d.subset hi),h.nodup.sublist a⟩
theorem St.drew{w0:World}{F:bk}{L:List Item}{w:World}(h:St w0 F L w):St w0 F L {w with drawn:=w.drawn+1}:=
 ⟨h.below.trans ⟨rfl,rfl,rfl,dO _,λ_ _=>rfl⟩,h.gh,h.apart,h.holds,h.nodup⟩
theorem St.new{w0:World}{F:bk}{L:List Item}{w:World}(h:St w0 F L w)(o:Obj){i:Item}(l:i.bH=[w.heap.size])(hi:∀g:Nat->Option Obj,g w.heap.size=some o->i.holds g):
 St w0 F (i::L) {w with heap:=w.heap.push o}:=by
 refine⟨h.below.trans ⟨rfl,rfl,rfl,by simp,λk p=>by omega⟩,λb f a=>?_,λb a=>?_,λj d=>?_,?_⟩
 .have:=h.gh b f a;have m:b<w.heap.size:=(gV.1 this).1;show(w.heap.push o)[b]?=some f;rw[pC,ck (by omega)];exact this
 .rw[eQ,l]at a;rcases e9.1 a with a|a
  .simp only[iq]at a;subst a;refine⟨h.below.size,by simp,?_⟩
   cases e:F w.heap.size with
   |none=>rfl
   |some f=>have:=(gV.1 (h.gh _ _ e)).1;omega
  .have:=h.apart b a;exact⟨this.1,by simp;omega,this.2.2⟩
 .rcases fB.1 d with rfl|d
  .exact hi _ (by simp[World.hp])
  .refine tW (λb a=>?_) (h.holds j d);have:=(h.apart b (fI d a)).2.1;simp only[World.hp,pC];rw[ck (by omega)]
 .rw[eQ,l];refine List.nodup_cons.2 ⟨λn=>?_,h.nodup⟩;have:=(h.apart _ n).2.1;omega
theorem St.change{w0:World}{F:bk}{L M:List Item}{w:World}{i j:Item}{b:Nat}(h:St w0 F (L++i::M) w)(hi:b∈i.bH)(A:j.bH=i.bH)(f:Obj->Obj)
 (s:j.holds (World.hp {w with heap:=w.heap.modify b f})):St w0 F (L++j::M) {w with heap:=w.heap.modify b f}:=by
 have n:b∈cu (L++i::M):=by rw[ob,eQ];simp[hi]
 have y:=h.apart b n;have a:∀c,c≠b->(w.heap.modify b f)[c]?=w.heap[c]?:=λc d=>by rw[pA,ck (by omega)]
 have g:cu (L++j::M)=cu (L++i::M):=by rw[ob,ob,eQ,eQ,A]
 refine⟨?_,λc o d=>?_,λc d=>?_,λk m=>?_,by rw[g];exact h.nodup⟩
 .exact h.below.trans ⟨rfl,rfl,rfl,by simp,λk m=>by omega⟩
 .show(w.heap.modify b f)[c]?=some o;rw[a c (λe=>by subst e;rw[y.2.2]at d;cases d)];exact h.gh c o d
 .rw[g]at d;have:=h.apart c d;exact⟨this.1,by simpa using this.2.1,this.2.2⟩
 .have p:=h.nodup;rw[ob,eQ]at p;have t:=uE.1 p;have x:=uE.1 t.2.1;have q:∀k',(k'∈L\/k'∈M)->∀c∈k'.bH,c≠b:=by
   intro k' l c d e;subst e;rcases l with l|l
   .exact t.2.2 c (fI l d) c (qY _ hi) rfl
   .exact x.2.2 c hi c (fI l d) rfl
  rcases e9.1 m with m|m
  .exact tW (λc d=>a c (q k (.inl m) c d)) (h.holds k (by simp[m]))
  .rcases fB.1 m with rfl|m
   .exact s
   .exact tW (λc d=>a c (q k (.inr m) c d)) (h.holds k (by simp[m]))
theorem Ji{L L':List Item}(h:L.Perm L'):(cu L).Perm (cu L'):=by
 induction h with
 |nil=>exact List.Perm.refl _
 |cons a _ f=>rw[eQ,eQ];exact f.append_left _
 |swap a b l=>rw[eQ,eQ,eQ,eQ,<-f9,<-f9];exact List.perm_append_comm.append_right _
 |trans _ _ d e=>exact d.trans e
theorem St.perm{w0:World}{F:bk}{L L':List Item}{w:World}(h:St w0 F L w)(hp:L.Perm L'):St w0 F L' w:=by have a:(cu L).Perm (cu L'):=Ji hp;exact⟨h.below,h.gh,λb d=>h.apart b (a.mem_iff.2 d),λi hi=>h.holds i (hp.mem_iff.2 hi),a.nodup_iff.1 h.nodup⟩
theorem St.freeze{w0:World}{F:bk}{L:List Item}{w:World}{i:Nat}{d:Item}(h:St w0 F L w)(p:L[i]?=some d):∃F',cS F F'/\St w0 F' (L.eraseIdx i) w/\(∀w',St w0 F' [] w'->d.holds (World.hp w'))/\∀b o,F' b=some o->b∈cu L\/(F b).isSome=true:=by
 have s:=h.holds d (eN p);have hi:=(ff.1 p).1;have y:L[i]=d:=(ff.1 p).2;have k:(d::L.eraseIdx i).Perm L:=by
  have e:L=L.take i++d::L.drop (i+1):=by rw[<-y,<-jd hi,eD]
  rw[Fc];exact List.perm_middle.symm.trans (by rw[<-e])
 have l:=h.perm k.symm;have n:=l.nodup;rw[eQ]at n;have f:=uE.1 n;refine⟨λc=>if c∈d.bH then w.heap[c]? else F c,λc o a=>?_,⟨h.below,λc o a=>?_,λc a=>?_,λj x=>l.holds j (nw _ x),f.2.1⟩,λw' t=>?_,λc o a=>?_⟩
 .by_cases e:c∈d.bH
  .have q:=l.apart c (by rw[eQ];exact qY _ e);rw[q.2.2]at a;cases a
  .simp only[ck e];exact a
 .by_cases e:c∈d.bH
  .simpa[e]using a
  .simp only[ck e]at a;exact h.gh c o a
 .have g:=l.apart c (by rw[eQ];exact uP _ a);refine⟨g.1,g.2.1,?_⟩;have e:c ∉ d.bH:=λe=>f.2.2 c e c a rfl;simp only[ck e];exact g.2.2
 .refine tW (λc a=>?_) s;have q:=l.apart c (by rw[eQ];exact qY _ a);have m:=q.2.1;have:=t.gh c w.heap[c] (by simp[a,m]);simp only[World.hp,this];simp[m]
 .by_cases e:c∈d.bH
  .exact .inl (fI (eN p) e)
  .simp only[ck e]at a;exact .inr (by rw[a];rfl)
structure bG where
 o:Nat->Prop
 r:Nat->Prop
def bG.grow(h:bG)(w w':World):bG:={h with o:=λb=>h.o b\/(w.heap.size<=b/\b<w'.heap.size)}
structure eg(h:bG)(w w1:World):Prop where
 tape:w1.tape=w.tape
 os:w1.os=w.os
 output:w1.output=w.output
 size:w.heap.size<=w1.heap.size
 block:∀b,h.o b\/h.r b->w1.heap[b]?=w.heap[b]?
def gH:Loc->Option Nat
 |.cell a=>some a.block
 |.obj r=>some r
 |_=>none
def ja(h:bG)(n:Nat)(e:Event):Prop:=e.loc=.mark .noRoom\/e.sync=false/\∃b,gH e.loc=some b/\(h.o b\/(e.write=false/\h.r b))
structure jm(h:bG)(w w':World)(es:Array Event):Prop where
 tape:w'.tape=w.tape
 os:w'.os=w.os
 output:w'.output=w.output
 size:w.heap.size<=w'.heap.size
 keep:∀b,b<w.heap.size->¬h.o b->w'.heap[b]?=w.heap[b]?
 ev:∀e∈es,ja h w.heap.size e
theorem jm.idle(h:bG)(w:World):jm h w w #[]:=⟨rfl,rfl,rfl,dO _,λ_ _ _=>rfl,λe a=>by simp at a⟩
theorem jm.drew(h:bG)(w:World):jm h w {w with drawn:=w.drawn+1} #[]:=⟨rfl,rfl,rfl,dO _,λ_ _ _=>rfl,λe a=>by simp at a⟩
theorem eg.refl(h:bG)(w:World):eg h w w:=⟨rfl,rfl,rfl,dO _,λ_ _=>rfl⟩
theorem eg.trans{h:bG}{w w1 w2:World}(a:eg h w w1)(b:eg h w1 w2):eg h w w2:=
 ⟨b.tape.trans a.tape,b.os.trans a.os,b.output.trans a.output,iU a.size b.size,λk d=>(b.block k d).trans (a.block k d)⟩
class Co(P:Program)where
 main:Bool
 K:bG->Goroutine->World->Prop
 rely:∀{h:bG}{g:Goroutine}{w w1:World},K h g w->eg h w w1->K h g w1
 step:∀{h:bG}{g:Goroutine}{w:World},g.status=.running->(∀w1,eg h w w1->∃g' w' es,stepG P main g w1=.go g' w' es/\jm h w1 w' es/\K (h.grow w1 w') g' w')->K h g w
structure SH(w0:World)(F:bk)(L:List Item)(h:bG)(w:World):Prop extends St w0 F L w where
 own:∀b∈cu L,h.o b
 rd:∀b o,F b=some o->h.o b\/h.r b
section
variable {P:Program}{w0:World}{F F':bk}{L L':List Item}{h:bG}{w w1 w':World}
theorem SH.rely(a:SH w0 F L h w)(r:eg h w w1):SH w0 F L h w1:=by
 refine⟨⟨a.below.trans ⟨r.os,r.tape,r.output,r.size,λk e=>by omega⟩,λb o d=>?_,λb d=>?_,λi hi=>?_,a.nodup⟩,a.own,a.rd⟩
 .rw[r.block b (a.rd b o d)];exact a.gh b o d
 .have:=a.apart b d;exact⟨this.1,by have:=r.size;omega,this.2.2⟩
 .exact tW (λb d=>r.block b (.inl (a.own b (fI hi d)))) (a.holds i hi)
theorem SH.grow(d:SH w0 F L h w)(w1 w2:World):SH w0 F L (h.grow w1 w2) w:=⟨d.toSt,λb a=>.inl (d.own b a),λb o a=>(d.rd b o a).imp .inl id⟩
theorem SH.weaken(a:SH w0 F' L h w)(d:cS F F'):SH w0 F L h w:=⟨a.toSt.weaken d,a.own,λb o e=>a.rd b o (d b o e)⟩
theorem SH.sublist(a:SH w0 F L h w)(d:L'.Sublist L):SH w0 F L' h w:=⟨a.toSt.sublist d,λb e=>a.own b ((D3 d).subset e),a.rd⟩
theorem SH.perm(a:SH w0 F L h w)(hp:L.Perm L'):SH w0 F L' h w:=⟨a.toSt.perm hp,λb d=>a.own b ((Ji hp).mem_iff.2 d),a.rd⟩
theorem SH.drew(a:SH w0 F L h w):SH w0 F L h {w with drawn:=w.drawn+1}:=⟨a.toSt.drew,a.own,a.rd⟩
theorem SH.to(d:SH w0 F L h w)(i:St w0 F' L' w)(g:∀b∈cu L',b∈cu L)(f:∀b o,F' b=some o->b∈cu L\/(F b).isSome=true):SH w0 F' L' h w:=
 ⟨i,λb a=>d.own b (g b a),λb o a=>(f b o a).elim (λm=>.inl (d.own b m)) λm=>by obtain⟨j,e⟩:=uJ.1 m;exact d.rd b j e⟩
end
theorem SH.freeze{w0:World}{F:bk}{L:List Item}{h:bG}{w:World}{i:Nat}{d:Item}(a:SH w0 F L h w)(k:L[i]?=some d):∃F',cS F F'/\SH w0 F' (L.eraseIdx i) h w/\∀w',St w0 F' [] w'->d.holds (World.hp w'):=by obtain⟨F',e,f,g,j⟩:=a.toSt.freeze k;exact⟨F',e,a.to f (λb l=>(D3 (Bd ..)).subset l) j,g⟩
structure gb(F:bk)(L:List Item)(w:World)(F':bk)(L':List Item)(w':World):Prop where
 tape:w'.tape=w.tape
 os:w'.os=w.os
 output:w'.output=w.output
 size:w.heap.size<=w'.heap.size
 keep:∀b,b<w.heap.size->b ∉ cu L->w'.heap[b]?=w.heap[b]?
 ft:∀b∈cu L',b∈cu L\/(w.heap.size<=b/\b<w'.heap.size)
 gh:∀b o,F' b=some o->b∈cu L\/(F b).isSome=true\/(w.heap.size<=b/\b<w'.heap.size)
def rN(e:Event):Prop:=(∃f,e.loc=.mark (.extern f))\/e.loc=.mark .noRoom
def dE(F:bk)(L:List Item)(n:Nat)(es:Array Event):Prop:=
 ∀e∈es,rN e\/(e.sync=false/\∃b,gH e.loc=some b/\(b∈cu L\/(e.write=false/\(F b).isSome=true)))
def eF(b:Nat)(wr:Bool)(es:Array Event):Prop:=∀e∈es,rN e\/(e.sync=false/\gH e.loc=some b/\(e.write=true->wr=true))
theorem eF.nil{b:Nat}{wr:Bool}:eF b wr #[]:=λe a=>by simp at a
theorem eF.push{b:Nat}{wr:Bool}{es:Array Event}{e:Event}(h:eF b wr es)(k:e.sync=false/\gH e.loc=some b/\(e.write=true->wr=true)):eF b wr (es.push e):=λx a=>by
 rcases Array.mem_push.1 a with a|rfl
 .exact h x a
 .exact .inr k
theorem eF.lists{F:bk}{L:List Item}{n b:Nat}{es:Array Event}(h:eF b true es)(f:b∈cu L):dE F L n es:=λe g=>(h e g).imp id λ⟨a,d,_⟩=>⟨a,b,d,.inl f⟩
theorem eF.reads{F:bk}{L:List Item}{n b:Nat}{es:Array Event}(h:eF b false es)(g:b∈cu L\/(F b).isSome=true):dE F L n es:=λe i=>(h e i).imp id λ⟨a,d,f⟩=>⟨a,b,d,g.imp id λx=>⟨by cases j:e.write with|false=>rfl|true=>exact absurd (f j) (by simp),x⟩⟩
theorem dE.nil{F:bk}{L:List Item}{n:Nat}:dE F L n #[]:=λe a=>by simp at a
theorem PS{F:bk}{L:List Item}{n:Nat}{es:Array Event}(h:es=#[]):dE F L n es:=by subst h;exact dE.nil
theorem dE.app{F:bk}{L:List Item}{n:Nat}{es d:Array Event}(h:dE F L n es)(k:dE F L n d):dE F L n (es++d):=λe a=>by
 rcases AY.1 a with a|a
 .exact h e a
 .exact k e a
theorem dE.push{F:bk}{L:List Item}{n:Nat}{es:Array Event}{e:Event}(h:dE F L n es)(k:dE F L n #[e]):dE F L n (es.push e):=by rw[<-Array.append_singleton];exact h.app k
theorem dE.more{F F':bk}{L L':List Item}{n:Nat}{es:Array Event}(h:dE F L n es)(i:cS F F')(j:∀b∈cu L,b∈cu L'):dE F' L' n es:=λe k=>by
 rcases h e k with h|⟨d,b,f,a⟩
 .exact .inl h
 .refine .inr ⟨d,b,f,?_⟩;rcases a with a|⟨a,g⟩
  .exact .inl (j b a)
  .obtain⟨o,e⟩:=uJ.1 g;exact .inr ⟨a,by rw[i b o e];rfl⟩
theorem ZZ{P:Program}{fn:FuncId}{es:Array Event}{e:Event}(h:e∈seen P fn es):∀f,e.loc≠.mark (.extern f):=by
 rw[seen_def]at h;have j:∀(l:List Event)(q:Bool)(d:Array Event),(∀x∈d,∀f,x.loc≠.mark (.extern f))->∀x∈(l.foldl (seenStep λf=>(P.funcs[f]?).any (·.norace)) (q,d)).2,∀f,x.loc≠.mark (.extern f):=by
  intro l
  induction l with
  |nil=>intro q d h;exact h
  |cons a l o=>
   intro q d h;simp only[List.foldl_cons];refine o (seenStep _ (q,d) a).1 (seenStep _ (q,d) a).2 λx g f=>?_;by_cases i:∃f,a.loc=.mark (.extern f)
   .obtain⟨f',k⟩:=i;simp only[seenStep,k]at g;exact h x g f
   .have e:(seenStep (λf=>(P.funcs[f]?).any (·.norace)) (q,d) a).2=if q&&!a.sync then d else d.push a:=by
     simp only[seenStep]
     cases n:a.loc with
     |mark m=>cases m<;>first|rfl|exact absurd ⟨_,n⟩ i
     |_=>rfl
    rw[e]at g;split at g
    .exact h x g f
    .rcases Array.mem_push.1 g with g|rfl
     .exact h x g f
     .exact λe=>i ⟨f,e⟩
 exact j _ _ _ (by simp) e h
theorem dE.Sk{P:Program}{w0:World}{F:bk}{L:List Item}{h:bG}{w:World}{fn:FuncId}{es:Array Event}(m:dE F L w.heap.size es)(g:SH w0 F L h w):∀e∈seen P fn es,ja h w.heap.size e:=λe d=>by
 rcases m e (mem_seen d)with(⟨f,l⟩|n)|⟨i,b,j,a⟩
 .exact absurd l (ZZ d f)
 .exact .inl n
 .refine .inr ⟨i,b,j,?_⟩;rcases a with a|⟨a,k⟩
  .exact .inl (g.own b a)
  .obtain⟨o,e⟩:=uJ.1 k;exact(g.rd b o e).imp id λx=>⟨a,x⟩
section
variable {P:Program}{w0:World}{F F':bk}{L L':List Item}{h:bG}{w w1 w':World}
theorem gb.wU{fn:FuncId}{es:Array Event}(t:gb F L w F' L' w')(e:dE F L w.heap.size es)(a:SH w0 F L h w):jm h w w' (seen P fn es):=
 ⟨t.tape,t.os,t.output,t.size,λb d f=>t.keep b d λm=>f (a.own b m),e.Sk a⟩
theorem gb.sh(t:gb F L w F' L' w')(d:SH w0 F L h w)(f:St w0 F' L' w'):SH w0 F' L' (h.grow w w') w':=
 ⟨f,λb a=>(t.ft b a).imp (d.own b) id,λb o a=>by
  rcases t.gh b o a with m|m|m
  .exact .inl (.inl (d.own b m))
  .obtain⟨g,e⟩:=uJ.1 m;exact(d.rd b g e).imp .inl id
  .exact .inl (.inr m)⟩
theorem gb.refl(F:bk)(L:List Item)(w:World):gb F L w F L w:=⟨rfl,rfl,rfl,dO _,λ_ _ _=>rfl,λb a=>.inl a,λb o a=>.inr (.inl (by rw[a];rfl))⟩
theorem gb.of(e:w'={w with heap:=w'.heap,drawn:=w'.drawn})(i:w'.heap.size=w.heap.size)(f:∀b,b ∉ cu L->w'.heap[b]?=w.heap[b]?)(d:∀b∈cu L',b∈cu L):gb F L w F L' w':=
 ⟨by rw[e],by rw[e],by rw[e],by omega,λb _ g=>f b g,λb a=>.inl (d b a),λb o a=>.inr (.inl (by rw[a];rfl))⟩
theorem gb.new(o:Obj){i:Item}(d:i.bH=[w.heap.size]):gb F L w F (i::L) {w with heap:=w.heap.push o}:=
 ⟨rfl,rfl,rfl,by simp,λb a _=>by show(w.heap.push o)[b]?=_;rw[pC,ck (by omega)],λb a=>by
  rw[eQ,d]at a;rcases e9.1 a with a|a
  .simp only[iq]at a;subst a;right;simp
  .exact .inl a,λb o a=>.inr (.inl (by rw[a];rfl))⟩
theorem gb.trans{f:bk}{g:List Item}{w2:World}(a:gb F L w F' L' w')(b:gb F' L' w' f g w2):gb F L w f g w2:=by
 have l:=a.size;have n:=b.size;refine⟨b.tape.trans a.tape,b.os.trans a.os,b.output.trans a.output,iU l n,λk d i=>?_,λk d=>?_,λk o d=>?_⟩
 .refine(b.keep k (by omega) λm=>?_).trans (a.keep k d i);rcases a.ft k m with m|m
  .exact i m
  .omega
 .rcases b.ft k d with m|m
  .rcases a.ft k m with m|m
   .exact .inl m
   .exact .inr ⟨m.1,by omega⟩
  .exact .inr ⟨by omega,m.2⟩
 .rcases b.gh k o d with m|m|m
  .rcases a.ft k m with m|m
   .exact .inl m
   .exact .inr (.inr ⟨m.1,by omega⟩)
  .obtain⟨j,e⟩:=uJ.1 m;rcases a.gh k j e with m|m|m
   .exact .inl m
   .exact .inr (.inl m)
   .exact .inr (.inr ⟨m.1,by omega⟩)
  .exact .inr (.inr ⟨by omega,m.2⟩)
end
abbrev ks:=@eF.nil
abbrev lJ:=@dE.nil
abbrev lK:=@PS
abbrev u6:=@gb.new
abbrev mO:=@gb.refl
abbrev Way:=Act->bG->World->Prop
abbrev eC:=Exit->Way
theorem Dc{h:bG}{w w':World}(e:w'.heap.size=w.heap.size):h.grow w w'=h:=by cases h;simp only[bG.grow,bG.mk.injEq,and_true];funext b;refine propext ⟨λx=>x.elim id λx=>by omega,.inl⟩
theorem rT{h:bG}{w:World}:h.grow w w=h:=Dc X
def rL{P:Program}(C:Co P)(b:Frame)(k:List Go.Item)(cs:List Frame):eC
 |.normal,a,h,w=>C.K h (G (b.at a k) cs) w
 |.exit d,a,h,w=>∃k',exitTo d k=some k'/\C.K h (G (b.at a k') cs) w
 |.ret,a,h,w=>∀todo,C.K h (G {b.at a todo with mode:=.returning} cs) w
 |_,_,_,_=>False
def wk(P:Program)[C:Co P](c:Code)(Q:eC)(a:Act)(h:bG)(w:World):Prop:=
 ∀(b:Frame)(k:List Go.Item)(cs:List Frame),b.kind≠.early->(∀x a' d w',Q x a' d w'->rL C b k cs x a' d w')->C.K h (G (b.at a (.code c::k)) cs) w
def j9(K:Way)(Q:eC):eC
 |.normal=>K
 |x=>Q x
def nS(e:Nat)(Q:eC):eC
 |.exit d=>if d=e then Q .normal else Q (.exit d)
 |x=>Q x
def bodyPost(P:Program)(fn:Func)(Post:Value->bG->World->Prop):eC
 |.normal,a,h,w|.ret,a,h,w=>a.defers=[]/\∀w1,eg h w w1->∃v,(results fn a.tmps).run P w1=.ok v w1/\(∀f,jm h w1 w1 (seen P f ((results fn a.tmps).events P w1 #[])))/\Post v h w1
 |_,_,_,_=>False
def qj(P:Program)[C:Co P](f:FuncId)(args:Array Value)(h:bG)(w:World)(Post:Value->bG->World->Prop):Prop:=
 ∃fn c,P.funcs[f]?=some fn/\fn.body=some c/\wk P c (bodyPost P fn Post) {tmps:=args++Array.replicate (fn.ntmps-args.size) undef,defers:=[]} h w
def lI(P:Program)(a:Act)(o:Oper)(w:World):Prop:=(execOp a.eval o).events P w #[]=#[]
def fX(P:Program)[C:Co P](o:Oper)(a:Act)(h:bG)(w:World)(K:Way):Prop:=
 match(execOp a.eval o).run P w with
 |.ok (.value v) w'=>(∀f,jm h w w' (listed P f a o w))/\K (a.put o.dst v) (h.grow w w') w'
 |.ok .skip w'=>(∀f,jm h w w' (listed P f a o w))/\K (a.put o.dst undef) (h.grow w w') w'
 |.ok (.enter f args) w'=>w'=w/\lI P a o w/\qj P f args h w λv d w'=>K (a.put o.dst v) d w'
 |_=>False
def gr(P:Program)[C:Co P](ops:Array Oper)(i:Nat)(K:Way)(a:Act)(h:bG)(w:World):Prop:=
 match ops[i]? with
 |none=>False
 |some o=>∀w1,eg h w w1->if Region.wanted o (yielded ops a.tmps)then fX P o a h w1 K else K (a.put o.dst undef) h w1
def gv(P:Program)[C:Co P](ops:Array Oper)(Q:eC):List Oper->Way
 |[],a,h,w=>Q .normal a h w
 |o::l,a,h,w=>∀w1,eg h w w1->if Region.wanted o (yielded ops a.tmps)then fX P o a h w1 (gv P ops Q l)else gv P ops Q l (a.put o.dst undef) h w1
section
variable {P:Program}{C:Co P}{Q Q':eC}{a:Act}{h:bG}{w:World}{b:Frame}{k:List Go.Item}{cs:List Frame}{ops:Array Oper}
theorem kS{g g':Goroutine}(d:g.status=.running)(e:∀w1,stepG P C.main g w1=.go g' w1 #[])(k:C.K h g' w):C.K h g w:=
 C.step d λw1 r=>⟨g',w1,#[],e w1,jm.idle _ _,by rw[rT];exact C.rely k r⟩
theorem Gv{c:Code}(e:wk P c Q a h w)(g:∀x a h w,Q x a h w->Q' x a h w):wk P c Q' a h w:=λb k cs f i=>e b k cs f λx a' d w' q=>i x a' d w' (g x a' d w' q)
theorem rL.push{x:Exit}{i:Go.Item}(hi:i.plain=true)(f:x≠.normal)(d:rL C b k cs x a h w):rL C b (i::k) cs x a h w:=by
 cases x with
 |normal=>exact absurd X f
 |exit j=>obtain⟨k',g,e⟩:=d;exact⟨k',by cases i<;>simp_all [exitTo,Go.Item.plain],e⟩
 |_=>exact d
theorem abp(d:Q .normal a h w):wk P .skip Q a h w:=λ_ _ _ _ e=>kS X (λ_=>stepG_skip) (e _ _ _ _ d)
theorem abo(d:Q .ret a h w):wk P .ret Q a h w:=λ_ _ _ _ e=>kS X (λ_=>stepG_ret') (e _ _ _ _ d _)
theorem abk{d:Nat}(g:Q (.exit d) a h w):wk P (.exit d) Q a h w:=λb k cs _ i=>by obtain⟨k',f,e⟩:=i _ _ _ _ g;exact kS X (λ_=>stepG_exit f) e
theorem M2{x y:Code}(g:wk P x (j9 (wk P y Q) Q) a h w):wk P (.seq x y) Q a h w:=λb k cs d f=>
 kS X (λ_=>stepG_seq) (g b (.code y::k) cs d λe a' j w' q=>by
  cases e with
  |normal=>exact q b k cs d f
  |_=>exact(f _ _ _ _ q).push (i:=.code y) X (by simp))
theorem M1{c:Operand}{x y:Code}{t:Bool}(d:a.eval c=.bool t)(f:wk P (if t then x else y) Q a h w):wk P (.cond c x y) Q a h w:=λb k cs e g=>kS X (λ_=>stepG_cond d) (f b k cs e g)
theorem abj{g:Nat}{c:Code}(n:wk P c (nS g Q) a h w):wk P (.block g c) Q a h w:=λb k cs m f=>
 kS X (λ_=>stepG_block) (n b (.inBlock g::k) cs m λe a' o w' q=>by
  cases e with
  |normal=>exact kS X (λ_=>stepG_inBlock) (f _ _ _ _ q)
  |exit i=>
   by_cases d:i=g
   .simp only[nS,d,jX]at q;exact⟨k,by simp[exitTo,d],f _ _ _ _ q⟩
   .simp only[nS,d,ol]at q;obtain⟨k',j,l⟩:=f _ _ _ _ q;have:(g==i)=false:=by simp;exact λe=>d e.symm
    exact⟨k',by simp[exitTo,this,j],l⟩
  |ret=>exact f _ _ _ _ q
  |_=>exact f _ _ _ _ q)
theorem abm{c:Code}(J:Nat->Way)(m:Nat)(o:J m a h w)(d:∀m a h w,J m a h w->wk P c (j9 (λa' g w'=>∃f,f<m/\J f a' g w') Q) a h w):wk P (.loop c) Q a h w:=λb k cs s t=>
 kS X (λ_=>stepG_loop) (by
  have n:∀m a h w,J m a h w->C.K h (G (b.at a (.code c::.inLoop c::k)) cs) w:=by
   intro m
   induction m using Nat.strongRecOn with
   |_ m x=>
    intro a h w p;refine d m a h w p b (.inLoop c::k) cs s λe a' g w' q=>?_
    cases e with
    |normal=>obtain⟨f,l,j⟩:=q;exact kS X (λ_=>stepG_inLoop) (x f l a' g w' j)
    |_=>exact(t _ _ _ _ q).push (i:=.inLoop c) X (by simp)
  exact n m a h w o)
theorem qj.mono{f:FuncId}{args:Array Value}{Post d:Value->bG->World->Prop}(m:qj P f args h w Post)(hp:∀v h w,Post v h w->d v h w):qj P f args h w d:=by
 obtain⟨fn,c,n,l,o⟩:=m;refine⟨fn,c,n,l,Gv o λe a h w q=>?_⟩;cases e<;>first|exact⟨q.1,λw1 r=>let⟨v,g,i,j⟩:=q.2 w1 r;⟨v,g,i,hp _ _ _ j⟩⟩|exact q
theorem Gl{fn:Func}{todo:List Go.Item}{c:Frame}{v:Value}{d:Bool}(f:b.kind=.normal)(hd:a.defers=[])(e:P.funcs[b.fn]?=some fn)(g:(results fn a.tmps).run P w=.ok v w):
 stepG P d (G {b.at a todo with mode:=.returning} (c::cs)) w=.go (G (c.finish v) cs) w (seen P b.fn ((results fn a.tmps).events P w #[])):=by
 simp[G,stepG,unwind,doReturn,Frame.at,f,hd,e,g,GStep.after]
theorem qj.run{f:FuncId}{args:Array Value}{Post:Value->bG->World->Prop}{c0:Frame}(o:qj P f args h w Post)(p:∀v g w',Post v g w'->C.K g (G (c0.finish v) cs) w'):
 C.K h (G (Frame.enter P f args .normal) (c0::cs)) w:=by
 obtain⟨fn,c,i,n,t⟩:=o;rw[enter_at args i n];have d:∀(a':Act)(g:bG)(w':World)(todo:List Go.Item),bodyPost P fn Post .ret a' g w'->C.K g (G {(base f).at a' todo with mode:=.returning} (c0::cs)) w':=by rintro a' g w' todo ⟨hd,s⟩;refine C.step X λw1 r=>?_;obtain⟨v,j,l,m⟩:=s w1 r;exact⟨_,w1,_,Gl (b:=base f) X hd i j,l _,by rw[rT];exact p _ _ _ m⟩
 refine t (base f) [] _ (by simp[base]) λe a' g w' q=>?_
 cases e with
 |normal=>exact kS X (λ_=>stepG_end) (d a' g w' [] q)
 |ret=>exact λtodo=>d a' g w' todo q
 |_=>exact q.elim
theorem fX.mono{o:Oper}{K e:Way}(f:∀a h w,K a h w->e a h w)(d:fX P o a h w K):fX P o a h w e:=by
 unfold fX at d ⊢;generalize(execOp a.eval o).run P w=r at d ⊢
 cases r with
 |ok n w'=>cases n<;>first|exact⟨d.1,f _ _ _ d.2⟩|exact⟨d.1,d.2.1,d.2.2.mono λv h w=>f _ _ _⟩|exact d
 |halt x w'=>exact d
theorem listed_none{o:Oper}(d:lI P a o w)(f:FuncId):listed P f a o w=#[]:=by unfold listed;rw[d];exact seen_none P f
theorem fX.go{o:Oper}{K:Way}{i:Nat}{rest:List Nat}(g:ops[i]?=some o)(s:Region.wanted o (yielded ops a.tmps)=true)(l:b.kind≠.early)
 (d:∀w1,eg h w w1->fX P o a h w1 K) (m:∀a' j w',K a' j w'->C.K j (G (b.at a' (.inRegion ops rest::k)) cs) w'):C.K h (G (b.at a (.inRegion ops (i::rest)::k)) cs) w:=by
 refine C.step X λw1 r=>?_;have d:=d w1 r;unfold fX at d;generalize p:(execOp a.eval o).run P w1=res at d
 cases res with
 |ok n w'=>
  cases n
  case value v=>exact⟨_,w',_,stepG_value g s l p,d.1 _,m _ _ _ d.2⟩
  case skip=>exact⟨_,w',_,stepG_none g s l p,d.1 _,m _ _ _ d.2⟩
  case enter f args=>
   obtain⟨rfl,y,t⟩:=d;refine⟨_,w',_,stepG_enter g s l p,by rw[listed_none y];exact jm.idle _ _,?_⟩;rw[rT];exact t.run λv j w' q=>by
    have e:(b.at a (.inRegion ops (i::rest)::k)).finish v=b.at (a.put o.dst v) (.inRegion ops rest::k):=by rw[Frame.finish_at,g];rfl
    rw[e];exact m _ _ _ q
  all_goals exact d.elim
 |halt x w'=>exact d.elim
theorem gr.go{K:Way}{i:Nat}{rest:List Nat}(l:b.kind≠.early)(d:gr P ops i K a h w)(g:∀a' f w',K a' f w'->C.K f (G (b.at a' (.inRegion ops rest::k)) cs) w'):
 C.K h (G (b.at a (.inRegion ops (i::rest)::k)) cs) w:=by
 unfold gr at d;split at d
 .exact d.elim
 .rename_i o j;by_cases e:Region.wanted o (yielded ops a.tmps)=true
  .exact fX.go j e l (λw1 r=>by have:=d w1 r;rwa[ce e]at this) g
  .refine C.step X λw1 r=>⟨_,w1,_,stepG_unwanted j (by simpa using e),jm.idle _ _,?_⟩
   have:=d w1 r;rw[ck e]at this;rw[rT];exact g _ _ _ this
theorem gr.mono{K g:Way}{i:Nat}(j:∀a h w,K a h w->g a h w)(d:gr P ops i K a h w):gr P ops i g a h w:=by
 unfold gr at d ⊢;split
 .rename_i e;simp only[e]at d
 .rename_i o e;simp only[e]at d;intro w1 r;have d:=d w1 r;split
  .rename_i f;rw[ce f]at d;exact d.mono j
  .rename_i f;rw[ck f]at d;exact j _ _ _ d
theorem gr.rely{K:Way}{i:Nat}{w1:World}(d:gr P ops i K a h w)(r:eg h w w1):gr P ops i K a h w1:=by
 unfold gr at d ⊢;split
 .rename_i e;simp only[e]at d
 .rename_i o e;simp only[e]at d;exact λw2 f=>d w2 (r.trans f)
theorem Cw:∀(l:List Oper)(i:Nat){a:Act}{h:bG}{w:World},(∀j,l[j]?=ops[i+j]?)->gv P ops Q l a h w->b.kind≠.early->(∀x a' d w',Q x a' d w'->rL C b k cs x a' d w')->
 C.K h (G (b.at a (.inRegion ops (List.range' i l.length)::k)) cs) w
 |[],i,a,h,w,_,e,_,f=>kS X (λ_=>stepG_region_end) (f _ _ _ _ e)
 |o::l,i,a,h,w,m,e,g,f=>by
  have n:ops[i]?=some o:=by simpa using(m 0).symm
  have p:∀j,l[j]?=ops[i+1+j]?:=λj=>by have:=m (j+1);simpa[qP,nt 1 j]using this
  refine gr.go (rest:=List.range' (i+1) l.length) g (K:=gv P ops Q l) ?_ λa' d w' q=>Cw l (i+1) p q g f;unfold gr;simp only[n];exact e
theorem abn{g:Nat}{l:List Oper}(e:gv P l.toArray Q l a h w):wk P (.region g l.toArray false) Q a h w:=λb k cs d f=>
 kS X (λ_=>stepG_region) (by
  have:=Cw (b:=b) (k:=k) (cs:=cs) l 0 (λj=>by simp) e d f
  simpa[E1]using this)
theorem Gy(e:∀x a h w,Q x a h w->Q' x a h w):∀{l:List Oper}{a:Act}{h:bG}{w:World},gv P ops Q l a h w->gv P ops Q' l a h w
 |[],_,_,_,d=>e _ _ _ _ d
 |o::l,_,_,_,d=>by
  unfold gv at d ⊢;intro w1 r;have d:=d w1 r;split
  .rename_i f;rw[ce f]at d;exact d.mono λa h w q=>Gy e q
  .rename_i f;rw[ck f]at d;exact Gy e d
theorem Gx{g:List Oper}:∀{f:List Oper}{a:Act}{h:bG}{w:World},gv P ops (j9 (gv P ops Q g) Q) f a h w->gv P ops Q (f++g) a h w
 |[],_,_,_,d=>d
 |o::l,_,_,_,d=>by
  simp only[qU];unfold gv at d ⊢;intro w1 r;have d:=d w1 r;split
  .rename_i e;rw[ce e]at d;exact d.mono λa h w q=>Gx q
  .rename_i e;rw[ck e]at d;exact Gx d
def n3(P:Program)[C:Co P](ops:Array Oper)(Q:eC):Nat->Array Bool->Way
 |0,s,a,h,w=>Region.ready .any ops s=[]/\Q .normal a h w
 |f+1,s,a,h,w=>(Region.ready .any ops s=[]->Q .normal a h w)/\∀i∈Region.ready .any ops s,gr P ops i (n3 P ops Q f (s.setIfInBounds i true)) a h w
theorem Ii(l:b.kind≠.early)(j:∀x a' e w',Q x a' e w'->rL C b k cs x a' e w'):∀(f t:Nat)(s:Array Bool)(a:Act)(h:bG)(w:World),n3 P ops Q f s a h w->
 C.K h (G (b.at a (.inRegion ops (Region.linearise.go .any ops f t s [])::k)) cs) w
 |0,t,s,a,h,w,g=>by simp only[Region.linearise.go,List.reverse_nil];exact kS X (λ_=>stepG_region_end) (j _ _ _ _ g.2)
 |f+1,t,s,a,h,w,g=>by
  obtain⟨m,n⟩:=g;simp only[Region.linearise.go]
  change C.K h (G (b.at a (.inRegion ops (match(Region.ready .any ops s)[t%(Region.ready .any ops s).length]? with
   |some i=>Region.linearise.go .any ops f (t/(Region.ready .any ops s).length) (s.setIfInBounds i true) [i]
   |none=>[].reverse)::k)) cs) w
  cases hi:(Region.ready .any ops s)[t%(Region.ready .any ops s).length]? with
  |none=>
   have d:Region.ready .any ops s=[]:=by
    cases p:Region.ready .any ops s with
    |nil=>rfl
    |cons x xs=>rw[p]at hi;have o:t%(x::xs).length<(x::xs).length:=uG _ (by simp);have:=Bf.1 hi;omega
   exact kS X (λ_=>stepG_region_end) (j _ _ _ _ (m d))
  |some i=>simp only[];rw[linearise_go_acc,List.reverse_singleton,E2];exact(n i (eN hi)).go l λa' e w' q=>Ii l j f _ _ a' e w' q
theorem Gu{d:Nat}(i:P.follows .mixedOrders=true)(g:∀w1,eg h w w1->n3 P ops Q ops.size (Array.replicate ops.size false) a h {w1 with drawn:=w1.drawn+1}):wk P (.region d ops true) Q a h w:=λb k cs f j=>
 C.step X λw1 r=>by
  have e:stepG P C.main (G (b.at a (.code (.region d ops true)::k)) cs) w1=.go (G (b.at a (.inRegion ops (Region.schedule (P.follows .mixedOrders) ops (w1.tape w1.drawn (.order b.fn d)))::k)) cs) {w1 with drawn:=w1.drawn+1} #[]:=by simp[G,stepG,stepG.exec,Frame.at,choose,Sem.run,Question.forced,Question.cut]
  refine⟨_,_,_,e,jm.drew _ _,?_⟩;rw[Dc (w:=w1) (w':={w1 with drawn:=w1.drawn+1}) X];simp only[Region.schedule,i,Bool.true_or,jX,Region.linearise];exact Ii f j _ _ _ _ _ _ (g w1 r)
theorem Am:∀(l:List Oper)(k:Nat)(s:Array Bool){a:Act}{h:bG}{w:World},(∀j,l[j]?=ops[k+j]?)->Region.seqB .any ops l.length k s=true->gv P ops Q l a h w->n3 P ops Q l.length s a h w
 |[],_,_,_,_,_,_,f,d=>⟨by simpa[Region.seqB]using f,d⟩
 |o::l,k,s,a,h,w,m,f,d=>by
  have t:ops[k]?=some o:=by simpa using(m 0).symm
  have p:∀j,l[j]?=ops[k+1+j]?:=λj=>by have:=m (j+1);simpa[qP,nt 1 j]using this
  simp only[bN,Region.seqB,eJ]at f;have n:Region.ready .any ops s=[k]:=by simpa using f.1
  refine⟨λe=>(by rw[n]at e;cases e),λi hi=>?_⟩;rw[n]at hi;obtain rfl:i=k:=by simpa using hi
  unfold gr;simp only[t];unfold gv at d;intro w1 r;have d:=d w1 r;split
  .rename_i g;rw[ce g]at d;exact d.mono λa h w q=>Am l (i+1) _ p f.2 q
  .rename_i g;rw[ck g]at d;exact Am l (i+1) _ p f.2 d
end
abbrev kr:=@kS
section
variable (P:Program)(n:Fm)(w0:World)
def a9[C:Co P](ops:Array Oper)(Q:eC)(l:List Oper)(e:List (Nat×Value))(F:bk)(L:List Item):Prop:=
 ∀a hd w,cG n a e->SH w0 F L hd w->gv P ops Q l a hd w
def Cd[C:Co P](Q:eC)(c:Code)(e:List (Nat×Value))(F:bk)(L:List Item):Prop:=
 ∀a hd w,cG n a e->SH w0 F L hd w->wk P c Q a hd w
def At(Q:eC)(x:Exit)(e:List (Nat×Value))(F:bk)(L:List Item):Prop:=
 ∀a hd w,cG n a e->SH w0 F L hd w->Q x a hd w
def Ev(e:List (Nat×Value))(F:bk)(L:List Item)(o:Oper)(v:Value):Prop:=
 ∀a w,cG n a e->St w0 F L w->(execOp a.eval o).run P w=.ok (.value v) w/\dE F L w.heap.size ((execOp a.eval o).events P w #[])
end
theorem St.touch{w0:World}{F:bk}{L:List Item}{w:World}{b:Nat}(g:St w0 F L w)(h:∀w,St w0 F L w->∃cs t m,w.heap[b]?=some (.cells cs t m)):b∈cu L\/(F b).isSome=true:=by
 by_cases p:b∈cu L
 .exact .inl p
 .right
  cases D:F b with
  |some o=>rfl
  |none=>
   exfalso;have x:St w0 F L {w with heap:=w.heap.setIfInBounds b (.deferred none)}:=by
    refine⟨g.below.trans ⟨X,X,X,by simp,λk H=>by omega⟩,λc o f=>?_,λc f=>?_,λi hi=>?_,g.nodup⟩
    .have:b≠c:=λe=>by subst e;rw[D]at f;cases f
     show(w.heap.setIfInBounds b _)[c]?=_;rw[l8 this];exact g.gh c o f
    .have:=g.apart c f;exact⟨this.1,by simpa using this.2.1,this.2.2⟩
    .refine tW (λc f=>?_) (g.holds i hi);have:b≠c:=λe=>by subst e;exact p (fI hi f)
     show(w.heap.setIfInBounds b _)[c]?=w.heap[c]?;rw[l8 this]
   obtain⟨cs,t,m,s⟩:=h w g;obtain⟨cs',t',q,y⟩:=h _ x;have j:=(gV.1 s).1;simp[j]at y
theorem cK{P:Program}{F:bk}{L:List Item}{o:Oper}{v:Value}{a:Act}{w:World}(h:(execOp a.eval o).run P w=.ok (.value v) w)(k:(execOp a.eval o).events P w #[]=#[]):(execOp a.eval o).run P w=.ok (.value v) w/\dE F L w.heap.size ((execOp a.eval o).events P w #[]):=⟨h,lK k⟩
section
variable {P:Program}{C:Co P}{n:Fm}{w0:World}{ops:Array Oper}{Q:eC}{K:Act->Prop}{l:List Oper}{e:List (Nat×Value)}{F:bk}{L:List Item}{o:Oper}{v:Value}{d:Nat}
theorem a9.nil(h:At n w0 Q .normal e F L):a9 P n w0 ops Q [] e F L:=λa hd w f g=>h a hd w f g
theorem fX.val{a:Act}{hd:bG}{w:World}{K:Way}{h:bk}{L':List Item}{w':World}(i:SH w0 F L hd w)(m:(execOp a.eval o).run P w=.ok (.value v) w')(j:dE F L w.heap.size ((execOp a.eval o).events P w #[]))(t:gb F L w h L' w')(p:St w0 h L' w')
 (k:∀g,SH w0 h L' g w'->K (a.put o.dst v) g w'):fX P o a hd w K:=by
 unfold fX;rw[m];exact⟨λf=>t.wU j i,k _ (t.sh i p)⟩
theorem fX.skip{a:Act}{hd:bG}{w:World}{K:Way}{h:bk}{L':List Item}{w':World}(i:SH w0 F L hd w)(m:(execOp a.eval o).run P w=.ok .skip w')(j:dE F L w.heap.size ((execOp a.eval o).events P w #[]))(t:gb F L w h L' w')(p:St w0 h L' w')
 (k:∀g,SH w0 h L' g w'->K (a.put o.dst undef) g w'):fX P o a hd w K:=by
 unfold fX;rw[m];exact⟨λf=>t.wU j i,k _ (t.sh i p)⟩
theorem a9.op(g:o.guard=none)(h:∀a hd w,cG n a e->SH w0 F L hd w->fX P o a hd w (gv P ops Q l)):a9 P n w0 ops Q (o::l) e F L:=by intro a hd w f i;unfold gv;intro w1 r;rw[ce (by simp[Region.wanted,g])];exact h a hd w1 f (i.rely r)
theorem abD{j:Nat}{t:Nat}{b:Bool}{a:Act}(f:cG n a e)(g:(ops[j]?).bind (·.dst)=some t)(h:look e t=some (.bool b)):yielded ops a.tmps j=some b:=by unfold yielded;rw[g,gK,f.get t _ h]
theorem rD{j:Nat}{f:Bool}{t:Nat}{b:Bool}{a:Act}(g:cG n a e)(h:o.guard=some (j,f))(i:(ops[j]?).bind (·.dst)=some t)(k:look e t=some (.bool b)):
 Region.wanted o (yielded ops a.tmps)=(b==f):=by
 unfold Region.wanted;simp only[h];rw[abD g i k];cases b<;>cases f<;>rfl
theorem Dl{j:Nat}{f:Bool}{t:Nat}{b:Bool}(k:o.guard=some (j,f))(m:(ops[j]?).bind (·.dst)=some t)(p:look e t=some (.bool b))(i:b=f)(h:∀a hd w,cG n a e->SH w0 F L hd w->fX P o a hd w (gv P ops Q l)):a9 P n w0 ops Q (o::l) e F L:=by intro a hd w g q;unfold gv;intro w1 r;rw[ce (by rw[rD g k m p,i];simp)];exact h a hd w1 g (q.rely r)
theorem Ev.op(hd:o.dst=some d)(q:d<n.n)(h:Ev P n w0 e F L o v)(k:a9 P n w0 ops Q l ((d,v)::e) F L):∀a hd w,cG n a e->SH w0 F L hd w->fX P o a hd w (gv P ops Q l):=λa s w i f=>by have⟨j,m⟩:=h a w i f.toSt;exact fX.val f j m (mO _ _ _) f.toSt λp g=>by rw[hd];exact k _ _ w (i.put q v) g
theorem a9.val(x:o.guard=none)(hd:o.dst=some d)(y:d<n.n)(h:∀a w,cG n a e->St w0 F L w->∃v w' f L',(execOp a.eval o).run P w=.ok (.value v) w'/\dE F L w.heap.size ((execOp a.eval o).events P w #[])/\gb F L w f L' w'/\St w0 f L' w'/\
 a9 P n w0 ops Q l ((d,v)::e) f L'):a9 P n w0 ops Q (o::l) e F L:=a9.op x λa D w i j=>by
 obtain⟨v,w',f,L',m,p,q,s,k⟩:=h a w i j.toSt;exact fX.val j m p q s λt g=>by rw[hd];exact k _ _ _ (i.put y v) g
theorem Qd(x:o.guard=none)(hd:o.dst=none)(h:∀a w,cG n a e->St w0 F L w->∃v w' f L',(execOp a.eval o).run P w=.ok (.value v) w'/\dE F L w.heap.size ((execOp a.eval o).events P w #[])/\gb F L w f L' w'/\St w0 f L' w'/\
 a9 P n w0 ops Q l e f L'):a9 P n w0 ops Q (o::l) e F L:=a9.op x λa y w i j=>by
 obtain⟨v,w',f,L',m,p,q,s,k⟩:=h a w i j.toSt;exact fX.val j m p q s λt g=>by rw[hd];exact k _ _ _ i g
theorem a9.unit(x:o.guard=none)(hd:o.dst=none)(h:∀a w,cG n a e->St w0 F L w->∃w' f L',(execOp a.eval o).run P w=.ok .skip w'/\dE F L w.heap.size ((execOp a.eval o).events P w #[])/\gb F L w f L' w'/\St w0 f L' w'/\
 a9 P n w0 ops Q l e f L'):a9 P n w0 ops Q (o::l) e F L:=a9.op x λa y w i j=>by
 obtain⟨w',f,L',m,p,q,s,k⟩:=h a w i j.toSt;exact fX.skip j m p q s λt g=>by rw[hd];exact k _ _ _ i g
theorem a9.run(f:o.guard=none)(hd:o.dst=some d)(g:d<n.n)(h:Ev P n w0 e F L o v)(k:a9 P n w0 ops Q l ((d,v)::e) F L):a9 P n w0 ops Q (o::l) e F L:=a9.op f (h.op hd g k)
theorem Qa{j:Nat}{f:Bool}{t:Nat}{b:Bool}(i:o.guard=some (j,f))(m:(ops[j]?).bind (·.dst)=some t)(q:look e t=some (.bool b))(g:b=f)
 (hd:o.dst=some d) (p:d<n.n) (h:Ev P n w0 e F L o v) (k:a9 P n w0 ops Q l ((d,v)::e) F L):a9 P n w0 ops Q (o::l) e F L:=Dl i m q g (h.op hd p k)
theorem a9.skip{j:Nat}{f:Bool}{t:Nat}{b:Bool}(m:o.guard=some (j,f))(p:(ops[j]?).bind (·.dst)=some t)(s:look e t=some (.bool b))(i:b=!f)
 (hd:o.dst=some d) (q:d<n.n) (k:a9 P n w0 ops Q l ((d,undef)::e) F L):a9 P n w0 ops Q (o::l) e F L:=by
 intro a h w g x;unfold gv;intro w1 r;rw[ck (by rw[rD g m p s,i];cases f<;>simp),hd];exact k _ h w1 (g.put q undef) (x.rely r)
theorem MU{j:Nat}{f:Bool}{t:Nat}{a:Act}(g:cG n a e)(h:o.guard=some (j,f))(i:(ops[j]?).bind (·.dst)=some t)(k:look e t=some undef):Region.wanted o (yielded ops a.tmps)=false:=by unfold Region.wanted;simp only[h];unfold yielded;rw[i,gK,g.get t _ k];rfl
theorem Qb{j:Nat}{f:Bool}{t:Nat}(i:o.guard=some (j,f))(m:(ops[j]?).bind (·.dst)=some t)(q:look e t=some undef)
 (hd:o.dst=some d) (p:d<n.n) (k:a9 P n w0 ops Q l ((d,undef)::e) F L):a9 P n w0 ops Q (o::l) e F L:=by
 intro a h w g s;unfold gv;intro w1 r;rw[ck (by rw[MU g i m q];simp),hd];exact k _ h w1 (g.put p undef) (s.rely r)
def quietAt(P:Program)[C:Co P](o:Oper)(a:Act)(S:bG->World->Prop)(h:bG)(w:World)(v:Value):Prop:=
 match(execOp a.eval o).run P w with
 |.ok (.value u) w'=>w'=w/\u=v/\∀f,jm h w w (listed P f a o w)
 |.ok (.enter f args) w'=>w'=w/\lI P a o w/\qj P f args h w λu g w'=>u=v/\S g w'
 |_=>False
def quiet(P:Program)[C:Co P](o:Oper)(a:Act)(S:bG->World->Prop)(next:Act->Prop):Prop:=∃v,(∀h w,S h w->quietAt P o a S h w v)/\next (a.put o.dst v)
def il(P:Program)[C:Co P](ops:Array Oper)(S:bG->World->Prop)(K:Act->Prop):List Oper->Act->Prop
 |[],a=>K a
 |o::l,a=>if Region.wanted o (yielded ops a.tmps)then quiet P o a S (il P ops S K l)else il P ops S K l (a.put o.dst undef)
def Qt(P:Program)[C:Co P](n:Fm)(w0:World)(ops:Array Oper)(K:Act->Prop)(l:List Oper)(e:List (Nat×Value))(F:bk)(L:List Item):Prop:=
 ∀a,cG n a e->il P ops (SH w0 F L) K l a
theorem quiet.mono{a:Act}{S:bG->World->Prop}{K f:Act->Prop}(h:∀a,K a->f a)(q:quiet P o a S K):quiet P o a S f:=let⟨v,g,i⟩:=q;⟨v,g,h _ i⟩
theorem acv{j:Nat}{f:Bool}{t:Nat}(h:o.guard=some (j,f))(i:(ops[j]?).bind (·.dst)=some t)(p:look e t=some undef)
 (hd:o.dst=some d) (m:d<n.n) (k:Qt P n w0 ops K l ((d,undef)::e) F L):Qt P n w0 ops K (o::l) e F L:=by
 intro a g;unfold il;rw[ck (by rw[MU g h i p];simp),hd];exact k _ (g.put m undef)
theorem Qt.nil(h:∀a,cG n a e->K a):Qt P n w0 ops K [] e F L:=λa f=>h a f
theorem Ev.quiet(hd:o.dst=some d)(p:d<n.n)(h:Ev P n w0 e F L o v)(k:Qt P n w0 ops K l ((d,v)::e) F L){a:Act}(g:cG n a e):YtklkkoelldkncaaGreatDoor.quiet P o a (SH w0 F L) (il P ops (SH w0 F L) K l):=by refine⟨v,λhd w i=>?_,by rw[hd];exact k _ (g.put p v)⟩;have⟨j,m⟩:=h a w g i.toSt;unfold quietAt;rw[j];exact⟨X,X,λf=>(mO F L w).wU m i⟩
theorem Qt.run(g:o.guard=none)(hd:o.dst=some d)(i:d<n.n)(h:Ev P n w0 e F L o v)(k:Qt P n w0 ops K l ((d,v)::e) F L):Qt P n w0 ops K (o::l) e F L:=by intro a f;unfold il;rw[ce (by simp[Region.wanted,g])];exact h.quiet hd i k f
theorem QC{j:Nat}{f:Bool}{t:Nat}{b:Bool}(m:o.guard=some (j,f))(p:(ops[j]?).bind (·.dst)=some t)(s:look e t=some (.bool b))(i:b=f)
 (hd:o.dst=some d) (q:d<n.n) (h:Ev P n w0 e F L o v) (k:Qt P n w0 ops K l ((d,v)::e) F L):Qt P n w0 ops K (o::l) e F L:=by
 intro a g;unfold il;rw[ce (by rw[rD g m p s,i];simp)];exact h.quiet hd q k g
theorem a9.r(h:Ev P n w0 e F L o v)(k:a9 P n w0 ops Q l ((d,v)::e) F L)(f:o.guard=none:=by exact X)(hd:o.dst=some d:=by exact X)(g:d<n.n:=by exact oC X):a9 P n w0 ops Q (o::l) e F L:=a9.run f hd g h k
theorem Qt.r(h:Ev P n w0 e F L o v)(k:Qt P n w0 ops K l ((d,v)::e) F L)(f:o.guard=none:=by exact X)(hd:o.dst=some d:=by exact X)(g:d<n.n:=by exact oC X):Qt P n w0 ops K (o::l) e F L:=Qt.run f hd g h k
theorem lr{i:Op}{ty:TypeId}{pos:String}{aX:Array Edge}(h:Ev P n w0 e F L ⟨some d,i,ty,pos,aX,none⟩ v)(k:a9 P n w0 ops Q l ((d,v)::e) F L)(f:d<n.n:=by exact oC X):a9 P n w0 ops Q (⟨some d,i,ty,pos,aX,none⟩::l) e F L:=a9.run X X f h k
theorem qr{i:Op}{ty:TypeId}{pos:String}{aX:Array Edge}(h:Ev P n w0 e F L ⟨some d,i,ty,pos,aX,none⟩ v)(k:Qt P n w0 ops K l ((d,v)::e) F L)(f:d<n.n:=by exact oC X):Qt P n w0 ops K (⟨some d,i,ty,pos,aX,none⟩::l) e F L:=Qt.run X X f h k
theorem lg{i:Op}{ty:TypeId}{pos:String}{aX:Array Edge}{j:Nat}{f:Bool}{t:Nat}{b:Bool}(g:b=f)(h:Ev P n w0 e F L ⟨some d,i,ty,pos,aX,some (j,f)⟩ v)(k:a9 P n w0 ops Q l ((d,v)::e) F L)(m:(ops[j]?).bind (·.dst)=some t:=by exact X)(q:look e t=some (.bool b):=by exact X)(p:d<n.n:=by exact oC X):a9 P n w0 ops Q (⟨some d,i,ty,pos,aX,some (j,f)⟩::l) e F L:=Qa X m q g X p h k
theorem qg{i:Op}{ty:TypeId}{pos:String}{aX:Array Edge}{j:Nat}{f:Bool}{t:Nat}{b:Bool}(g:b=f)(h:Ev P n w0 e F L ⟨some d,i,ty,pos,aX,some (j,f)⟩ v)(k:Qt P n w0 ops K l ((d,v)::e) F L)(m:(ops[j]?).bind (·.dst)=some t:=by exact X)(q:look e t=some (.bool b):=by exact X)(p:d<n.n:=by exact oC X):Qt P n w0 ops K (⟨some d,i,ty,pos,aX,some (j,f)⟩::l) e F L:=QC X m q g X p h k
section
variable {A B:List Item}{a a2 a3 a4 a5 a6 a7 a8:Item}
theorem ca(h:A.Sublist B):(a::A).Sublist (a::B):=List.Sublist.cons_cons _ h
theorem dc(h:A.Sublist B):(a::a2::A).Sublist (a::a2::B):=ca (ca h)
theorem cE(h:A.Sublist B):(a::a2::a3::a4::A).Sublist (a::a2::a3::a4::B):=dc (dc h)
theorem ai(h:A.Sublist B):A.Sublist (a::B):=List.Sublist.cons _ h
theorem aZ(h:A.Sublist B):A.Sublist (a::a2::B):=ai (ai h)
theorem cg(h:A.Sublist B):A.Sublist (a::a2::a3::a4::B):=aZ (aZ h)
theorem gE(h:A.Sublist B):A.Sublist (a::a2::a3::a4::a5::a6::a7::a8::B):=cg (cg h)
end
theorem Qt.skip{j:Nat}{f:Bool}{t:Nat}{b:Bool}(i:o.guard=some (j,f))(m:(ops[j]?).bind (·.dst)=some t)(q:look e t=some (.bool b))(h:b=!f)
 (hd:o.dst=some d) (p:d<n.n) (k:Qt P n w0 ops K l ((d,undef)::e) F L):Qt P n w0 ops K (o::l) e F L:=by
 intro a g;unfold il;rw[ck (by rw[rD g i m q,h];cases f<;>simp),hd];exact k _ (g.put p undef)
theorem Cd.region{i:Nat}{l:List Oper}(h:a9 P n w0 l.toArray Q l e F L):Cd P n w0 Q (.region i l.toArray false) e F L:=
 λa hd w f g=>abn (h a hd w f g)
theorem Cd.seq{x y:Code}(h:Cd P n w0 (j9 (wk P y Q) Q) x e F L):Cd P n w0 Q (.seq x y) e F L:=λa hd w f g=>M2 (h a hd w f g)
theorem Cd.skip(h:At n w0 Q .normal e F L):Cd P n w0 Q .skip e F L:=λa hd w f g=>abp (h a hd w f g)
theorem Cd.exit{f:Nat}(h:At n w0 Q (.exit f) e F L):Cd P n w0 Q (.exit f) e F L:=λa hd w g i=>abk (h a hd w g i)
theorem Cd.ret(h:At n w0 Q .ret e F L):Cd P n w0 Q .ret e F L:=λa hd w f g=>abo (h a hd w f g)
theorem Cd.block{f:Nat}{c:Code}(h:Cd P n w0 (nS f Q) c e F L):Cd P n w0 Q (.block f c) e F L:=λa hd w g i=>abj (h a hd w g i)
theorem Cd.jp{c:Operand}{x y:Code}{b:Bool}(i:ev e c=some (.bool b))(g:b=true)(h:Cd P n w0 Q x e F L):Cd P n w0 Q (.cond c x y) e F L:=
 λa hd w f j=>M1 (t:=true) (by rw[f.eval i,g]) (h a hd w f j)
theorem Cd.gz{c:Operand}{x y:Code}{b:Bool}(i:ev e c=some (.bool b))(g:b=false)(h:Cd P n w0 Q y e F L):Cd P n w0 Q (.cond c x y) e F L:=
 λa hd w f j=>M1 (t:=false) (by rw[f.eval i,g]) (h a hd w f j)
theorem At.then{y:Code}(h:Cd P n w0 Q y e F L):At n w0 (j9 (wk P y Q) Q) .normal e F L:=h
theorem No{k:Way}{f:Nat}(h:At n w0 Q (.exit f) e F L):At n w0 (j9 k Q) (.exit f) e F L:=h
theorem Np{k:Way}(h:At n w0 Q .ret e F L):At n w0 (j9 k Q) .ret e F L:=h
theorem Ng{f:Nat}(h:At n w0 Q .normal e F L):At n w0 (nS f Q) .normal e F L:=h
theorem Nh{f:Nat}(h:At n w0 Q .ret e F L):At n w0 (nS f Q) .ret e F L:=h
theorem Nf{f:Nat}(h:At n w0 Q .normal e F L):At n w0 (nS f Q) (.exit f) e F L:=λa hd w g i=>by simp only[nS,jX];exact h a hd w g i
theorem zJ{i f:Nat}(g:(f==i)=false)(h:At n w0 Q (.exit f) e F L):At n w0 (nS i Q) (.exit f) e F L:=λa hd w j k=>by simp only[nS];rw[ck (by simpa using g)];exact h a hd w j k
theorem CA{c:Code}{e':List (Nat×Value)}{L':List Item}(i:sub e e')(f:L=L')(h:Cd P n w0 Q c e' F L'):Cd P n w0 Q c e F L:=by subst f;exact λa hd w g j=>h a hd w (g.sub i) j
theorem Cd.env{c:Code}{e':List (Nat×Value)}(f:e=e')(h:Cd P n w0 Q c e' F L):Cd P n w0 Q c e F L:=by subst f;exact h
theorem abI{x:Exit}{e':List (Nat×Value)}{L':List Item}(i:sub e e')(f:L=L')(h:At n w0 Q x e' F L'):At n w0 Q x e F L:=by subst f;exact λa hd w g j=>h a hd w (g.sub i) j
theorem At.less{x:Exit}{L':List Item}(g:L'.Sublist L)(h:At n w0 Q x e F L'):At n w0 Q x e F L:=λa hd w f i=>h a hd w f (i.sublist g)
theorem acg{e':List (Nat×Value)}{L':List Item}(i:sub e e')(f:L=L')(h:a9 P n w0 ops Q l e' F L'):a9 P n w0 ops Q l e F L:=by subst f;exact λa hd w g j=>h a hd w (g.sub i) j
theorem a9.gC{L':List Item}(f:L=L')(h:a9 P n w0 ops Q l e F L'):a9 P n w0 ops Q l e F L:=by subst f;exact h
theorem Cd.bound{α:Prop}{c:Code}(i:∀w,St w0 F L w->α)(h:α->Cd P n w0 Q c e F L):Cd P n w0 Q c e F L:=λa hd w g f=>h (i w f.toSt) a hd w g f
def rW{σ:Type}(n:Fm)(w0:World)(F:bk)(env:σ->List (Nat×Value))(gC:σ->List Item)(f:bk->σ->Prop):Way:=λa hd w=>∃g s,cS F g/\cG n a (env s)/\SH w0 g (gC s) hd w/\f g s
theorem Nv{σ:Type}{x y:Code}(env:σ->List (Nat×Value))(gC:σ->List Item)(f:bk->σ->Prop)
 (h:Cd P n w0 (j9 (rW n w0 F env gC f) Q) x e F L) (k:∀g s,cS F g->f g s->Cd P n w0 Q y (env s) g (gC s)):Cd P n w0 Q (.seq x y) e F L:=
 λa hd w D H=>M2 (Gv (h a hd w D H) λx a' i w' q=>by
  cases x<;>first|exact q|(obtain⟨g,s,j,m,p,t⟩:=q;exact k g s j t a' i w' m p))
theorem Ni{σ:Type}{F0:bk}{env:σ->List (Nat×Value)}{gC:σ->List Item}{f:bk->σ->Prop}(s:σ)(g:cS F0 F)(k:sub e (env s))(i:L=gC s)(h:f F s):
 At n w0 (j9 (rW n w0 F0 env gC f) Q) .normal e F L:=by
 subst i;exact λa hd w j m=>⟨F,s,g,j.sub k,m,h⟩
theorem P6{σ:Type}(m:Nat)(env:σ->List (Nat×Value))(gC:σ->List Item)(f:bk->σ->Prop)
 (h:a9 P n w0 ops (j9 (rW n w0 F env gC f) Q) (l.take m) e F L) (k:∀g s,cS F g->f g s->a9 P n w0 ops Q (l.drop m) (env s) g (gC s)):a9 P n w0 ops Q l e F L:=by
 intro a hd w D H;rw[<-eD m l];refine Gx (Gy ?_ (h a hd w D H));intro x a' i w' q;cases x<;>first|exact q|(obtain⟨g,s,j,p,t,y⟩:=q;exact k g s j y a' i w' p t)
theorem Gz{S:bG->World->Prop}{i:List Oper}:∀{g:List Oper}{a:Act},il P ops S (λa=>il P ops S K i a) g a->il P ops S K (g++i) a
 |[],_,h=>h
 |o::l,_,h=>by
  simp only[qU];unfold il at h ⊢;split
  .rename_i f;rw[ce f]at h;exact h.mono λ_ h=>Gz h
  .rename_i f;rw[ck f]at h;exact Gz h
theorem GC{S:bG->World->Prop}{K i:Act->Prop}(f:∀a,K a->i a):∀{l:List Oper}{a:Act},il P ops S K l a->il P ops S i l a
 |[],_,h=>f _ h
 |o::l,_,h=>by
  unfold il at h ⊢;split
  .rename_i g;rw[ce g]at h;exact h.mono λ_ h=>GC f h
  .rename_i g;rw[ck g]at h;exact GC f h
def HM{σ:Type}(n:Fm)(env:σ->List (Nat×Value))(f:σ->Prop)(a:Act):Prop:=∃s,cG n a (env s)/\f s
theorem QA{σ:Type}(m:Nat)(env:σ->List (Nat×Value))(f:σ->Prop)
 (h:Qt P n w0 ops (HM n env f) (l.take m) e F L) (k:∀s,f s->Qt P n w0 ops K (l.drop m) (env s) F L):Qt P n w0 ops K l e F L:=by
 intro a j;rw[<-eD m l];refine Gz (GC ?_ (h a j));rintro a' ⟨s,g,i⟩;exact k s i a' g
theorem QB{σ:Type}{env:σ->List (Nat×Value)}{f:σ->Prop}(s:σ)(i:sub e (env s))(g:f s):Qt P n w0 ops (HM n env f) [] e F L:=λ_ h=>⟨s,h.sub i,g⟩
theorem a9.perm{L':List Item}(hp:L.Perm L')(h:a9 P n w0 ops Q l e F L'):a9 P n w0 ops Q l e F L:=λa hd w f g=>h a hd w f (g.perm hp)
theorem At.perm{x:Exit}{L':List Item}(hp:L.Perm L')(h:At n w0 Q x e F L'):At n w0 Q x e F L:=λa hd w f g=>h a hd w f (g.perm hp)
theorem a9.freeze{i:Nat}{g:Item}(p:L[i]?=some g)(h:∀f,cS F f->(∀w,St w0 f [] w->g.holds (World.hp w))->a9 P n w0 ops Q l e f (L.eraseIdx i)):a9 P n w0 ops Q l e F L:=λa hd w q s=>by obtain⟨f,j,k,m⟩:=s.freeze p;exact h f j m a hd w q k
theorem Cd.freeze{c:Code}{i:Nat}{g:Item}(p:L[i]?=some g)(h:∀f,cS F f->(∀w,St w0 f [] w->g.holds (World.hp w))->Cd P n w0 Q c e f (L.eraseIdx i)):Cd P n w0 Q c e F L:=λa hd w q s=>by obtain⟨f,j,k,m⟩:=s.freeze p;exact h f j m a hd w q k
theorem At.freeze{x:Exit}{i:Nat}{g:Item}(p:L[i]?=some g)(h:∀f,cS F f->(∀w,St w0 f [] w->g.holds (World.hp w))->At n w0 Q x e f (L.eraseIdx i)):At n w0 Q x e F L:=λa hd w q s=>by obtain⟨f,j,k,m⟩:=s.freeze p;exact h f j m a hd w q k
theorem Cd.loop{σ:Type}{c:Code}(env:σ->List (Nat×Value))(gC:σ->List Item)(f:bk->σ->Prop)(p:σ->Nat)(k:σ)(he:sub e (env k))(hL:L=gC k)(S:f F k)
 (i:∀g s,cS F g->f g s->Cd P n w0 (j9 (rW n w0 F env gC λh j=>f h j/\p j<p s) Q) c (env s) g (gC s)):Cd P n w0 Q (.loop c) e F L:=by
 subst hL;intro a hd w ha hw;refine abm (λm a hd w=>∃g s,cS F g/\cG n a (env s)/\SH w0 g (gC s) hd w/\f g s/\p s=m) _ ⟨F,k,cS.refl F,ha.sub he,hw,S,X⟩ ?_;rintro m a hd w ⟨g,s,T,V,W,h4,rfl⟩;refine Gv (i g s T h4 a hd w V W) λx a' hd' w' q=>?_;cases x<;>first|exact q|(obtain⟨h,j,t,y,D,H,M⟩:=q;exact⟨_,M,h,j,t,y,D,H,X⟩)
end
section
variable {P:Program}{C:Co P}{n:Fm}{w0:World}{ops:Array Oper}{Q:eC}{e:List (Nat×Value)}{F:bk}{L:List Item}
theorem aa{y:Code}(h:Cd P n w0 Q y e F L):a9 P n w0 ops (j9 (wk P y Q) Q) [] e F L:=a9.nil (At.then h)
theorem ae{y:Code}{f:Nat}{l:List Oper}(h:a9 P n w0 l.toArray (j9 (wk P y Q) Q) l e F L):Cd P n w0 Q (.seq (.region f l.toArray false) y) e F L:=Cd.seq (Cd.region h)
theorem bq{y:Code}{f:Nat}{l:List Oper}(h:a9 P n w0 l.toArray (j9 (wk P y Q) Q) l e F L):a9 P n w0 ops (j9 (wk P (Code.seq (.region f l.toArray false) y) Q) Q) [] e F L:=aa (ae h)
end
abbrev dt:=@Nf
abbrev bY:=@Ng
abbrev dm:=@Nh
abbrev dW:=@At.less
abbrev aT:=@Ni
abbrev aF:=@At.then
abbrev bQ:=@No
abbrev bt:=@Np
abbrev bI:=@Cd.block
abbrev fC:=@Cd.bound
abbrev aS:=@Cd.gz
abbrev aU:=@Cd.jp
abbrev dr:=@Cd.exit
abbrev j5:=@Nv
abbrev dH:=@Cd.loop
abbrev bB:=@Cd.region
abbrev aV:=@Cd.ret
abbrev ap:=@Cd.seq
abbrev bc:=@Cd.skip
abbrev pH:=@a9.freeze
abbrev jK:=@a9.gC
abbrev dh:=@P6
abbrev aC:=@a9.nil
abbrev mb:=@Qb
abbrev lh:=@a9.val
abbrev mL:=@QA
abbrev is:=@QB
end Go.Proofs.YtklkkoelldkncaaGreatDoor
namespace Go.Proofs.YtklkkoelldkncaaGreatDoor
open Go.RowKit
def pS:Value->Bool:=Value.oneCell'
class an(α:Type)where
 enc:α->List Value
 sz:Nat
 len:∀x,(enc x).length=sz
 one:∀x,(enc x).all pS=true
open an (enc sz)
abbrev Y:=List UInt8
def Y.b(s:Y):ByteArray:=⟨s.toArray⟩
def Y.v(s:Y):Value:=.string (Y.b s)
instance :an Int:=⟨λx=>[.int .i64 x],1,λ_=>rfl,λ_=>rfl⟩
instance :an (BitVec 8):=⟨λx=>[.int .u8 (x.toNat:Int)],1,λ_=>rfl,λ_=>rfl⟩
instance :an (BitVec 16):=⟨λx=>[.int .u16 (x.toNat:Int)],1,λ_=>rfl,λ_=>rfl⟩
instance :an (BitVec 32):=⟨λx=>[.int .u32 (x.toNat:Int)],1,λ_=>rfl,λ_=>rfl⟩
instance :an (BitVec 64):=⟨λx=>[.int .u64 (x.toNat:Int)],1,λ_=>rfl,λ_=>rfl⟩
instance :an Bool:=⟨λx=>[.bool x],1,λ_=>rfl,λ_=>rfl⟩
instance :an Y:=⟨λx=>[Y.v x],1,λ_=>rfl,λ_=>rfl⟩
instance :an Sl:=⟨λx=>[x.v],1,λ_=>rfl,λ_=>rfl⟩
def I{α:Type}[an α](l:List α):List Value:=l.flatMap enc
section
variable {α:Type}[an α]
theorem sf:I ([]:List α)=[]:=X
theorem kY(x:α)(l:List α):I (x::l)=enc x++I l:=X
theorem iG(l m:List α):I (l++m)=I l++I m:=by simp[I]
theorem d7:∀l:List α,(I l).length=l.length*sz α
 |[]=>by simp[I]
 |x::l=>by rw[kY,cr,an.len,d7 l,bN,oj];omega
theorem qy:∀l:List α,(I l).all pS=true
 |[]=>rfl
 |x::l=>by rw[kY,jc,an.one,qy l];rfl
theorem wM:∀(l:List α)(k:Nat),I (l.drop k)=(I l).drop (k*sz α)
 |l,0=>by simp
 |[],k+1=>by simp[I]
 |x::l,k+1=>by have d:=an.len x;have a:(k+1)*sz α=k*sz α+sz α:=oj _ _;rw[List.drop_succ_cons,wM l k,kY,List.drop_append,d,a,kp (l:=enc x) O];simp
theorem uc:∀(l:List α)(k:Nat),I (l.take k)=(I l).take (k*sz α)
 |l,0=>by simp[I]
 |[],k+1=>by simp[I]
 |x::l,k+1=>by have d:=an.len x;have a:(k+1)*sz α=k*sz α+sz α:=oj _ _;rw[List.take_succ_cons,kY,uc l k,kY,List.take_append,d,a,iI (l:=enc x) O];simp
instance {k:Nat}:an (Vector α k):=⟨λv=>I v.toList,k*sz α,λv=>by rw[d7];simp,λv=>qy _⟩
end
class cq(α:Type)where
 ok:α->Prop
instance :cq Int:=⟨λn=>-9223372036854775808<=n/\n<=9223372036854775807⟩
instance :cq Bool:=⟨λ_=>True⟩
instance (k:Nat):cq (BitVec k):=⟨λ_=>True⟩
instance :cq Y:=⟨λs=>s.length<=2^63-1⟩
instance {α:Type}[cq α]:cq (List α):=⟨λl=>l.length<=2^63-1/\∀x∈l,cq.ok x⟩
instance {α:Type}[cq α]{k:Nat}:cq (Vector α k):=⟨λv=>∀(i:Nat)(x:α),v[i]?=some x->cq.ok x⟩
class cR(α:Type)where
 ok:Nat->α->Prop
instance :cR Int:=⟨λ_ n=>cq.ok n⟩
instance :cR Bool:=⟨λ_ _=>True⟩
instance (k:Nat):cR (BitVec k):=⟨λ_ _=>True⟩
instance :cR Y:=⟨λB s=>s.length<=B⟩
instance {α:Type}[cR α]:cR (List α):=⟨λB l=>l.length<=B/\∀x∈l,cR.ok B x⟩
instance {α:Type}[cR α]{k:Nat}:cR (Vector α k):=⟨λB v=>∀(i:Nat)(x:α),v[i]?=some x->cR.ok B x⟩
def bu(cs:List Value)(off:Nat)(ch:List Value):Prop:=∃A B,cs=A++(ch++B)/\A.length=off
def bA(cs:List Value)(off:Nat)(vs cs':List Value):Prop:=∃A old B,cs=A++(old++B)/\A.length=off/\old.length=vs.length/\cs'=A++(vs++B)
theorem Hs(cs:List Value):bu cs 0 cs:=⟨[],[],by simp,X⟩
theorem ak{cs:List Value}:bu cs 0 cs:=Hs cs
theorem bu.left{A B ch:List Value}{k:Nat}:bu A k ch->bu (A++B) k ch:=λ⟨a,d,h,e⟩=>⟨a,d++B,by simp[h],e⟩
theorem bu.right{A B ch:List Value}{k m:Nat}(f:A.length=m):bu B k ch->bu (A++B) (m+k) ch:=λ⟨a,d,h,e⟩=>⟨A++a,d,by simp[h],by simp[e,f]⟩
theorem bu.off{cs ch:List Value}{k m:Nat}(h:bu cs k ch)(e:m=k):bu cs m ch:=e▸h
theorem Qw{cs vs:List Value}(h:cs.length=vs.length):bA cs 0 vs vs:=⟨[],cs,[],by simp,X,h,by simp⟩
theorem bA.left{A e B vs:List Value}{k:Nat}:bA A k vs e->bA (A++B) k vs (e++B):=λ⟨a,o,d,h,g,i,f⟩=>⟨a,o,d++B,by simp[h],g,i,by simp[f]⟩
theorem bA.right{A B e vs:List Value}{k m:Nat}(i:A.length=m):bA B k vs e->bA (A++B) (m+k) vs (A++e):=λ⟨a,o,d,h,g,j,f⟩=>⟨A++a,o,d,by simp[h],by simp[g,i],j,by simp[f]⟩
theorem bA.off{cs vs cs':List Value}{k m:Nat}(h:bA cs k vs cs')(e:m=k):bA cs m vs cs':=e▸h
section
variable {α:Type}[an α]
theorem I1{l:List α}{i:Nat}{x:α}(h:l[i]?=some x):I l=I (l.take i)++(enc x++I (l.drop (i+1)))/\(I (l.take i)).length=i*sz α:=by have hi:i<l.length:=(ff.1 h).1;have a:l[i]=x:=(ff.1 h).2;refine⟨?_,by rw[d7,gn,iV O]⟩;rw[<-kY,<-iG];congr 1;rw[<-a,<-jd hi,eD]
theorem bu.elem{l:List α}{i k:Nat}{x:α}{ch:List Value}(h:l[i]?=some x)(g:bu (enc x) k ch):bu (I l) (i*sz α+k) ch:=by obtain⟨a,d⟩:=I1 h;rw[a];exact bu.right d (bu.left g)
theorem Z8{l:List α}{i:Nat}{x y:α}(h:l[i]?=some x):I (l.set i y)=I (l.take i)++(enc y++I (l.drop (i+1))):=by have hi:i<l.length:=(ff.1 h).1;rw[<-kY,<-iG,A1,ce hi]
theorem bA.elem{l:List α}{i k:Nat}{x y:α}{vs:List Value}(h:l[i]?=some x)(g:bA (enc x) k vs (enc y)):bA (I l) (i*sz α+k) vs (I (l.set i y)):=by obtain⟨a,d⟩:=I1 h;rw[a,Z8 h];exact bA.right d (bA.left g)
theorem OT{l:List α}{i k s:Nat}{x:α}{ch:List Value}(a:sz α=s)(h:l[i]?=some x)(g:bu (enc x) k ch):bu (I l) (i*s+k) ch:=a▸bu.elem h g
theorem Qv{l:List α}{i k s:Nat}{x y:α}{vs:List Value}(a:sz α=s)(h:l[i]?=some x)(g:bA (enc x) k vs (enc y)):bA (I l) (i*s+k) vs (I (l.set i y)):=a▸bA.elem h g
theorem OU{m:Nat}{l:Vector α m}{i k:Nat}{x:α}{ch:List Value}(h:l[i]?=some x)(g:bu (enc x) k ch):bu (enc l) (i*sz α+k) ch:=
 bu.elem (l:=l.toList) (by simpa using h) g
theorem Qx{m:Nat}{l:Vector α m}{i k:Nat}{x y:α}{vs:List Value}(h:l[i]?=some x)(g:bA (enc x) k vs (enc y)):bA (enc l) (i*sz α+k) vs (enc (l.setIfInBounds i y)):=by
 have:=bA.elem (l:=l.toList) (i:=i) (by simpa using h) g;show bA (I l.toList) _ _ (I (l.setIfInBounds i y).toList);have e:(l.setIfInBounds i y).toList=l.toList.set i y:=by rw[A6]
 rw[e];exact this
end
section
variable {α:Type}[an α]
theorem OV{m:Nat}{l:Vector α m}{i k s:Nat}{x:α}{ch:List Value}(a:sz α=s)(h:l[i]?=some x)(g:bu (enc x) k ch):bu (enc l) (i*s+k) ch:=a▸OU h g
theorem Qy{m:Nat}{l:Vector α m}{i k s:Nat}{x y:α}{vs:List Value}(a:sz α=s)(h:l[i]?=some x)(g:bA (enc x) k vs (enc y)):bA (enc l) (i*s+k) vs (enc (l.setIfInBounds i y)):=a▸Qx h g
end
def dI{α:Type}{m:Nat}(v:Vector α m)(i:Int):Option α:=if 0<=i then v[i.toNat]? else none
def bf{α:Type}(l:List α)(i:Int):Option α:=if 0<=i then l[i.toNat]? else none
theorem fL{α:Type}{m:Nat}{v:Vector α m}{i:Int}{x:α}(h:dI v i=some x):0<=i/\i<m/\v[i.toNat]?=some x:=by
 unfold dI at h;split at h
 .have:=(Vector.getElem?_eq_some_iff.1 h).1;exact⟨by assumption,by omega,h⟩
 .cases h
theorem cd{α:Type}{l:List α}{i:Int}{x:α}(h:bf l i=some x):0<=i/\i<l.length/\l[i.toNat]?=some x:=by
 unfold bf at h;split at h
 .have:=(ff.1 h).1;exact⟨by assumption,by omega,h⟩
 .cases h
theorem bind_some{α a:Type}{o:Option α}{f:α->Option a}{r:a}(h:o.bind f=some r):∃x,o=some x/\f x=some r:=sN.1 h
def Let{α a:Type}(x:α)(f:α->a):a:=f x
theorem fb{α a:Type}(x:α)(f:α->a):Let x f=f x:=X
theorem ic{α:Type}{b:Bool}{x y:Option α}{r:α}(h:(bif b then x else y)=some r):(b=true/\x=some r)\/(b=false/\y=some r):=by cases b with|true=>exact .inl ⟨X,h⟩|false=>exact .inr ⟨X,h⟩
theorem Vb{α:Type}{b:Bool}{x y:Option α}{r:α}(h:(bif b then x else y)=some r):(b=false/\y=some r)\/(b=true/\x=some r):=(ic h).symm
theorem aj{α a:Type}(x:α)(f:α->Option a):(some x).bind f=f x:=X
theorem bM{α:Type}(a b:α):cond true a b=a:=X
theorem aW{α:Type}(a b:α):cond false a b=b:=X
theorem dj{α:Type}{l:List α}{i:Nat}{a:α}(h:l[i]?=some a):a∈l:=eN h
theorem ed{α:Type}{l:List α}{i:Nat}{a:α}(h:l[i]?=some a):∃d:i<l.length,l[i]=a:=ff.1 h
theorem de(n:Nat):((n:Int)).toNat=n:=jZ n
theorem cJ{p:Prop}[Decidable p](h:¬p):decide p=false:=cX h
theorem dA{p:Prop}[Decidable p](h:p):decide p=true:=dl h
def andThen{σ a:Type}(x:Option (σ ⊕ a))(f:σ->Option a):Option a:=x.bind (Sum.elim f some)
def alt{α a:Type}(x:Option α)(f:α->Option a)(b:Option a):Option a:=match x with|some y=>f y|none=>b
theorem Rc{α a:Type}{x:Option α}{f:α->Option a}{b:Option a}{r:a}(h:alt x f b=some r):(∃y,x=some y/\f y=some r)\/(x=none/\b=some r):=by
 cases x with
 |none=>exact .inr ⟨X,h⟩
 |some y=>exact .inl ⟨y,X,h⟩
theorem gR{σ a:Type}{x:Option (σ ⊕ a)}{f:σ->Option a}{r:a}(h:andThen x f=some r):∃o,x=some o/\Sum.elim f some o=some r:=bind_some h
def lj(n:Int):Option Nat:=if n<=2^63-1 then some n.toNat else none
theorem tH{n:Int}{k:Nat}(h:lj n=some k):k=n.toNat/\n<=2^63-1:=by
 unfold lj at h;split at h
 .exact⟨(dF h).symm,by assumption⟩
 .cases h
def room{α:Type}(l m:List α):Option Unit:=if l.length+m.length<=2^40 then some ()else none
theorem d9{α:Type}{l m:List α}{u:Unit}(h:room l m=some u):l.length+m.length<=2^40:=by
 unfold room at h;split at h
 .assumption
 .cases h
def lH(i:Int):Option Nat:=if 0<=i/\i<=2^40 then some i.toNat else none
theorem Bu{i:Int}{k:Nat}(h:lH i=some k):i=(k:Int)/\k<=2^40:=by
 unfold lH at h;split at h
 .cases h;omega
 .cases h
def co{α:Type}(l:List α)(i j:Int):Option (List α):=if 0<=i/\i<=j/\j<=l.length then some ((l.drop i.toNat).take (j.toNat-i.toNat))else none
theorem ky{α:Type}{l m:List α}{i j:Int}(h:co l i j=some m):(0<=i/\i<=j/\j<=l.length)/\(l.drop i.toNat).take (j.toNat-i.toNat)=m:=by
 unfold co at h;split at h
 .exact⟨by assumption,dF h⟩
 .cases h
def iP{α:Type}(xs:List α)(lo hi:Nat)(ys:List α):List α:=xs.take lo++(ys.take (hi-lo)++xs.drop (lo+min (hi-lo) ys.length))
inductive d6(σ τ:Type)where
 |go (s:σ)
 |fZ (s:σ)
 |ret (t:τ)
def dT{σ d:Type}(body:Nat->σ->Option (d6 σ d)):Nat->Nat->σ->Option (σ ⊕ d)
 |0,_,s=>some (.inl s)
 |k+1,i,s=>(body i s).bind λ
  |.go a=>dT body k (i+1) a
  |.fZ a=>some (.inl a)
  |.ret t=>some (.inr t)
def bE{σ:Type}(body:Nat->σ->Option σ):Nat->Nat->σ->Option σ
 |0,_,s=>some s
 |k+1,i,s=>(body i s).bind λa=>bE body k (i+1) a
theorem fV{σ:Type}{body:Nat->σ->Option σ}{k i:Nat}{s:σ}{x:σ}(h:bE body (k+1) i s=some x):∃c,body i s=some c/\∀a,c=a->bE body k (i+1) a=some x:=by obtain⟨c,d,f⟩:=bind_some h;exact⟨c,d,λ_ e=>e▸f⟩
theorem fU{σ:Type}{body:Nat->σ->Option σ}{i:Nat}{s:σ}{x:σ}(h:bE body 0 i s=some x):s=x:=dF h
def df{σ d:Type}(body:σ->Option (d6 σ d)):Nat->σ->Option (σ ⊕ d)
 |0,_=>none
 |k+1,s=>(body s).bind λ
  |.go a=>df body k a
  |.fZ a=>some (.inl a)
  |.ret t=>some (.inr t)
theorem oL{σ e:Type}{body:Nat->σ->Option (d6 σ e)}{k i:Nat}{s:σ}{x:σ ⊕ e}(h:dT body (k+1) i s=some x):
 ∃c,body i s=some c/\(∀a,c=.go a->dT body k (i+1) a=some x)/\(∀a,c=.fZ a->.inl a=x)/\(∀t,c=.ret t->.inr t=x):=by
 obtain⟨c,f,d⟩:=bind_some h;refine⟨c,f,?_,?_,?_⟩<;>rintro _ rfl
 .exact d
 .exact dF d
 .exact dF d
theorem oK{σ a:Type}{body:Nat->σ->Option (d6 σ a)}{i:Nat}{s:σ}{x:σ ⊕ a}(h:dT body 0 i s=some x):.inl s=x:=dF h
theorem lk{σ e:Type}{body:σ->Option (d6 σ e)}{k:Nat}{s:σ}{x:σ ⊕ e}(h:df body (k+1) s=some x):
 ∃c,body s=some c/\(∀a,c=.go a->df body k a=some x)/\(∀a,c=.fZ a->.inl a=x)/\(∀t,c=.ret t->.inr t=x):=by
 obtain⟨c,f,d⟩:=bind_some h;refine⟨c,f,?_,?_,?_⟩<;>rintro _ rfl
 .exact d
 .exact dF d
 .exact dF d
def aq(x:Int):Int:=IntKind.i64.wrap x
theorem bO{x:Int}(a:-9223372036854775808<=x)(d:x<=9223372036854775807):aq x=x:=by simp only[aq,IntKind.wrap,IntKind.bits,IntKind.signed,l7];split<;>(rename_i h;simp at h;omega)
abbrev tf:=@bu.elem
abbrev bK:=@OT
abbrev iM:=@Hs
abbrev eW:=@bu.left
abbrev dS:=@bu.off
abbrev bX:=@bu.right
abbrev gq:=@OV
abbrev d5:=@Qv
abbrev cm:=@Qw
abbrev eE:=@bA.left
abbrev dP:=@bA.off
abbrev bU:=@bA.right
abbrev kK:=@Qy
end Go.Proofs.YtklkkoelldkncaaGreatDoor
namespace Go.Proofs.YtklkkoelldkncaaGreatDoor
open Go.RowKit an
section
variable {P:Program}{C:Co P}{n:Fm}{w0:World}{e:List (Nat×Value)}{F:bk}{L:List Item}{v:Value}{dst:Option Nat}{ty:TypeId}{pos:String}{aX:Array Edge}{gd:Option (Nat×Bool)}
theorem Ev.move{x:Operand}(f:ev e x=some v):Ev P n w0 e F L ⟨dst,.move x,ty,pos,aX,gd⟩ v:=λa w d _=>cK (by simp[execOp,d.eval f]) (by simp[execOp,d.eval f])
theorem Ev.assign{x:Operand}(f:ev e x=some v):Ev P n w0 e F L ⟨dst,.assign x,ty,pos,aX,gd⟩ v:=λa w d _=>cK (by simp[execOp,d.eval f]) (by simp[execOp,d.eval f])
theorem Z{Q:eC}{ops:Array Oper}{l:List Oper}{d:Nat}{x:Operand}(f:ev e x=some v)(k:a9 P n w0 ops Q l ((d,v)::e) F L)(a:d<n.n:=by exact oC X):a9 P n w0 ops Q (⟨some d,.move x,ty,pos,aX,none⟩::l) e F L:=a9.run X X a (Ev.move f) k
theorem ag{Q:eC}{ops:Array Oper}{l:List Oper}{d:Nat}{x:Operand}(f:ev e x=some v)(k:a9 P n w0 ops Q l ((d,v)::e) F L)(a:d<n.n:=by exact oC X):a9 P n w0 ops Q (⟨some d,.assign x,ty,pos,aX,none⟩::l) e F L:=a9.run X X a (Ev.assign f) k
theorem N9{c x y:Operand}{b:Bool}(g:ev e c=some (.bool b))(f:b=true)(h:ev e x=some v):Ev P n w0 e F L ⟨dst,.pick c x y,ty,pos,aX,gd⟩ v:=λa w d _=>cK (by simp[execOp,d.eval g,d.eval h,f,asBool]) (by simp[execOp,d.eval g,d.eval h,f,asBool])
theorem N8{c x y:Operand}{b:Bool}(g:ev e c=some (.bool b))(f:b=false)(h:ev e y=some v):Ev P n w0 e F L ⟨dst,.pick c x y,ty,pos,aX,gd⟩ v:=λa w d _=>cK (by simp[execOp,d.eval g,d.eval h,f,asBool]) (by simp[execOp,d.eval g,d.eval h,f,asBool])
theorem Ev.not{x:Operand}{b:Bool}{t:TypeId}(f:ev e x=some (.bool b)):Ev P n w0 e F L ⟨dst,.unOp .not t x,ty,pos,aX,gd⟩ (.bool (!b)):=λa w d _=>cK (by simp[execOp,d.eval f,Op.unary]) (by simp[execOp,d.eval f,Op.unary])
theorem Ev.neg{x:Operand}{i:Int}{t:TypeId}(f:ev e x=some (.int .i64 i)):Ev P n w0 e F L ⟨dst,.unOp .neg t x,ty,pos,aX,gd⟩ (.int .i64 (aq (0-i))):=λa w d _=>cK (by simp[execOp,d.eval f,Op.unary,Op.intArith,aq]) (by simp[execOp,d.eval f,Op.unary,Op.intArith])
section
variable {x y:Operand}{t t2:TypeId}{k:IntKind}{i j:Int}
theorem CB(f:ev e x=some (.int k i))(g:ev e y=some (.int k j)):Ev P n w0 e F L ⟨dst,.binOp .add t x y t2,ty,pos,aX,gd⟩ (.int k (k.wrap (i+j))):=λa w d _=>cK (by simp[execOp,d.eval f,d.eval g,eqGuard,binOp,Op.intArith]) (by simp[execOp,d.eval f,d.eval g,eqGuard,binOp,Op.intArith])
theorem G9(f:ev e x=some (.int k i))(g:ev e y=some (.int k j)):Ev P n w0 e F L ⟨dst,.binOp .sub t x y t2,ty,pos,aX,gd⟩ (.int k (k.wrap (i-j))):=λa w d _=>cK (by simp[execOp,d.eval f,d.eval g,eqGuard,binOp,Op.intArith]) (by simp[execOp,d.eval f,d.eval g,eqGuard,binOp,Op.intArith])
theorem G0(f:ev e x=some (.int k i))(g:ev e y=some (.int k j)):Ev P n w0 e F L ⟨dst,.binOp .mul t x y t2,ty,pos,aX,gd⟩ (.int k (k.wrap (i*j))):=λa w d _=>cK (by simp[execOp,d.eval f,d.eval g,eqGuard,binOp,Op.intArith]) (by simp[execOp,d.eval f,d.eval g,eqGuard,binOp,Op.intArith])
theorem Ev.add(a:ev e x=some (.int .i64 i))(d:ev e y=some (.int .i64 j)):Ev P n w0 e F L ⟨dst,.binOp .add t x y t2,ty,pos,aX,gd⟩ (.int .i64 (aq (i+j))):=CB a d
theorem NS{m:Nat}(h:m<9223372036854775807)(a:ev e x=some (.int .i64 (m:Int)))(d:ev e y=some (.int .i64 1)):Ev P n w0 e F L ⟨dst,.binOp .add t x y t2,ty,pos,aX,gd⟩ (.int .i64 ((m+1:Nat):Int)):=by have:=Ev.add (P:=P) (n:=n) (w0:=w0) (F:=F) (L:=L) (dst:=dst) (ty:=ty) (pos:=pos) (aX:=aX) (gd:=gd) (t:=t) (t2:=t2) a d;rwa[bO O O]at this
theorem Ev.sub(a:ev e x=some (.int .i64 i))(d:ev e y=some (.int .i64 j)):Ev P n w0 e F L ⟨dst,.binOp .sub t x y t2,ty,pos,aX,gd⟩ (.int .i64 (aq (i-j))):=G9 a d
theorem Ev.mul(a:ev e x=some (.int .i64 i))(d:ev e y=some (.int .i64 j)):Ev P n w0 e F L ⟨dst,.binOp .mul t x y t2,ty,pos,aX,gd⟩ (.int .i64 (aq (i*j))):=G0 a d
theorem Ev.quo(g:ev e x=some (.int .i64 i))(h:ev e y=some (.int .i64 j))(f:j≠0):Ev P n w0 e F L ⟨dst,.binOp .quo t x y t2,ty,pos,aX,gd⟩ (.int .i64 (aq (i.tdiv j))):=λa w d _=>cK (by simp[execOp,d.eval g,d.eval h,eqGuard,binOp,Op.intDiv,f,aq]) (by simp[execOp,d.eval g,d.eval h,eqGuard,binOp,Op.intDiv,f])
theorem Ev.rem(g:ev e x=some (.int .i64 i))(h:ev e y=some (.int .i64 j))(f:j≠0):Ev P n w0 e F L ⟨dst,.binOp .rem t x y t2,ty,pos,aX,gd⟩ (.int .i64 (i.tmod j)):=λa w d _=>cK (by simp[execOp,d.eval g,d.eval h,eqGuard,binOp,Op.intDiv,f]) (by simp[execOp,d.eval g,d.eval h,eqGuard,binOp,Op.intDiv,f])
theorem Ev.eql(f:ev e x=some (.int k i))(g:ev e y=some (.int k j)):Ev P n w0 e F L ⟨dst,.binOp .eql t x y t2,ty,pos,aX,gd⟩ (.bool (i==j)):=λa w d _=>cK (by simp[execOp,d.eval f,d.eval g,eqGuard,binOp,Op.intCmp]) (by simp[execOp,d.eval f,d.eval g,eqGuard,binOp,Op.intCmp])
theorem Ev.neq(f:ev e x=some (.int k i))(g:ev e y=some (.int k j)):Ev P n w0 e F L ⟨dst,.binOp .neq t x y t2,ty,pos,aX,gd⟩ (.bool (i !=j)):=λa w d _=>cK (by simp[execOp,d.eval f,d.eval g,eqGuard,binOp,Op.intCmp]) (by simp[execOp,d.eval f,d.eval g,eqGuard,binOp,Op.intCmp])
theorem Ev.lss(f:ev e x=some (.int k i))(g:ev e y=some (.int k j)):Ev P n w0 e F L ⟨dst,.binOp .lss t x y t2,ty,pos,aX,gd⟩ (.bool (decide (i<j))):=λa w d _=>cK (by simp[execOp,d.eval f,d.eval g,eqGuard,binOp,Op.intCmp]) (by simp[execOp,d.eval f,d.eval g,eqGuard,binOp,Op.intCmp])
theorem Ev.leq(f:ev e x=some (.int k i))(g:ev e y=some (.int k j)):Ev P n w0 e F L ⟨dst,.binOp .leq t x y t2,ty,pos,aX,gd⟩ (.bool (decide (i<=j))):=λa w d _=>cK (by simp[execOp,d.eval f,d.eval g,eqGuard,binOp,Op.intCmp]) (by simp[execOp,d.eval f,d.eval g,eqGuard,binOp,Op.intCmp])
theorem Ev.gtr(f:ev e x=some (.int k i))(g:ev e y=some (.int k j)):Ev P n w0 e F L ⟨dst,.binOp .gtr t x y t2,ty,pos,aX,gd⟩ (.bool (decide (i>j))):=λa w d _=>cK (by simp[execOp,d.eval f,d.eval g,eqGuard,binOp,Op.intCmp]) (by simp[execOp,d.eval f,d.eval g,eqGuard,binOp,Op.intCmp])
theorem Ev.geq(f:ev e x=some (.int k i))(g:ev e y=some (.int k j)):Ev P n w0 e F L ⟨dst,.binOp .geq t x y t2,ty,pos,aX,gd⟩ (.bool (decide (i>=j))):=λa w d _=>cK (by simp[execOp,d.eval f,d.eval g,eqGuard,binOp,Op.intCmp]) (by simp[execOp,d.eval f,d.eval g,eqGuard,binOp,Op.intCmp])
end
section
variable {x y:Operand}{t t2:TypeId}
theorem CF{xs ys:List Value}{b:Bool}(h:ev e x=some (.agg xs.toArray))(l:ev e y=some (.agg ys.toArray))(g:P.eqGuardType P.depth t=false)(f:∀w,(Op.equal t (.agg xs.toArray) (.agg ys.toArray)).run P w=.ok b w/\(Op.equal t (.agg xs.toArray) (.agg ys.toArray)).events P w #[]=#[]):
 Ev P n w0 e F L ⟨dst,.binOp .neq t x y t2,ty,pos,aX,gd⟩ (.bool (!b)):=λa w d _=>cK (by simp[execOp,d.eval h,d.eval l,eqGuard,binOp,g,(f _).1]) (by simp[execOp,d.eval h,d.eval l,eqGuard,binOp,g,(f _).1,(f _).2])
theorem tG{d:TypeDesc}(a:∀w,(underlying t).run P w=.ok d w):P.underlying t=some d:=by
 have:=a default;unfold underlying at this;simp at this
 cases h:P.underlying t with
 |none=>simp[h]at this
 |some f=>simp[h]at this;rw[this]
end
section
variable {x y:Operand}{t t2:TypeId}
theorem fO{m:Nat}(x:BitVec m):BitVec.ofInt m (x.toNat:Int)=x:=by apply sM;have:=x.isLt;simp
theorem aad(x j m:Nat)(h:x<2^m):x/2^(min j m)=x/2^j:=by
 by_cases a:j<=m
 .rw[iV a]
 .rw[Nat.min_eq_right O,Nat.div_eq_of_lt h,Nat.div_eq_of_lt (Nat.lt_of_lt_of_le h (uH O O))]
end
theorem Ev.fieldAddr{x:Operand}{t:TypeId}{k b off off':Nat}{g:Array Field}{f:Field}{s:Nat}(p:ev e x=some (.pointer (some ⟨b,off,none⟩)))(o:∀w,(underlying t).run P w=.ok (.struct g) w)
 (l:g[k]?=some f) (m:∀w,(sizeOf f.type).run P w=.ok s w) (d:(s==0)=false) (A:off+f.offset=off'):Ev P n w0 e F L ⟨dst,.fieldAddr t x k,ty,pos,aX,gd⟩ (.pointer (some ⟨b,off',none⟩)):=λa w h _=>cK (by
 subst A;have q:¬s=0:=by simpa using d
 simp[execOp,h.eval p,Instr.fieldAt,o,l,Instr.sureAddr,fieldPlace,m,show ¬s=0 by simpa using d,Addr.add]) (by simp[execOp,h.eval p,Instr.fieldAt,o,l,Instr.sureAddr,fieldPlace,m,show ¬s=0 by simpa using d,Addr.add])
theorem Ev.indexAddr{x y:Operand}{t el:TypeId}{b off off' len s:Nat}{i:Int}(h:ev e x=some (.pointer (some ⟨b,off,none⟩)))(l:ev e y=some (.int .i64 i))(g:∀w,(underlying t).run P w=.ok (.array len el) w)
 (o:∀w,(sizeOf el).run P w=.ok s w) (f:0<=i) (hi:i<len) (m:off+i.toNat*s=off'):Ev P n w0 e F L ⟨dst,.indexAddr t x y,ty,pos,aX,gd⟩ (.pointer (some ⟨b,off',none⟩)):=λa w d _=>cK (by
 subst m
 simp[execOp,d.eval h,d.eval l,Instr.indexAt,asIntOf,g,Instr.sureAddr,o,f,hi,Addr.add]) (by simp[execOp,d.eval h,d.eval l,Instr.indexAt,asIntOf,g,Instr.sureAddr,f,hi])
end
abbrev cM:=@Ev.add
abbrev it:=@Ev.assign
abbrev cN:=@Ev.eql
abbrev gY:=@Ev.geq
abbrev ef:=@Ev.gtr
abbrev dG:=@NS
abbrev gp:=@Ev.indexAddr
abbrev bF:=@Ev.lss
abbrev ar:=@Ev.move
abbrev pQ:=@Ev.mul
abbrev eU:=@Ev.neq
abbrev fD:=@Ev.not
abbrev cx:=@N8
abbrev cD:=@N9
abbrev fg:=@Ev.sub
end Go.Proofs.YtklkkoelldkncaaGreatDoor
namespace Go.Proofs.YtklkkoelldkncaaGreatDoor
def qOp(P:Program)[C:Co P](ops:Array Oper)(S:bG->World->Prop)(i:Nat)(K:Act->Prop)(a:Act):Prop:=
 match ops[i]? with
 |none=>False
 |some o=>if Region.wanted o (yielded ops a.tmps)then quiet P o a S K else K (a.put o.dst undef)
def YieldsIn(P:Program)[C:Co P](ops:Array Oper)(S:bG->World->Prop)(o:Oper)(v:Value)(a:Act):Prop:=
 (Region.wanted o (yielded ops a.tmps)=true/\∀h w,S h w->quietAt P o a S h w v)\/(Region.wanted o (yielded ops a.tmps)=false/\v=undef)
def lW(ops:Array Oper)(n:Nat):Prop:=∀s:Array Bool,HeadInv .any ops n s->∀i,i<n->s.getD i true=false->∀j∈Region.ready .any ops s,j<n
theorem gy{ops:Array Oper}{n:Nat}(o:Region.sinkB .any ops n=true)(g:Region.chainB .any ops n=true)(m:decide (n<ops.size)=true):lW ops n:=λ_ f i a d j k=>(pu j n).resolve_right λh=>absurd k (tail_waits o g (by simpa using m) f _ i X a d j h)
section
variable {P:Program}{C:Co P}{ops:Array Oper}{S:bG->World->Prop}
theorem qOp.mono{i:Nat}{a:Act}{K g:Act->Prop}(h:∀a,K a->g a)(q:qOp P ops S i K a):qOp P ops S i g a:=by
 unfold qOp at q ⊢;split
 .rename_i d;simp only[d]at q
 .rename_i o d;simp only[d]at q;split
  .rename_i f;simp only[f,jX]at q;exact q.mono h
  .rename_i f;simp only[f]at q;exact h _ q
theorem qOp.act{i:Nat}{a:Act}{K:Act->Prop}{t:Way}{h:bG}{w:World}(k:∀h w w1,S h w->eg h w w1->S h w1)(s:S h w)(m:∀a h w,S h w->K a->t a h w)(q:qOp P ops S i K a):gr P ops i t a h w:=by
 unfold qOp at q;unfold gr;split
 .rename_i p;simp only[p]at q
 .rename_i o p;simp only[p]at q;intro w1 r;split
  .rename_i d;simp only[d,jX]at q;obtain⟨v,A,y⟩:=q;have g:=A h w1 (k _ _ _ s r);unfold quietAt at g;unfold fX;generalize(execOp a.eval o).run P w1=res at g ⊢
   cases res with
   |ok n w'=>
    cases n
    case value u=>obtain⟨rfl,rfl,j⟩:=g;exact⟨j,by rw[rT];exact m _ _ _ (k _ _ _ s r) y⟩
    case enter f args=>obtain⟨rfl,j,B⟩:=g;exact⟨X,j,B.mono λu H w' q=>by obtain⟨rfl,D⟩:=q;exact m _ _ _ D y⟩
    all_goals exact g.elim
   |halt x w'=>exact g.elim
  .rename_i d;simp only[d]at q;exact m _ _ _ (k _ _ _ s r) q
theorem YieldsIn.qOp{i:Nat}{o:Oper}{v:Value}{a:Act}(hi:ops[i]?=some o)(g:YieldsIn P ops S o v a){K:Act->Prop}(h:K (a.put o.dst v)):qOp P ops S i K a:=by
 unfold YtklkkoelldkncaaGreatDoor.qOp;simp only[hi];rcases g with⟨d,f⟩|⟨d,rfl⟩
 .simp only[d,jX];exact⟨v,f,h⟩
 .simp only[d,sO,ol];exact h
theorem YieldsIn.of_same{o:Oper}{v:Value}{a a':Act}(g:YieldsIn P ops S o v a)(d:execOp a'.eval o=execOp a.eval o)
 (f:Region.wanted o (yielded ops a'.tmps)=Region.wanted o (yielded ops a.tmps)):YieldsIn P ops S o v a':=by
 unfold YieldsIn quietAt lI Go.Conc.listed at*
 rw[d,f];exact g
theorem yieldsIn_of_qOp{i:Nat}{o:Oper}{a:Act}{K:Act->Prop}(hi:ops[i]?=some o)(h:qOp P ops S i K a):∃v,YieldsIn P ops S o v a/\K (a.put o.dst v):=by
 unfold qOp at h;simp only[hi]at h;by_cases d:Region.wanted o (yielded ops a.tmps)=true
 .simp only[d,jX]at h;obtain⟨v,f,g⟩:=h;exact⟨v,.inl ⟨d,f⟩,g⟩
 .simp only[d]at h;exact⟨undef,.inr ⟨by simpa using d,X⟩,h⟩
theorem qOp_put{j:Nat}{d f:Oper}{v:Value}(t:ops[j]?=some f)(g:d.apart ops f=true)
 (i:∀cs b,d.op≠.select cs b) (k:∀cs b,f.op≠.select cs b) {K:Act->Prop} {a:Act}
 (A:YieldsIn P ops S d v a) (h:qOp P ops S j K (a.put d.dst v)):
 qOp P ops S j (λa'=>YieldsIn P ops S d v a'/\K (a'.put d.dst v)) a:=by
 obtain⟨p,q,s⟩:=Oper.apart_spec g;have keep:∀u,YieldsIn P ops S d v (a.put f.dst u):=λu=>A.of_same (execOp_put d i a f.dst u s) (wanted_put d a f.dst u s);unfold qOp at*
 simp only[t]at*
 rw[wanted_put f a d.dst v p]at h;split
 .rename_i m;simp only[m,jX]at h;obtain⟨u,y,x⟩:=h;refine⟨u,λhd w o=>?_,keep u,by rw[<-Act.put_comm a v u q];exact x⟩;have:=y hd w o;unfold quietAt lI Go.Conc.listed at*
  rwa[execOp_put f k a d.dst v p]at this
 .rename_i m;simp only[m]at h;exact⟨keep _,by rw[<-Act.put_comm a v undef q];exact h⟩
def sy(P:Program)[C:Co P](ops:Array Oper)(S:bG->World->Prop)(n:Nat)(L:Array Bool->Act->Prop):Nat->Array Bool->Act->Prop
 |0,s,a=>L s a
 |f+1,s,a=>Region.ready .any ops s≠[]/\∀i∈Region.ready .any ops s,i<n/\qOp P ops S i (sy P ops S n L f (s.setIfInBounds i true)) a
theorem Rl{n g:Nat}{L:Array Bool->Act->Prop}{Q:eC}(t:∀h w w1,S h w->eg h w w1->S h w1)(q:∀s a h w,S h w->L s a->n3 P ops Q g s a h w):
 ∀(f:Nat)(s:Array Bool)(a:Act)(h:bG)(w:World),S h w->sy P ops S n L f s a->n3 P ops Q (f+g) s a h w:=by
 intro f
 induction f with
 |zero=>intro s a h w k d;simpa using q s a h w k d
 |succ f x=>intro s a h w k d;rw[show f+1+g=(f+g)+1 by omega];exact⟨λp=>absurd p d.1,λi hi=>(d.2 i hi).2.act t k λa' o w' m j=>x _ a' o w' m j⟩
theorem Ij{n g f:Nat}{L:Array Bool->Act->Prop}{Q:eC}{s:Array Bool}{a:Act}{h:bG}{w:World}(H:sy P ops S n L f s a)(j:S h w)(i:∀h w w1,S h w->eg h w w1->S h w1)(d:∀s a h w,S h w->L s a->n3 P ops Q g s a h w):n3 P ops Q (f+g) s a h w:=
 Rl i d f s a h w j H
theorem head_take{n i:Nat}{M:Oper}{v:Value}{L:Array Bool->Act->Prop}(hi:ops[i]?=some M)(y:∀(j:Nat)(o:Oper)cs b,ops[j]?=some o->o.op≠.select cs b)
 (hb:lW ops n) (V:i<n) (B:∀s a,L s a->∀j∈Region.ready .any ops s,n<=j):
 ∀(f:Nat)(s:Array Bool)(a:Act),HeadInv .any ops n s->
  (∀j K,ops[j]?=some K->j≠i->s.getD j true=false->(∀e∈K.after,Region.binds .any e=true->e.on≠i)->M.apart ops K=true)->
  i∈Region.ready .any ops s->YieldsIn P ops S M v a->
  sy P ops S n L f (s.setIfInBounds i true) (a.put M.dst v)->sy P ops S n L (f+1) s a:=by
 intro f
 induction f with
 |zero=>
  intro s a h _ t hy H;have d:=hb s h i V (mem_ready.1 t).1;refine⟨λh0=>(by rw[h0]at t;cases t),λj g=>⟨d j g,?_⟩⟩;by_cases e:j=i
  .subst e;exact YieldsIn.qOp hi hy H
  .have:=B _ _ H j (ready_mono g e);have:=d j g;omega
 |succ f ih=>
  intro s a h m t hy H;have W:=(mem_ready.1 t).1;have d:=hb s h i V W;refine⟨λh0=>(by rw[h0]at t;cases t),λj g=>⟨d j g,?_⟩⟩;by_cases e:j=i
  .subst e;exact YieldsIn.qOp hi hy H
  .obtain⟨p,K,D,T⟩:=mem_ready.1 g;have A:M.apart ops K=true:=m j K D e p λx hx hb he=>by
    have:=T x hx hb;rw[he,getD_both W]at this;cases this
   have next:=qOp_put D A (λcs b=>y i M cs b hi) (λcs b=>y j K cs b D) hy (H.2 j (ready_mono g e)).2
   refine qOp.mono (λa' h3=>?_) next
   refine ih (s.setIfInBounds j true) a' (h.set g (d j g)) (λk ok hk EE EG og=>m k ok hk EE ?_ og) (ready_mono t (Ne.symm e)) h3.1 ?_
   .by_cases q:j=k
    .subst q;exact p
    .rwa[getD_set_ne true q]at EG
   .rw[Array.setIfInBounds_comm _ _ e];exact h3.2
theorem AV{n:Nat}(ops:Array Oper):HeadInv .any ops n (Array.replicate ops.size false):=by
 constructor
 .simp
 .intro j f _ a;rw[getD_replicate_false]at a;cases a
 .intro t _ d;exact getD_in (by simpa using d) (getD_replicate_false _ _)
theorem TE{n g:Nat}{q:Act->Prop}(i:Region.noSelect ops=true)(D:lW ops n):
 ∀(l:List Oper)(k:Nat)(s:Array Bool)(a:Act),(∀j,j<l.length->l[j]?=ops[k+j]?)->k+l.length=n->HeadInv .any ops n s->
 Region.lexHead .any ops g l.length k s=true->il P ops S q l a->
 sy P ops S n (λy a'=>Region.seqB .any ops g n y=true/\q a') l.length s a:=by
 intro l
 induction l with
 |nil=>
  intro k s a _ t _ f h;obtain rfl:k=n:=by simpa using t
  exact⟨by simpa[Region.lexHead]using f,h⟩
 |cons o l K=>
  intro k s a x t m f h;have p:ops[k]?=some o:=by simpa using(x 0 (by simp)).symm
  simp only[bN]at t;simp only[bN,Region.lexHead,eJ]at f;have d:k∈Region.ready .any ops s:=by simpa using f.1.1
  have first:qOp P ops S k (il P ops S q l) a:=by unfold qOp;simp only[p];exact h
  obtain⟨v,H,A⟩:=yieldsIn_of_qOp p first
  refine head_take p (Region.noSelect_spec i) D O (λy a' B=>seqB_ready B.1) l.length s a m (Region.free_spec p f.1.2) d H ?_;exact K (k+1) _ _ (λj M=>by have:=x (j+1) (by simp;omega);simpa[qP,nt 1 j]using this) O (m.set d O) f.2 A
theorem Rb{t:Act->Prop}(m:Region.noSelect ops=true):
 ∀(l:List Oper)(k:Nat)(s:Array Bool)(a:Act),(∀j,l[j]?=ops[k+j]?)->k+l.length=ops.size->HeadInv .any ops ops.size s->
 Region.lexFrom .any ops l.length k s=true->il P ops S t l a->
 sy P ops S ops.size (λA a'=>Region.ready .any ops A=[]/\t a') l.length s a:=by
 have f:∀(s:Array Bool)(j:Nat),j∈Region.ready .any ops s->j<ops.size:=λs j i=>by obtain⟨_,T,x,_⟩:=mem_ready.1 i;exact(gV.1 x).1
 intro l
 induction l with
 |nil=>intro k s a _ _ _ g h;exact⟨by simpa[Region.lexFrom]using g,h⟩
 |cons o l M=>
  intro k s a y H p g h;have q:ops[k]?=some o:=by simpa using(y 0).symm
  simp only[bN]at H;simp only[bN,Region.lexFrom,eJ]at g;have d:k∈Region.ready .any ops s:=by simpa using g.1.1
  have first:qOp P ops S k (il P ops S t l) a:=by unfold qOp;simp only[q];exact h
  obtain⟨v,K,B⟩:=yieldsIn_of_qOp q first
  refine head_take q (Region.noSelect_spec m) (λs _ _ _ _ j i=>f s j i) O (λA a' D j i=>by rw[D.1]at i;cases i) l.length s a p (Region.free_spec q g.1.2) d K ?_;exact M (k+1) _ _ (λj=>by have:=y (j+1);simpa[qP,nt 1 j]using this) O (p.set d O) g.2 B
end
section
variable {P:Program}{C:Co P}{n:Fm}{w0:World}{Q:eC}{ops:Array Oper}{e:List (Nat×Value)}{F:bk}{L:List Item}{id:Nat}{l:List Oper}
theorem Cd.quiet(k:P.follows .mixedOrders=true)(f:Region.lexB .any l.toArray=true)
 (h:Qt P n w0 l.toArray (λa=>∀hd w,SH w0 F L hd w->Q .normal a hd w) l e F L):Cd P n w0 Q (.region id l.toArray true) e F L:=λa hd w j d=>by
 simp only[Region.lexB,eJ]at f;refine Gu k λw1 r=>?_;have H:=Rb (ops:=l.toArray) f.1 l 0 _ a (by simp) (by simp) (AV _) (by simpa using f.2) (h a j);have:=Ij (Q:=Q) (g:=0) (w:={w1 with drawn:=w1.drawn+1}) H (d.rely r).drew (λh w w1 d r=>SH.rely d r) (λs a h w d i=>⟨i.1,i.2 h w d⟩);simpa using this
theorem Qt.done(h:At n w0 Q .normal e F L):Qt P n w0 ops (λa=>∀hd w,SH w0 F L hd w->Q .normal a hd w) [] e F L:=λa d hd w f=>h a hd w d f
theorem Cd.tail(m:Nat)(M:P.follows .mixedOrders=true)(y:Region.lexTailB .any l.toArray m=true)
 (h:Qt P n w0 l.toArray (λa=>∀hd w,SH w0 F L hd w->gv P l.toArray Q (l.drop m) a hd w) (l.take m) e F L):Cd P n w0 Q (.region id l.toArray true) e F L:=λa hd w D p=>by
 simp only[Region.lexTailB,eJ,gL]at y;obtain⟨⟨⟨⟨i,B⟩,V⟩,K⟩,f⟩:=y;have T:m<l.length:=by simpa using B
 have k:(l.take m).length=m:=by simp;omega
 have d:(l.drop m).length=l.toArray.size-m:=by simp
 refine Gu M λw1 r=>?_
 have H:=TE (g:=l.toArray.size-m) i (gy V K (by simpa using B)) (l.take m) 0 _ a (λj W=>by
  have o:j<m:=by omega
  simp[o]) O (AV _) (by rw[k];exact f) (h a D)
 rw[k]at H
 have t:=Ij (Q:=Q) (g:=l.toArray.size-m) (w:={w1 with drawn:=w1.drawn+1}) H (p.rely r).drew (λh w w1 p r=>SH.rely p r) (λs a' x w' q A=>by
  have:=Am (P:=P) (ops:=l.toArray) (Q:=Q) (l.drop m) m s (a:=a') (h:=x) (w:=w') (λj=>by simp) (by rw[d];exact A.1) (A.2 x w' q)
  rwa[d]at this)
 rwa[show m+(l.toArray.size-m)=l.toArray.size by omega]at t
theorem Qt.tail(h:a9 P n w0 ops Q l e F L):Qt P n w0 ops (λa=>∀hd w,SH w0 F L hd w->gv P ops Q l a hd w) [] e F L:=λa d hd w f=>h a hd w d f
end
abbrev ju:=@Cd.quiet
abbrev jM:=@Cd.tail
abbrev jt:=@Qt.done
abbrev jL:=@Qt.tail
def Nx(_:eC)(K:Way):eC
 |.normal,a,h,w=>K a h w
 |_,_,_,_=>False
abbrev qk:=bG->World->Prop
section
variable {P:Program}{C0:Co P}{ops:Array Oper}{n:Nat}{C C':qk}{Lq:Array Bool->Way}{Q:eC}
def Hd(P:Program)[Co P](Q:eC)(ops:Array Oper)(n:Nat)(Lq:Array Bool->Way)(C:qk):Nat->Array Bool->Way
 |0,s,a,h,w=>∀w1,eg h w w1->Lq s a h w1
 |f+1,s,a,h,w=>Region.ready .any ops s≠[]/\∀i∈Region.ready .any ops s,i<n/\gr P ops i (λa' d w'=>C d w'/\Hd P Q ops n Lq C f (s.setIfInBounds i true) a' d w') a h w
theorem Hd.mono(j:∀h w,C h w->C' h w):∀(f:Nat)(s:Array Bool)(a:Act)(h:bG)(w:World),Hd P Q ops n Lq C f s a h w->Hd P Q ops n Lq C' f s a h w:=by
 intro f
 induction f with
 |zero=>intro s a h w g;exact g
 |succ f k=>intro s a h w g;exact⟨g.1,λi hi=>⟨(g.2 i hi).1,(g.2 i hi).2.mono λa' o w' d=>⟨j _ _ d.1,k _ _ _ _ d.2⟩⟩⟩
theorem Rk{g:Nat}(p:∀s a h w,Lq s a h w->n3 P ops Q g s a h w):
 ∀(f:Nat)(s:Array Bool)(a:Act)(h:bG)(w:World),Hd P Q ops n Lq C f s a h w->n3 P ops Q (f+g) s a h w:=by
 intro f
 induction f with
 |zero=>intro s a h w d;simpa using p s a h w (d w (eg.refl _ _))
 |succ f q=>intro s a h w d;rw[show f+1+g=(f+g)+1 by omega];exact⟨λo=>absurd o d.1,λi hi=>(d.2 i hi).2.mono λa' k w' j=>q _ a' k w' j.2⟩
def nZ(P:Program)(ops:Array Oper)(C:qk)(o:Oper)(v:Value)(a:Act):Prop:=
 (Region.wanted o (yielded ops a.tmps)=true/\∀h w,C h w->(execOp a.eval o).run P w=.ok (.value v) w/\∀f,jm h w w (Go.Conc.listed P f a o w))\/(Region.wanted o (yielded ops a.tmps)=false/\v=undef)
theorem nZ.gr{i:Nat}{o:Oper}{v:Value}{a:Act}(hi:ops[i]?=some o)(s:nZ P ops C o v a){K:Way}{h:bG}{w:World}(k:∀h w w1,C h w->eg h w w1->C h w1)(q:C h w)(f:∀w1,eg h w w1->K (a.put o.dst v) h w1):gr P ops i K a h w:=by
 unfold YtklkkoelldkncaaGreatDoor.gr;simp only[hi];intro w1 r;rcases s with⟨d,p⟩|⟨d,rfl⟩
 .simp only[d,jX];have⟨g,j⟩:=p h w1 (k _ _ _ q r);unfold fX;rw[g];exact⟨j,by rw[rT];exact f w1 r⟩
 .simp only[d,sO,ol];exact f w1 r
theorem nZ.of_same{o:Oper}{v:Value}{a a':Act}(g:nZ P ops C o v a)(d:execOp a'.eval o=execOp a.eval o)
 (f:Region.wanted o (yielded ops a'.tmps)=Region.wanted o (yielded ops a.tmps)):nZ P ops C o v a':=by
 unfold nZ Go.Conc.listed at*
 rw[d,f];exact g
theorem Wu{j:Nat}{g i:Oper}{v:Value}(D:ops[j]?=some i)(o:g.apart ops i=true)
 (p:∀cs b,g.op≠.select cs b) (s:∀cs b,i.op≠.select cs b) {K:Way} {a:Act} {h:bG} {w:World}
 (H:nZ P ops C g v a) (d:gr P ops j K (a.put g.dst v) h w):
 gr P ops j (λa' B w'=>nZ P ops C g v a'/\K (a'.put g.dst v) B w') a h w:=by
 obtain⟨y,k,A⟩:=Oper.apart_spec o;have keep:∀u,nZ P ops C g v (a.put i.dst u):=λu=>H.of_same (execOp_put g p a i.dst u A) (wanted_put g a i.dst u A);unfold gr at*
 simp only[D]at*
 rw[wanted_put i a g.dst v y]at d;intro w1 r;have d:=d w1 r;split
 .rename_i t;simp only[t,jX]at d;unfold fX lI Go.Conc.listed at*
  rw[execOp_put i s a g.dst v y]at d;generalize(execOp a.eval i).run P w1=res at*
  cases res with
  |ok n w'=>
   cases n
   case value u=>exact⟨d.1,keep u,by rw[<-Act.put_comm a v u k];exact d.2⟩
   case skip=>exact⟨d.1,keep _,by rw[<-Act.put_comm a v undef k];exact d.2⟩
   case enter f args=>exact⟨d.1,d.2.1,d.2.2.mono λu h w q=>⟨keep u,by rw[<-Act.put_comm a v u k];exact q⟩⟩
   all_goals exact d.elim
  |halt x w'=>exact d.elim
 .rename_i t;simp only[t]at d;exact⟨keep _,by rw[<-Act.put_comm a v undef k];exact d⟩
theorem Hd.rely{f:Nat}{s:Array Bool}{a:Act}{h:bG}{w w1:World}(d:Hd P Q ops n Lq C f s a h w)(r:eg h w w1):Hd P Q ops n Lq C f s a h w1:=by
 cases f with
 |zero=>exact λw2 g=>d w2 (r.trans g)
 |succ f=>exact⟨d.1,λi hi=>⟨(d.2 i hi).1,(d.2 i hi).2.rely r⟩⟩
theorem RA(f:n=ops.size):lW ops n:=λ_ _ i _ _ j a=>by obtain⟨_,o,d,_⟩:=mem_ready.1 a;have:=(gV.1 d).1;omega
theorem Hd.take{i:Nat}{V:Oper}{v:Value}(hi:ops[i]?=some V)(B:∀(j:Nat)(o:Oper)cs b,ops[j]?=some o->o.op≠.select cs b)(av:lW ops n)(up:i<n)(K:∀s a h w,Lq s a h w->∀j∈Region.ready .any ops s,n<=j)
 (hS:∀h w w1,C h w->eg h w w1->C h w1):
 ∀(f:Nat)(s:Array Bool)(a:Act)(h:bG)(w:World),HeadInv .any ops n s->
  (∀j S,ops[j]?=some S->j≠i->s.getD j true=false->(∀e∈S.after,Region.binds .any e=true->e.on≠i)->V.apart ops S=true)->
  i∈Region.ready .any ops s->C h w->nZ P ops C V v a->
  Hd P Q ops n Lq C f (s.setIfInBounds i true) (a.put V.dst v) h w->Hd P Q ops n Lq C (f+1) s a h w:=by
 intro f
 induction f with
 |zero=>
  intro s a h w p _ A hw hy H;have d:=av s p i up (mem_ready.1 A).1;refine⟨λh0=>(by rw[h0]at A;cases A),λj g=>⟨d j g,?_⟩⟩;by_cases e:j=i
  .subst e;exact hy.gr hi hS hw λw1 r=>⟨hS _ _ _ hw r,H.rely r⟩
  .have:=K _ _ _ _ (H w (eg.refl _ _)) j (ready_mono g e);have:=d j g;omega
 |succ f ih=>
  intro s a h w p t A hw hy H;have JX:=(mem_ready.1 A).1;have d:=av s p i up JX;refine⟨λh0=>(by rw[h0]at A;cases A),λj g=>⟨d j g,?_⟩⟩;by_cases e:j=i
  .subst e;exact hy.gr hi hS hw λw1 r=>⟨hS _ _ _ hw r,H.rely r⟩
  .obtain⟨y,S,M,W⟩:=mem_ready.1 g;have D:V.apart ops S=true:=t j S M e y λx hx hb he=>by
    have:=W x hx hb;rw[he,getD_both JX]at this;cases this
   have next:=Wu M D (λcs b=>B i V cs b hi) (λcs b=>B j S cs b M) hy (H.2 j (ready_mono g e)).2
   refine next.mono λa' h' w' h3=>⟨h3.2.1,ih (s.setIfInBounds j true) a' h' w' (p.set g (d j g)) (λk ok hk EE EG og=>t k ok hk EE ?_ og) (ready_mono A (Ne.symm e)) h3.2.1 h3.1 ?_⟩
   .by_cases q:j=k
    .subst q;exact y
    .rwa[getD_set_ne true q]at EG
   .rw[Array.setIfInBounds_comm _ _ e];exact h3.2.2
end
section
variable {P:Program}{C0:Co P}{n:Fm}{w0:World}{l:List Oper}{m:Nat}{T:Way}{C:qk}{e:List (Nat×Value)}{F:bk}{L:List Item}{Q:eC}
def fM(P:Program)[Co P](n:Fm)(w0:World)(Q:eC)(l:List Oper)(m:Nat)(T:Way)(C:qk)(f:Nat)(s:Array Bool)(e:List (Nat×Value))(F:bk)(L:List Item):Prop:=
 HeadInv .any l.toArray m s->∀a hd w,cG n a e->SH w0 F L hd w->Hd P Q l.toArray m (λs a hd w=>(Region.seqB .any l.toArray (l.length-m) m s=true)/\T a hd w) C f s a hd w
theorem fM.done{s:Array Bool}(f:Region.seqB .any l.toArray (l.length-m) m s=true)(h:At n w0 (Nx Q T) .normal e F L):fM P n w0 Q l m T C 0 s e F L:=λ_ a hd w d g w1 r=>⟨f,h a hd w1 d (g.rely r)⟩
theorem fM.take{f i d:Nat}{s:Array Bool}{o:Oper}{v:Value}{H:List Item}{D:bk}(ho:l[i]?=some o)(hd:o.dst=some d)(hn:d<n.n)(A:Region.noSelect l.toArray=true)(M:lW l.toArray m)(t:i<m)
 (hr:(Region.ready .any l.toArray s).contains i=true) (hf:Region.free .any l.toArray s i=true) (hC:∀hd w,SH w0 F L hd w->C hd w) (hg:o.guard=none) (j:∀hd w,C hd w↔SH w0 D H hd w) (hy:Ev P n w0 e D H o v)
 (k:fM P n w0 Q l m T C f (s.setIfInBounds i true) ((d,v)::e) F L):fM P n w0 Q l m T C (f+1) s e F L:=by
 intro B a p w S V;have x:l.toArray[i]?=some o:=by simpa using ho
 have y:i∈Region.ready .any l.toArray s:=by simpa using hr
 have hS:∀h w w1,C h w->eg h w w1->C h w1:=λh w w1 q r=>(j h w1).2 (((j h w).1 q).rely r);refine Hd.take (C:=C) (v:=v) x (Region.noSelect_spec A) M t (λs' a' K w' hL=>seqB_ready hL.1) hS f s a p w B (Region.free_spec x hf) y (hC p w V) ?_ ?_
 .exact .inl ⟨by simp[Region.wanted,hg],λK w' q=>have⟨W,h2⟩:=hy a w' S ((j K w').1 q).toSt;⟨W,λg=>(mO D H w').wU h2 ((j K w').1 q)⟩⟩
 .rw[hd];exact k (B.set y t) (a.put (some d) v) p w (S.put hn v) V
theorem Hx{f d:Nat}{s:Array Bool}{o:Oper}{v:Value}{h:List Item}{g:bk}(a:Region.noSelect l.toArray=true)(p:lW l.toArray m)(i:Nat)(q:∀hd w,SH w0 F L hd w->SH w0 g h hd w)(A:l[i]?=some o)(hd:o.dst=some d)(y:d<n.n)(j:i<m)
 (B:(Region.ready .any l.toArray s).contains i=true) (t:Region.free .any l.toArray s i=true) (x:o.guard=none) (D:Ev P n w0 e g h o v)
 (k:fM P n w0 Q l m T (λhd w=>SH w0 g h hd w) f (s.setIfInBounds i true) ((d,v)::e) F L):fM P n w0 Q l m T (λhd w=>SH w0 g h hd w) (f+1) s e F L:=
 fM.take A hd y a p j B t q x (λ_ _=>Iff.rfl) D k
def ll(P:Program)[Co P](n:Fm)(w0:World)(Q:eC)(l:List Oper)(m:Nat)(T:Way)(C:qk)(f:Nat)(s:Array Bool)(e:List (Nat×Value))(F:bk)(L:List Item):List Nat->Prop
 |[]=>True
 |i::g=>(i<m/\∃o,l[i]?=some o/\(HeadInv .any l.toArray m (s.setIfInBounds i true)->a9 P n w0 l.toArray (Nx Q λa' d w'=>C d w'/\Hd P Q l.toArray m (λs a h w=>(Region.seqB .any l.toArray (l.length-m) m s=true)/\T a h w) C f (s.setIfInBounds i true) a' d w') [o] e F L))/\ll P n w0 Q l m T C f s e F L g
theorem ll.get{f:Nat}{s:Array Bool}:∀{g:List Nat},ll P n w0 Q l m T C f s e F L g->∀i∈g,i<m/\∃o,l[i]?=some o/\(HeadInv .any l.toArray m (s.setIfInBounds i true)->a9 P n w0 l.toArray (Nx Q λa' d w'=>C d w'/\Hd P Q l.toArray m (λs a h w=>(Region.seqB .any l.toArray (l.length-m) m s=true)/\T a h w) C f (s.setIfInBounds i true) a' d w') [o] e F L)
 |[],_,i,hi=>by cases hi
 |_::_,h,i,hi=>by
  rcases fB.1 hi with rfl|hi
  .exact h.1
  .exact ll.get h.2 i hi
theorem ll.cons{f i:Nat}{s:Array Bool}{g:List Nat}{o:Oper}(hi:i<m)(j:l[i]?=some o)
 (h:HeadInv .any l.toArray m (s.setIfInBounds i true)->a9 P n w0 l.toArray (Nx Q λa' d w'=>C d w'/\Hd P Q l.toArray m (λs a h w=>(Region.seqB .any l.toArray (l.length-m) m s=true)/\T a h w) C f (s.setIfInBounds i true) a' d w') [o] e F L)
 (k:ll P n w0 Q l m T C f s e F L g):ll P n w0 Q l m T C f s e F L (i::g):=⟨⟨hi,o,j,h⟩,k⟩
theorem ll.c{f i:Nat}{s:Array Bool}{g:List Nat}{o:Oper}
 (h:HeadInv .any l.toArray m (s.setIfInBounds i true)->a9 P n w0 l.toArray (Nx Q λa' d w'=>C d w'/\Hd P Q l.toArray m (λs a h w=>(Region.seqB .any l.toArray (l.length-m) m s=true)/\T a h w) C f (s.setIfInBounds i true) a' d w') [o] e F L)
 (k:ll P n w0 Q l m T C f s e F L g) (hi:i<m:=by decide) (j:l[i]?=some o:=by exact X):ll P n w0 Q l m T C f s e F L (i::g):=ll.cons hi j h k
theorem fM.step{f:Nat}{s:Array Bool}(d:List Nat)(y:Region.ready .any l.toArray s=d)(q:d.isEmpty=false)(h:ll P n w0 Q l m T C f s e F L d):fM P n w0 Q l m T C (f+1) s e F L:=by
 intro p a hd w B H;have j:d≠[]:=by intro e;rw[e]at q;cases q
 refine⟨by rw[y];exact j,λi hi=>?_⟩;have g:=hi;rw[y]at hi;obtain⟨t,o,D,A⟩:=h.get i hi;refine⟨t,?_⟩;have x:=A (p.set g t) a hd w B H;have k:l.toArray[i]?=some o:=by simpa using D
 unfold gr;simp only[k];unfold gv at x;exact x
theorem At.hd{f:Nat}{s:Array Bool}(d:HeadInv .any l.toArray m s)(j:∀hd w,SH w0 F L hd w->C hd w)(k:fM P n w0 Q l m T C f s e F L):
 At n w0 (Nx Q λa' g w'=>C g w'/\Hd P Q l.toArray m (λs a h w=>(Region.seqB .any l.toArray (l.length-m) m s=true)/\T a h w) C f s a' g w') .normal e F L:=λa hd w o i=>⟨j hd w i,k d a hd w o i⟩
theorem cW{ops:Array Oper}{f:Nat}{s:Array Bool}{d:List Item}(g:HeadInv .any l.toArray m s)(j:d.Sublist L)(k:fM P n w0 Q l m T (λhd w=>SH w0 F (d) hd w) f s e F L):
 a9 P n w0 ops (Nx Q λa' i w'=>(λhd w=>SH w0 F (d) hd w) i w'/\Hd P Q l.toArray m (λs a h w=>(Region.seqB .any l.toArray (l.length-m) m s=true)/\T a h w) (λhd w=>SH w0 F (d) hd w) f s a' i w') [] e F L:=aC (At.hd g (λ_ w h=>h.sublist j) k)
theorem fM.ts{f d:Nat}{s:Array Bool}{o:Oper}{v:Value}{g:List Item}(a:Region.noSelect l.toArray=true)(p:lW l.toArray m)(i:Nat)(B:g.Sublist L)(y:l[i]?=some o)(D:Ev P n w0 e F g o v)
 (k:fM P n w0 Q l m T (λhd w=>SH w0 F g hd w) f (s.setIfInBounds i true) ((d,v)::e) F L) (hd:o.dst=some d:=by exact X) (x:d<n.n:=by exact oC X) (j:i<m:=by decide)
 (A:(Region.ready .any l.toArray s).contains i=true:=by kernel_rfl) (q:Region.free .any l.toArray s i=true:=by kernel_rfl) (t:o.guard=none:=by exact X):fM P n w0 Q l m T (λhd w=>SH w0 F g hd w) (f+1) s e F L:=
 Hx a p i (λ_ w h=>h.sublist B) y hd x j A q t D k
theorem aB{f d:Nat}{s:Array Bool}{o:Oper}{v:Value}{g:List Item}(hd:o.dst=some d)(a:Region.noSelect l.toArray=true)(p:lW l.toArray m)(i:Nat)(B:g.Sublist L)(y:l[i]?=some o)(D:Ev P n w0 e F g o v)
 (k:fM P n w0 Q l m T (λhd w=>SH w0 F g hd w) f (s.setIfInBounds i true) ((d,v)::e) F L) (x:d<n.n:=by exact oC X) (j:i<m:=by decide)
 (A:(Region.ready .any l.toArray s).contains i=true:=by kernel_rfl) (q:Region.free .any l.toArray s i=true:=by kernel_rfl) (t:o.guard=none:=by exact X):fM P n w0 Q l m T (λhd w=>SH w0 F g hd w) (f+1) s e F L:=
 Hx a p i (λ_ w h=>h.sublist B) y hd x j A q t D k
theorem fM.o1{f:Nat}{s:Array Bool}{o:Oper}(i:Nat)(h:HeadInv .any l.toArray m (s.setIfInBounds i true)->a9 P n w0 l.toArray (Nx Q λa' d w'=>C d w'/\Hd P Q l.toArray m (λs a h w=>(Region.seqB .any l.toArray (l.length-m) m s=true)/\T a h w) C f (s.setIfInBounds i true) a' d w') [o] e F L)
 (j:Region.ready .any l.toArray s=[i]:=by kernel_rfl) (hi:i<m:=by decide) (g:l[i]?=some o:=by exact X):fM P n w0 Q l m T C (f+1) s e F L:=fM.step [i] j X (ll.c h bo hi g)
theorem fM.keep{f:Nat}{s:Array Bool}(C':qk)(g:∀hd w,C' hd w->C hd w)(k:fM P n w0 Q l m T C' f s e F L):fM P n w0 Q l m T C f s e F L:=λd a hd w h i=>Hd.mono g _ _ _ _ _ (k d a hd w h i)
theorem acb{f:Nat}{s:Array Bool}{e':List (Nat×Value)}{L':List Item}(i:sub e e')(g:L=L')(k:fM P n w0 Q l m T C f s e' F L'):fM P n w0 Q l m T C f s e F L:=by subst g;exact λd a hd w h j=>k d a hd w (h.sub i) j
theorem Nt{y:Nat}(m:Nat)(T:Way)(t:P.follows .mixedOrders=true)(q:m<=l.length)(h:fM P n w0 Q l m T (λ_ _=>True) m (Array.replicate l.length false) e F L)
 (k:∀a hd w,T a hd w->gv P l.toArray Q (l.drop m) a hd w):Cd P n w0 Q (.region y l.toArray true) e F L:=by
 intro a hd w p x;refine Gu t λw1 r=>?_;have H:=h (by simpa using AV l.toArray) a hd {w1 with drawn:=w1.drawn+1} p (x.rely r).drew;have d:(l.drop m).length=l.length-m:=by simp
 have f:=Rk (Q:=Q) (g:=l.length-m) (λs a' i w' o=>by
  have:=Am (P:=P) (ops:=l.toArray) (Q:=Q) (l.drop m) m s (a:=a') (h:=i) (w:=w') (λj=>by simp) (by rw[d];exact o.1) (k a' i w' o.2)
  rwa[d]at this) m _ a hd {w1 with drawn:=w1.drawn+1} H
 rw[show m+(l.length-m)=l.length by omega]at f;simpa using f
theorem Nj{σ:Type}{F0:bk}{env:σ->List (Nat×Value)}{gC:σ->List Item}{d:bk->σ->Prop}(s:σ)(f:cS F0 F)(j:sub e (env s))(h:L=gC s)(g:d F s):
 At n w0 (Nx Q (rW n w0 F0 env gC d)) .normal e F L:=by
 subst h;exact λa hd w i k=>⟨F,s,f,i.sub j,k,g⟩
theorem Nu{σ:Type}{y:Nat}(m:Nat)(env:σ->List (Nat×Value))(gC:σ->List Item)(d:bk->σ->Prop)(t:P.follows .mixedOrders=true)(g:decide (m<=l.length)=true)(q:lW l.toArray m)(x:Region.noSelect l.toArray=true)
 (h:Region.noSelect l.toArray=true->lW l.toArray m->fM P n w0 Q l m (rW n w0 F env gC d) (λ_ _=>True) m (Array.replicate l.length false) e F L)
 (k:∀f s,cS F f->d f s->a9 P n w0 l.toArray Q (l.drop m) (env s) f (gC s)):Cd P n w0 Q (.region y l.toArray true) e F L:=
 Nt m _ t (by simpa using g) (h x q) λa hd w⟨f,s,i,j,o,p⟩=>k f s i p a hd w j o
end
abbrev gP:=@At.hd
abbrev eK:=@Nj
abbrev gO:=@Nu
abbrev eM:=@fM.done
abbrev d8:=@fM.keep
abbrev cP:=@fM.o1
abbrev mP:=@fM.step
abbrev iu:=@ll.c
end Go.Proofs.YtklkkoelldkncaaGreatDoor
namespace Go.Proofs.YtklkkoelldkncaaGreatDoor
open Go.RowKit an
theorem bu.le{cs:List Value}{off:Nat}{ch:List Value}(h:bu cs off ch):off+ch.length<=cs.length:=by obtain⟨A,B,rfl,rfl⟩:=h;simp
theorem bu.at{cs:List Value}{off:Nat}{ch:List Value}(h:bu cs off ch){j:Nat}{v:Value}(a:ch[j]?=some v):cs[off+j]?=some v:=by obtain⟨A,B,rfl,rfl⟩:=h;have f:=(ff.1 a).1;rw[pz O,ou O,E4];exact a
theorem bA.len{cs:List Value}{off:Nat}{vs cs':List Value}(h:bA cs off vs cs'):cs'.length=cs.length:=by obtain⟨A,o,B,rfl,rfl,a,rfl⟩:=h;simp[a]
theorem bA.le{cs:List Value}{off:Nat}{vs cs':List Value}(h:bA cs off vs cs'):off+vs.length<=cs.length:=by obtain⟨A,o,B,rfl,rfl,a,rfl⟩:=h;simp[a]
theorem bA.eq{cs:List Value}{off:Nat}{vs cs':List Value}(h:bA cs off vs cs'):cs.take off++vs++cs.drop (off+vs.length)=cs':=by obtain⟨A,o,B,rfl,rfl,a,rfl⟩:=h;rw[<-a];simp[f9]
section
variable {P:Program}{w:World}
theorem wK{b off:Nat}{cs:List Value}{t:TypeId}{fr:Nat×Nat}(a:w.heap[b]?=some (.cells cs.toArray t fr)):w.cell? ⟨b,off,none⟩=cs[off]?:=by rw[cell_of_row w b off _ t fr a];simp
theorem ia(b off k:Nat):(⟨b,off,none⟩:Addr).add k=⟨b,off+k,none⟩:=by unfold Addr.add;split<;>simp_all
theorem vB{b off:Nat}{cs:List Value}{t':TypeId}{fr:Nat×Nat}{t:TypeId}{v:Value}(f:w.heap[b]?=some (.cells cs.toArray t' fr))(a:∀w,(isAgg t).run P w=.ok false w)(h:bu cs off [v]):
 (loadVar t ⟨b,off,none⟩).run P w=.ok v w:=by
 have g:w.cell? ⟨b,off,none⟩=some v:=by rw[wK f];exact h.at (j:=0) X
 simp[loadVar,a,g]
theorem Ga{b off:Nat}{cs:List Value}{t':TypeId}{fr:Nat×Nat}{t:TypeId}{ch:List Value}{s:Nat}(f:w.heap[b]?=some (.cells cs.toArray t' fr))(a:∀w,(isAgg t).run P w=.ok true w)
 (m:∀w,(sizeOf t).run P w=.ok s w) (k:ch.length=s) (h:bu cs off ch):(loadVar t ⟨b,off,none⟩).run P w=.ok (.agg ch.toArray) w:=by
 have g:=run_loadCells_list (P:=P) (w:=w) ⟨b,off,none⟩ ch (λj v i=>by rw[ia,wK f];exact h.at i);simp[loadVar,a,m,<-k,g]
theorem B2{b off:Nat}{cs cs' vs:List Value}{t' t:TypeId}{v:Value}{s:Nat}(i:w.heap[b]?=some (.cells cs.toArray t' (0,0)))(k:∀w,(sizeOf t).run P w=.ok s w)(g:v.cells.toList=vs)
 (j:vs.length=s) (hp:bA cs off vs cs') (h:vs.all pS=true):(storeVar t ⟨b,off,none⟩ v).run P w=.ok () (w.setRow b cs'.toArray):=by
 have a:=run_storeCells_at (P:=P) b off t' vs 0 cs.toArray w i (by have:=hp.le;simp;omega) (by intro u m;exact mD.1 h u m);have f:v.cells.size=s:=by rw[<-j,<-g];simp
 simp only[mA]at a;rw[hp.eq]at a;subst g;simp only[storeVar,Sem.run_bind,k,Result.andThen_ok,f];simpa using a
end
theorem n8{α:Type}{F:bk}{L:List Item}{m:Nat}{es:Array Event}{r:Result α}(h:dE F L m es):dE F L m (r.evThen es λ_ _ a=>a):=by cases r<;>exact h
section
variable {P:Program}{w:World}{b off:Nat}{cs:Array Value}{t':TypeId}{fr:Nat×Nat}{es:Array Event}{wr:Bool}
theorem Jb(f:w.heap[b]?=some (.cells cs t' fr))(a:eF b wr es):eF b wr ((load ⟨b,off,none⟩).events P w es):=by
 rw[events_load];split
 .exact a.push ⟨X,X,λh=>by cases h⟩
 .simp only[World.farLoad,f];exact a
theorem DZ:∀(n i:Nat)(acc:Array Value){w:World}{es:Array Event},w.heap[b]?=some (.cells cs t' fr)->eF b wr es->eF b wr ((loadCellsFrom ⟨b,off,none⟩ i n acc).events P w es)
 |0,i,acc,w,es,_,f=>by simpa[loadCellsFrom]using f
 |n+1,i,acc,w,es,a,f=>by
  have h:eF b wr ((load ⟨b,off+i,none⟩).events P w es):=Jb a f;simp only[loadCellsFrom,Sem.events_bind,ia]
  cases g:(load ⟨b,off+i,none⟩).run P w with
  |halt x w'=>exact h
  |ok v w'=>
   have:w'=w:=by
    cases j:w.cell? ⟨b,off+i,none⟩with
    |some u=>simp[j]at g;exact g.2.symm
    |none=>simp[load,Sem.run,j,World.farLoad,a]at g
   subst this;exact DZ n (i+1) _ a h
theorem qA{t:TypeId}(j:w.heap[b]?=some (.cells cs t' fr))(i:eF b wr es):eF b wr ((loadVar t ⟨b,off,none⟩).events P w es):=by
 unfold loadVar;simp only[Sem.events_bind,events_isAgg]
 cases f:(isAgg t).run P w with
 |halt x w'=>exact i
 |ok g w'=>
  have:w'=w:=by
   unfold isAgg at f;cases k:P.underlying t<;>simp[underlying,k]at f
   split at f<;>simp at f<;>exact f.2.symm
  subst this;simp only[Result.evThen_ok]
  cases g with
  |false=>simpa using Jb j i
  |true=>
   simp only[jX,Sem.events_bind,events_sizeOf]
   cases h:(sizeOf t).run P w' with
   |halt x a=>exact i
   |ok m a=>
    have:a=w':=by
     unfold sizeOf typeInfo at h;simp at h;split at h<;>simp at h
     exact h.2.symm
    subst this;simp only[Result.evThen_ok];have:=DZ (P:=P) (off:=off) m 0 #[] j i;cases o:(loadCells ⟨b,off,none⟩ m).run P a<;>simpa[loadCells]using this
theorem IC{w:World}{a:Addr}{v:Value}(f:w.heap[b]?=some (.cells cs t' fr)):∃cs',(w.setCell a v).heap[b]?=some (.cells cs' t' fr):=by
 unfold World.setCell;simp only[pA];by_cases e:a.block=b
 .subst e;simp[f]
 .rw[ck e];exact⟨cs,f⟩
theorem Sp{v:Value}(g:w.heap[b]?=some (.cells cs t' fr))(a:eF b true es):eF b true ((store ⟨b,off,none⟩ v).events P w es):=by
 by_cases f:v.oneCell'=true
 .rw[events_store P w es _ v _ f];split
  .split
   .exact a
   .exact a.push ⟨X,X,λ_=>rfl⟩
  .simp only[World.farStore,g];exact a
 .cases v<;>simp[Value.oneCell']at f<;>simpa[store,Sem.events,Sem.runT,-Sem.runT_eq]using a
theorem wO:∀(vs:List Value)(i:Nat){w:World}{cs:Array Value}{es:Array Event},w.heap[b]?=some (.cells cs t' fr)->eF b true es->eF b true ((storeCells ⟨b,off,none⟩ vs i).events P w es)
 |[],i,w,cs,es,_,g=>by simpa[storeCells]using g
 |v::vs,i,w,cs,es,f,g=>by
  have h:eF b true ((store ⟨b,off+i,none⟩ v).events P w es):=Sp f g;simp only[storeCells,Sem.events_bind,ia]
  cases a:(store ⟨b,off+i,none⟩ v).run P w with
  |halt x w'=>exact h
  |ok u w'=>
   have:∃cs',w'.heap[b]?=some (.cells cs' t' fr):=by
    by_cases k:v.oneCell'=true
    .rw[run_store P w _ v _ k]at a
     cases j:w.cell? ⟨b,off+i,none⟩with
     |some u=>
      simp only[j]at a;split at a
      .cases a
      .cases a;exact IC f
     |none=>simp only[j,World.farStore,f]at a;cases a
    .cases v<;>simp[Value.oneCell']at k<;>simp[store,Sem.run]at a
   obtain⟨cs',m⟩:=this;exact wO vs (i+1) m h
theorem D1{t:TypeId}{v:Value}(i:w.heap[b]?=some (.cells cs t' fr))(g:eF b true es):eF b true ((storeVar t ⟨b,off,none⟩ v).events P w es):=by
 unfold storeVar;simp only[Sem.events_bind,events_sizeOf]
 cases a:(sizeOf t).run P w with
 |halt x f=>exact g
 |ok m f=>
  have:f=w:=by
   unfold sizeOf typeInfo at a;simp at a;split at a<;>simp at a
   exact a.2.symm
  subst this;simp only[Result.evThen_ok];have:=wO (P:=P) (off:=off) v.cells.toList 0 i g;by_cases h:v.cells.size=m
  .simpa[h]using this
  .simpa[h]using g
end
theorem gb.setRow{F:bk}{L:List Item}{w:World}{b i:Nat}{f it':Item}{cs:Array Value}(g:L[i]?=some f)(hi:b∈f.bH)(m:it'.bH=f.bH):gb F L w F (L.set i it') (w.setRow b cs):=by
 refine⟨X,X,X,by simp[World.setRow],λc _ p=>?_,λc k=>?_,λb o j=>.inr (.inl (by rw[j];rfl))⟩
 .have:b≠c:=λe=>p (by subst e;exact fI (eN g) hi);simp only[World.setRow,pA,ck this]
 .obtain⟨x,q,a⟩:=pE.1 k;rcases kH q with h|h
  .exact .inl (fI h a)
  .exact .inl (fI (eN g) (by rw[<-m,<-h];exact a))
section
variable {P:Program}{C:Co P}{n:Fm}{w0:World}{ops:Array Oper}{Q:eC}{l:List Oper}{e:List (Nat×Value)}{F:bk}{L L':List Item}{v:Value}{dst:Option Nat}{d:Nat}{ty:TypeId}{pos:String}{aX:Array Edge}{gd:Option (Nat×Bool)}
theorem St.get{w:World}(h:St w0 F L w){i:Nat}{a:Item}(hi:L[i]?=some a):a.holds (World.hp w):=h.holds a (eN hi)
theorem Ev.load{x:Operand}{t:TypeId}{b off i:Nat}{cs:List Value}{t':TypeId}(j:ev e x=some (.pointer (some ⟨b,off,none⟩)))(f:L[i]?=some (.blk b cs t'))(k:∀w,(isAgg t).run P w=.ok false w)
 (m:bu cs off [v]):Ev P n w0 e F L ⟨dst,.load t x,ty,pos,aX,gd⟩ v:=λa w h o=>by
 have g:w.heap[b]?=some (.cells cs.toArray t' (0,0)):=o.get f;refine⟨by simp[execOp,h.eval j,Instr.loadAt,Instr.sureAddr,vB g k m],?_⟩;simp only[execOp,h.eval j,Instr.loadAt,Instr.sureAddr,Sem.events_bind,Sem.run_pure,Sem.events_pure,Result.evThen_ok];exact n8 ((qA g ks).reads (.inl (fI (eN f) (by simp[Item.bH]))))
theorem N1{x:Operand}{t:TypeId}{b off i s:Nat}{cs ch:List Value}{t':TypeId}(j:ev e x=some (.pointer (some ⟨b,off,none⟩)))(f:L[i]?=some (.blk b cs t'))(k:∀w,(isAgg t).run P w=.ok true w)
 (p:∀w,(sizeOf t).run P w=.ok s w) (o:ch.length=s) (m:bu cs off ch):Ev P n w0 e F L ⟨dst,.load t x,ty,pos,aX,gd⟩ (.agg ch.toArray):=λa w h q=>by
 have g:w.heap[b]?=some (.cells cs.toArray t' (0,0)):=q.get f;refine⟨by simp[execOp,h.eval j,Instr.loadAt,Instr.sureAddr,Ga g k p o m],?_⟩;simp only[execOp,h.eval j,Instr.loadAt,Instr.sureAddr,Sem.events_bind,Sem.run_pure,Sem.events_pure,Result.evThen_ok];exact n8 ((qA g ks).reads (.inl (fI (eN f) (by simp[Item.bH]))))
theorem kQ{L:List Item}{i:Nat}{x:Item}(h:L[i]?=some x):L=L.take i++x::L.drop (i+1):=by have hi:=(ff.1 h).1;have a:L[i]=x:=(ff.1 h).2;rw[<-a,<-jd hi,eD]
theorem kP{L:List Item}{i:Nat}{x y:Item}(h:L[i]?=some x):L.set i y=L.take i++y::L.drop (i+1):=by have hi:=(ff.1 h).1;rw[A1,ce hi]
theorem St.setRow{w:World}{b i:Nat}{f it':Item}{cs:List Value}(h:St w0 F L w)(j:L[i]?=some f)(hi:b∈f.bH)(m:it'.bH=f.bH)
 (a:∀g:Nat->Option Obj,(∀old t fr,w.heap[b]?=some (.cells old t fr)->g b=some (.cells cs.toArray t fr))->it'.holds g):St w0 F (L.set i it') (w.setRow b cs.toArray):=by
 rw[kP j];rw[kQ j]at h;refine h.change hi m _ (a _ λold t fr k=>?_);exact setRow_heap w b old cs.toArray t fr k
theorem a9.store{x y:Operand}{t:TypeId}{b off i s:Nat}{cs cs' vs:List Value}{t':TypeId}(H:gd=none)(f:dst=none)(A:ev e x=some (.pointer (some ⟨b,off,none⟩)))(B:ev e y=some v)(j:L[i]?=some (.blk b cs t'))
 (S:∀w,(sizeOf t).run P w=.ok s w) (T:v.cells.toList=vs) (K:vs.length=s) (D:vs.all pS=true) (hp:bA cs off vs cs') (m:L.set i (.blk b cs' t')=L')
 (k:a9 P n w0 ops Q l e F L'):a9 P n w0 ops Q (⟨dst,.store t x y,ty,pos,aX,gd⟩::l) e F L:=
 a9.unit H f λa w h q=>by
  subst m f;have o:w.heap[b]?=some (.cells cs.toArray t' (0,0)):=q.get j;have M:(execOp a.eval ⟨none,.store t x y,ty,pos,aX,gd⟩).run P w=.ok .skip (w.setRow b cs'.toArray):=by simp[execOp,h.eval A,h.eval B,Instr.storeAt,Instr.sureAddr,B2 o S T K hp D]
  refine⟨_,F,_,M,?_,gb.setRow (it':=.blk b cs' t') j (by simp[Item.bH]) X,q.setRow j (by simp[Item.bH]) X λg p=>p _ _ _ o,k⟩;simp only[execOp,h.eval A,h.eval B,Instr.storeAt,Instr.sureAddr,Sem.events_bind,Sem.run_pure,Sem.events_pure,Result.evThen_ok];exact n8 ((D1 o ks).lists (fI (eN j) (by simp[Item.bH])))
theorem a9.alloc{t:TypeId}{z:Value}{cs:List Value}(p:gd=none)(f:dst=some d)(q:d<n.n)(m:∀w,(zeroValue t).run P w=.ok z w)(o:z.cells=cs.toArray)
 (k:∀b,a9 P n w0 ops Q l ((d,.pointer (some ⟨b,0,none⟩))::e) F (.blk b cs t::L)):a9 P n w0 ops Q (⟨dst,.alloc t,ty,pos,aX,gd⟩::l) e F L:=
 lh p f q λa w h x=>by
  subst f;have s:(execOp a.eval ⟨some d,.alloc t,ty,pos,aX,gd⟩).run P w=.ok (.value (.pointer (some ⟨w.heap.size,0,none⟩))) {w with heap:=w.heap.push (.cells cs.toArray t)}:=by simp[execOp,Instr.alloc,m,newVar,newRow,o]
  exact⟨_,_,F,_,s,lK (by simp[execOp,Instr.alloc,m,newVar,newRow]),u6 (i:=.blk w.heap.size cs t) _ X,x.new _ X λg j=>j,k _⟩
theorem a9.box{t:TypeId}{x:Operand}{cs:List Value}(p:gd=none)(f:dst=some d)(q:d<n.n)(m:ev e x=some v)(o:v.cells=cs.toArray)
 (k:∀b,a9 P n w0 ops Q l ((d,.pointer (some ⟨b,0,none⟩))::e) F (.blk b cs t::L)):a9 P n w0 ops Q (⟨dst,.box t x,ty,pos,aX,gd⟩::l) e F L:=
 lh p f q λa w h y=>by
  subst f;have s:(execOp a.eval ⟨some d,.box t x,ty,pos,aX,gd⟩).run P w=.ok (.value (.pointer (some ⟨w.heap.size,0,none⟩))) {w with heap:=w.heap.push (.cells cs.toArray t)}:=by simp[execOp,Instr.box,h.eval m,newVar,newRow,o]
  exact⟨_,_,F,_,s,lK (by simp[execOp,Instr.box,h.eval m,newVar,newRow]),u6 (i:=.blk w.heap.size cs t) _ X,y.new _ X λg j=>j,k _⟩
def Rd{α:Type}[an α](w0:World)(F:bk)(L:List Item)(v:Sl)(xs:List α):Prop:=∀w,St w0 F L w->∃t fr,gX fr (World.hp w) v t (sz α) (I xs)
theorem Rd.own{α:Type}[an α]{v:Sl}{t:TypeId}{s:Nat}{cs:List Value}{xs:List α}{i:Nat}(a:L[i]?=some (.own v t s cs))(g:s=sz α)(f:cs=I xs):Rd w0 F L v xs:=λw h=>by subst g f;exact⟨t,_,h.get a⟩
theorem aY{α:Type}[an α]{v:Sl}{t:TypeId}{s:Nat}{cs:List Value}{xs:List α}(i:Nat)(a:L[i]?=some (.own v t s cs))(g:s=sz α)(f:cs=I xs):Rd w0 F L v xs:=Rd.own a g f
theorem Rd.mono{α:Type}[an α]{a:bk}{v:Sl}{xs:List α}(h:Rd w0 F L v xs)(f:cS F a)(g:L.Sublist L'):Rd w0 a L' v xs:=λw i=>h w ((i.weaken f).sublist g)
theorem Rd.nil{α:Type}[an α]:Rd (α:=α) w0 F L Sl.nil []:=λw _=>⟨0,(0,0),by simp[I,Sl.nil],by simp[Sl.nil],.inl ⟨X,X⟩⟩
theorem gX.len{fr:Nat×Nat}{α:Type}[an α](a:0<sz α){h:Nat->Option Obj}{v:Sl}{t:TypeId}{xs:List α}(f:gX fr h v t (sz α) (I xs)):v.len=xs.length:=by have:=f.1;rw[d7]at this;exact(Nat.eq_of_mul_eq_mul_right a this).symm
theorem Rd.blk{α:Type}[an α]{b off i n:Nat}{cs:List Value}{t:TypeId}{xs:List α}(g:L[i]?=some (.blk b cs t))(j:bu cs off (I xs))(k:xs.length=n)(a:n<=2^63-1):Rd w0 F L ⟨some ⟨b,off,none⟩,n,n⟩ xs:=λw o=>by obtain⟨A,B,f,m⟩:=j;have h:w.heap[b]?=some (.cells cs.toArray t (0,0)):=o.get g;subst k;exact⟨t,(0,0),d7 xs,a,.inr ⟨b,off,A,B,X,by rw[<-f];exact h,m,dO _,by rw[cr,d7];exact pt _ _⟩⟩
theorem Rd.le{α:Type}[an α](f:0<sz α){v:Sl}{xs:List α}(h:Rd w0 F L v xs):∀w,St w0 F L w->xs.length<=2^63-1:=λw g=>by obtain⟨_,_,a⟩:=h w g;rw[<-a.len f];exact a.2.1
def Sl.at(v:Sl)(k:Nat):Value:=match v.a with
 |some a=>.pointer (some ⟨a.block,a.off+k,none⟩)
 |none=>undef
theorem NU{α:Type}[an α]{x y:Operand}{t el:TypeId}{s:Sl}{xs:List α}{i:Int}{f:Nat}(A:ev e x=some s.v)(B:ev e y=some (.int .i64 i))(q:∀w,(underlying t).run P w=.ok (.slice el) w)
 (p:∀w,(sizeOf el).run P w=.ok f w) (K:f=sz α) (hp:0<sz α) (D:Rd w0 F L s xs) (j:0<=i) (hi:i<xs.length):Ev P n w0 e F L ⟨dst,.indexAddr t x y,ty,pos,aX,gd⟩ (s.at (i.toNat*f)):=λa w h H=>by
 subst K;obtain⟨_,_,m⟩:=D w H;have o:=m.len hp;rcases m.2.2 with⟨M,_⟩|⟨b,off,pre,post,k,_⟩
 .omega
 .have g:i<s.len:=by omega
  exact cK (by simp[execOp,h.eval A,h.eval B,Instr.indexAt,asIntOf,q,Sl.v,k,p,j,g,Sl.at,ia]) (by simp[execOp,h.eval A,h.eval B,Instr.indexAt,asIntOf,q,Sl.v,k,p,j,g,Sl.at,ia])
theorem gX.block{fr:Nat×Nat}{v:Sl}{t:TypeId}{s k:Nat}{xs ch:List Value}{w:World}(f:gX fr (World.hp w) v t s xs)(a:bu xs k ch)(m:0<ch.length):
 ∃b off cs fr,v.at k=.pointer (some ⟨b,off,none⟩)/\w.heap[b]?=some (.cells cs.toArray t fr)/\bu cs off ch:=by
 rcases f.2.2 with⟨g,_⟩|⟨b,off,pre,post,h,i,j,_⟩
 .have:=f.1;have:=a.le;rw[g]at*;omega
 .refine⟨b,off+k,_,_,by simp[Sl.at,h],i,?_⟩;exact bX j (eW a)
theorem Rd.touch{α:Type}[an α]{s:Sl}{xs:List α}{k b off:Nat}{ch:List Value}{w:World}(m:Rd w0 F L s xs)(o:St w0 F L w)(j:bu (I xs) k ch)(i:0<ch.length)(h:s.at k=.pointer (some ⟨b,off,none⟩)):b∈cu L\/(F b).isSome=true:=
 o.touch λw' f=>by obtain⟨p,off',cs,fr,a,g,_⟩:=(m w' f).choose_spec.choose_spec.block j i;rw[h]at a;simp only[Value.pointer.injEq,gU,Addr.mk.injEq]at a;obtain⟨rfl,_⟩:=a;exact⟨_,_,_,g⟩
theorem N2{α:Type}[an α]{x:Operand}{t:TypeId}{s:Sl}{xs:List α}{k:Nat}(o:ev e x=some (s.at k))(j:Rd w0 F L s xs)(q:∀w,(isAgg t).run P w=.ok false w)
 (i:bu (I xs) k [v]):Ev P n w0 e F L ⟨dst,.load t x,ty,pos,aX,gd⟩ v:=λa w h m=>by
 obtain⟨b,off,cs,fr,f,g,p⟩:=(j w m).choose_spec.choose_spec.block i (by simp);refine⟨by simp[execOp,h.eval o,f,Instr.loadAt,Instr.sureAddr,vB g q p],?_⟩;simp only[execOp,h.eval o,f,Instr.loadAt,Instr.sureAddr,Sem.events_bind,Sem.run_pure,Sem.events_pure,Result.evThen_ok];exact n8 ((qA g ks).reads (j.touch m i (by simp) f))
theorem N3{α:Type}[an α]{x:Operand}{t:TypeId}{s:Sl}{xs:List α}{ch:List Value}{k m:Nat}(p:ev e x=some (s.at k))(j:Rd w0 F L s xs)(y:∀w,(isAgg t).run P w=.ok true w)
 (B:∀w,(sizeOf t).run P w=.ok m w) (A:ch.length=m) (D:0<m) (i:bu (I xs) k ch):Ev P n w0 e F L ⟨dst,.load t x,ty,pos,aX,gd⟩ (.agg ch.toArray):=λa w h o=>by
 obtain⟨b,off,cs,fr,f,g,q⟩:=(j w o).choose_spec.choose_spec.block i O;refine⟨by simp[execOp,h.eval p,f,Instr.loadAt,Instr.sureAddr,Ga g y B A q],?_⟩;simp only[execOp,h.eval p,f,Instr.loadAt,Instr.sureAddr,Sem.events_bind,Sem.run_pure,Sem.events_pure,Result.evThen_ok];exact n8 ((qA g ks).reads (j.touch o i O f))
theorem NP{α:Type}[an α]{x:Operand}{t:TypeId}{s:Sl}{xs:List α}{k off f' m j:Nat}{q:Array Field}{f:Field}{ch:List Value}(D:ev e x=some (s.at off))(hr:Rd w0 F L s xs)(T:bu (I xs) off ch)(M:(ch.length==0)=false)
 (B:∀w,(underlying t).run P w=.ok (.struct q) w) (y:q[k]?=some f) (A:∀w,(sizeOf f.type).run P w=.ok m w) (H:(m==0)=false) (V:f.offset=j) (W:off+j=f'):
 Ev P n w0 e F L ⟨dst,.fieldAddr t x k,ty,pos,aX,gd⟩ (s.at f'):=λa w h hw=>by
 subst W V;have g:¬m=0:=by simpa using H
 have S:¬ch.length=0:=by simpa using M
 obtain⟨b,o,cs,fr,K,h2,h3⟩:=(hr w hw).choose_spec.choose_spec.block T O;have p:s.a=some ⟨b,o-off,none⟩\/s.a.isSome:=by
  right
  cases i:s.a with
  |none=>simp[Sl.at,i,undef]at K
  |some a=>rfl
 cases i:s.a with
 |none=>simp[i]at p
 |some ad=>exact cK (by simp[execOp,h.eval D,Sl.at,i,Instr.fieldAt,B,y,Instr.sureAddr,fieldPlace,A,g,ia]) (by simp[execOp,h.eval D,Sl.at,i,Instr.fieldAt,B,y,Instr.sureAddr,fieldPlace,A,g,ia])
structure LR(α:Type)where
 v:List α
 h:Sl
instance {α:Type}:an (LR α):=⟨λx=>enc x.h,1,λ_=>rfl,λ_=>rfl⟩
def LR.rel{α:Type}[an α](w0:World)(F:bk)(L:List Item)(x:LR α):Prop:=Rd w0 F L x.h x.v
theorem LR.mono{α:Type}[an α]{a:bk}{x:LR α}(h:LR.rel w0 F L x)(f:cS F a)(g:L.Sublist L'):LR.rel w0 a L' x:=Rd.mono h f g
def aL{ρ:Type}(rel:World->bk->List Item->ρ->Prop)(w0:World)(F:bk)(L:List Item)(rs:List ρ):Prop:=∀x∈rs,rel w0 F L x
theorem aL.nil{ρ:Type}{rel:World->bk->List Item->ρ->Prop}:aL rel w0 F L []:=λx a=>by simp at a
theorem aL.set{ρ:Type}{rel:World->bk->List Item->ρ->Prop}{rs:List ρ}{x:ρ}{i:Nat}(h:aL rel w0 F L rs)(f:rel w0 F L x):aL rel w0 F L (rs.set i x):=λy a=>by
 rcases kH a with a|rfl
 .exact h y a
 .exact f
theorem aL.rep{ρ:Type}{rel:World->bk->List Item->ρ->Prop}{x:ρ}{k:Nat}(a:rel w0 F L x):aL rel w0 F L (List.replicate k x):=λy f=>by rw[List.eq_of_mem_replicate f];exact a
theorem M9{α:Type}[an α]{a:bk}{rs:List (LR α)}(h:aL LR.rel w0 F L rs)(f:cS F a)(g:L.Sublist L'):aL LR.rel w0 a L' rs:=λx i=>LR.mono (h x i) f g
theorem l9{ρ α:Type}{f:ρ->α}{rs:List ρ}{xs:List α}(g:rs.map f=xs){i:Nat}{x:α}(a:xs[i]?=some x):∃r,rs[i]?=some r/\f r=x/\r∈rs:=by
 subst g;rw[kD]at a
 cases h:rs[i]? with
 |none=>rw[h]at a;cases a
 |some r=>rw[h]at a;exact⟨r,X,dF a,eN h⟩
theorem eO{ρ α:Type}{f:ρ->α}{rs:List ρ}{xs:List α}(a:rs.map f=xs):rs.length=xs.length:=by rw[<-a];simp
theorem map_set{ρ α:Type}{f:ρ->α}{rs:List ρ}{xs:List α}(a:rs.map f=xs)(i:Nat)(r:ρ):(rs.set i r).map f=xs.set i (f r):=by rw[<-a,ox]
theorem Kr{ρ α:Type}{f:ρ->α}(k:Nat)(r:ρ):(List.replicate k r).map f=List.replicate k (f r):=by simp
theorem Rd.frozen{α:Type}[an α]{a:bk}{v:Sl}{t:TypeId}{s:Nat}{cs:List Value}{xs:List α}(h:∀w,St w0 a [] w->(Item.own v t s cs).holds (World.hp w))(g:s=sz α)(f:cs=I xs):Rd w0 a [] v xs:=λw i=>by subst g f;exact⟨t,_,h w i⟩
def Sl.cut(s:Sl)(lo hi m:Nat):Sl:=⟨if s.cap=lo then s.a else s.a.map (·.add (lo*m)),hi-lo,s.cap-lo⟩
theorem gX.cut{fr:Nat×Nat}{h:Nat->Option Obj}{v:Sl}{t:TypeId}{m lo hi:Nat}{xs:List Value}(y:gX fr h v t m xs)(q:lo<=hi)(s:hi<=v.len):gX fr h (v.cut lo hi m) t m ((xs.drop (lo*m)).take ((hi-lo)*m)):=by
 obtain⟨A,B,o⟩:=y;have j:hi*m<=v.len*m:=oh m s;have x:lo*m<=hi*m:=oh m q;have k:(hi-lo)*m=hi*m-lo*m:=Nat.sub_mul _ _ _;refine⟨by simp[Sl.cut];omega,by simp only[Sl.cut];omega,?_⟩;rcases o with⟨a,f⟩|⟨b,off,pre,post,i,a,f,D,p⟩
 .left;simp only[Sl.cut];exact⟨by omega,by omega⟩
 .right;by_cases g:v.cap=lo
  .refine⟨b,off,pre,xs++post,by simp only[Sl.cut,ce g];exact i,?_,f,by simp only[Sl.cut];omega,?_⟩
   .have:(hi-lo)=0:=by omega
    rw[this];simpa using a
   .simp only[Sl.cut,g];simp
  .refine⟨b,off+lo*m,pre++xs.take (lo*m),(xs.drop (lo*m)).drop ((hi-lo)*m)++post,?_,?_,?_,?_,?_⟩
   .simp only[Sl.cut,ck g,i,mB,ia]
   .rw[a];congr 2;rw[f9,<-f9 (List.take ((hi-lo)*m) _),eD,<-f9 (List.take (lo*m) xs),eD]
   .simp[f];omega
   .simp only[Sl.cut];omega
   .simp only[Sl.cut,Nat.sub_mul];have:v.cap*m<=xs.length+post.length:=by simpa using p
    simp;omega
theorem Rd.cut{α:Type}[an α](g:0<sz α){v:Sl}{xs:List α}{lo hi:Nat}(h:Rd w0 F L v xs)(i:lo<=hi)(k:hi<=xs.length):Rd w0 F L (v.cut lo hi (sz α)) ((xs.drop lo).take (hi-lo)):=λw j=>by obtain⟨t,fr,a⟩:=h w j;have f:=a.len g;refine⟨t,fr,?_⟩;have:=a.cut (lo:=lo) (hi:=hi) i O;rwa[<-wM,<-uc]at this
theorem Qc{x y:Operand}{t el:TypeId}{s:Sl}{k i m es:Nat}{xs xs' vs:List Value}(hg:gd=none)(j:dst=none)(hx:ev e x=some (s.at k))(hy:ev e y=some v)(B:L[i]?=some (.own s el es xs))
 (hs:∀w,(sizeOf t).run P w=.ok m w) (hv:v.cells.toList=vs) (hl:vs.length=m) (h0:0<m) (h1:vs.all pS=true) (hp:bA xs k vs xs') (H:L.set i (.own s el es xs')=L')
 (kk:a9 P n w0 ops Q l e F L'):a9 P n w0 ops Q (⟨dst,.store t x y,ty,pos,aX,gd⟩::l) e F L:=
 a9.unit hg j λa w h W=>by
  subst H j;have D:gW (World.hp w) s el es xs:=W.get B;rcases D.2.2 with⟨g2,_⟩|⟨b,off,pre,post,K,T,V,p,M⟩
  .have:=D.1;have:=hp.le;rw[g2]at*;omega
  .have o:s.at k=.pointer (some ⟨b,off+k,none⟩):=by simp[Sl.at,K]
   have q:bA (pre++(xs++post)) (off+k) vs (pre++(xs'++post)):=bU V (eE hp);have A:(execOp a.eval ⟨none,.store t x y,ty,pos,aX,gd⟩).run P w=.ok .skip (w.setRow b (pre++(xs'++post)).toArray):=by simp[execOp,h.eval hx,h.eval hy,o,Instr.storeAt,Instr.sureAddr,B2 T hs hv hl q h1]
   have f:b∈(Item.own s el es xs).bH:=by simp[Item.bH,Sl.bH,K]
   refine⟨_,F,_,A,?_,gb.setRow (it':=.own s el es xs') B f X,W.setRow B f X λg S=>?_,kk⟩
   .simp only[execOp,h.eval hx,h.eval hy,o,Instr.storeAt,Instr.sureAddr,Sem.events_bind,Sem.run_pure,Sem.events_pure,Result.evThen_ok];exact n8 ((D1 T ks).lists (fI (eN B) f))
   .refine⟨by rw[hp.len];exact D.1,D.2.1,.inr ⟨b,off,pre,post,K,S _ _ _ T,V,p,?_⟩⟩;rw[cr,hp.len,<-cr];exact M
end
abbrev cC:=@M9
abbrev nE:=@aL.set
abbrev eL:=@NP
abbrev cp:=@NU
abbrev aI:=@Ev.load
abbrev dY:=@N1
abbrev dR:=@N2
abbrev ik:=@N3
abbrev dB:=@a9.alloc
abbrev fQ:=@a9.box
abbrev gN:=@Qc
abbrev mN:=@Rd.cut
abbrev oF:=@Rd.frozen
abbrev fT:=@Rd.le
abbrev j3:=@Rd.nil
abbrev nB:=@Rd.own
abbrev u7:=@gb.setRow
