/-
  A frame for walks: what a piece of code does, said over all acts and worlds that fit a list of slots and a list of owned blocks.
-/
import Derived.WalkSpells
import Derived.WalkLawsBesides
import Derived.Lib.Hide
import Derived.Deep.Quiet
import Derived.StillTail
namespace Go.Proofs.YteagbdjohkfneaaGreatDoor
open Go.RowKit
abbrev ny:=@Array.ext'
abbrev GJ:=@Array.ext_getElem?
abbrev Ch:=@BitVec.getLsbD_or
abbrev qu:=@List.mem_or_eq_of_mem_set
abbrev pp:=@List.mem_range
abbrev tD:=@List.mem_replicate
abbrev ia:=@List.mem_singleton
abbrev pq:=@List.nil_append
abbrev vu:=@List.nodup_append
abbrev GK:=@List.pairwise_append
abbrev yW:=@List.pairwise_cons
abbrev tE:=@List.range_succ
abbrev GL:=@List.replicate_succ
abbrev vv:=@BitVec.ofNat_eq_ofNat
abbrev yX:=@List.set_eq_take_append_cons_drop
abbrev li:=@List.set_set
abbrev tF:=@List.size_toArray
abbrev mN:=@List.take_add_one
abbrev eQ:=@List.take_append_drop
abbrev GM:=@List.take_append_of_le_length
abbrev vw:=@List.take_left'
abbrev vx:=@List.take_length
abbrev gN:=@List.take_of_length_le
abbrev yY:=@Nat.add_assoc
abbrev rL:=@BitVec.toNat_and
abbrev yZ:=@Nat.add_comm
abbrev nA:=@Nat.add_mul
abbrev za:=@Nat.add_sub_cancel_left
abbrev lj:=@Nat.add_zero
abbrev Ci:=@Nat.and_one_is_mod
abbrev GO:=@Nat.and_two_pow_sub_one_eq_mod
abbrev zb:=@Nat.div_eq_of_lt
abbrev rM:=@Nat.eq_zero_or_pos
abbrev oB:=@Nat.le_add_right
abbrev dG:=@Nat.le_refl
abbrev rN:=@BitVec.toNat_ofInt
abbrev kC:=@Nat.le_trans
abbrev pr:=@Nat.lt_or_ge
abbrev zc:=@Nat.lt_succ_self
abbrev qv:=@Nat.lt_trichotomy
abbrev ir:=@Nat.min_eq_left
abbrev kO:=@Nat.mod_eq_of_lt
abbrev tG:=@Nat.mod_lt
abbrev vy:=@Nat.mul_comm
abbrev Cj:=@Nat.mul_eq_zero
abbrev tH:=@Nat.mul_le_mul
abbrev kP:=@BitVec.toNat_ofNat
abbrev pt:=@Nat.mul_le_mul_right
abbrev lN:=@Nat.pow_le_pow_right
abbrev pu:=@Nat.pow_succ
abbrev pw:=@Nat.shiftRight_eq_div_pow
abbrev px:=@Nat.sub_zero
abbrev oC:=@Nat.succ_mul
abbrev gF:=@Nat.zero_add
abbrev kQ:=@Nat.zero_le
abbrev vz:=@Nat.zero_mul
abbrev Cl:=@Option.bind_eq_some_iff
abbrev vA:=@BitVec.toNat_umod
abbrev lk:=@Option.bind_some
abbrev zd:=@Option.getD_some
abbrev Cm:=@Option.isSome_none
abbrev Cn:=@Option.isSome_some
abbrev tI:=@Option.map_some
abbrev dp:=@Option.some.inj
abbrev mi:=@Option.some.injEq
abbrev Co:=@Option.toList_some
abbrev gu:=@Prod.ext
abbrev rO:=@Prod.mk.injEq
abbrev py:=@BitVec.toNat_ushiftRight
abbrev rP:=@Vector.ext
abbrev Cp:=@Vector.getElem_ofFn
abbrev qw:=@Vector.getElem_replicate
abbrev mO:=@Vector.getElem_setIfInBounds_ne
abbrev pz:=@Vector.getElem_setIfInBounds_self
abbrev Cq:=@Vector.toList_setIfInBounds
abbrev ll:=@beq_eq_false_iff_ne
abbrev gO:=@beq_iff_eq
abbrev mP:=@beq_self_eq_true
abbrev vB:=@bne_iff_ne
abbrev oD:=@Bool.and_eq_false_iff
abbrev iW:=@bne_self_eq_false
abbrev rQ:=@cond_false
abbrev pA:=@cond_true
abbrev cX:=@decide_eq_false
abbrev lm:=@decide_eq_false_iff_not
abbrev dc:=@decide_eq_true
abbrev eW:=@decide_eq_true_eq
abbrev ze:=@decide_false
abbrev ca:=@if_neg
abbrev bE:=@if_pos
abbrev eu:=@Bool.and_eq_true
abbrev ln:=@of_decide_eq_false
abbrev j5:=@of_decide_eq_true
abbrev zf:=@Bool.and_false
abbrev Cr:=@Array.getD_eq_getD_getElem?
abbrev je:=@Bool.and_self
abbrev Cs:=@Bool.and_true
abbrev GQ:=@Bool.cond_false_right
abbrev zg:=@Bool.cond_true_left
abbrev rR:=@Bool.eq_false_iff
abbrev ew:=@Bool.eq_iff_iff
abbrev zh:=@Bool.false_eq_true
abbrev Ct:=@Bool.false_or
abbrev rS:=@Bool.not_eq_true'
abbrev lO:=@Bool.not_false
abbrev GR:=@Array.getElem?_append_left
abbrev fX:=@Bool.not_true
abbrev zi:=@Bool.or_eq_false_iff
abbrev mQ:=@Bool.or_eq_true
abbrev zj:=@Bool.or_false
abbrev oE:=@Bool.or_self
abbrev kR:=@Bool.true_and
abbrev Cu:=@Int.eq_ofNat_of_zero_le
abbrev jz:=@Int.le_refl
abbrev mR:=@Int.natCast_inj
abbrev lp:=@Int.toNat_natCast
abbrev lP:=@Array.getElem?_eq_some_iff
abbrev GS:=@Int.toNat_of_nonneg
abbrev jf:=@List.all_append
abbrev nB:=@List.all_cons
abbrev lQ:=@List.all_eq_true
abbrev zk:=@List.any_eq_true
abbrev fL:=@List.append_assoc
abbrev is:=@List.append_nil
abbrev rT:=@List.cons_append
abbrev Cv:=@List.drop_append
abbrev nC:=@List.drop_drop
abbrev vC:=@Array.getElem?_modify
abbrev jg:=@List.drop_eq_getElem_cons
abbrev Cw:=@List.drop_left'
abbrev ie:=@List.drop_of_length_le
abbrev eX:=@List.drop_zero
abbrev GT:=@List.eraseIdx_eq_take_drop_succ
abbrev GU:=@List.eraseIdx_sublist
abbrev pB:=@List.ext_getElem?
abbrev tJ:=@List.filter_append
abbrev Cx:=@List.findIdx?_cons
abbrev GV:=@List.findIdx?_eq_some_iff_getElem
abbrev vD:=@BitVec.eq_of_getLsbD_eq
abbrev GW:=@List.flatMap_append
abbrev Cy:=@List.flatMap_cons
abbrev it:=@List.getElem?_append_left
abbrev lR:=@List.getElem?_append_right
abbrev tK:=@List.getElem?_drop
abbrev gG:=@List.getElem?_eq_getElem
abbrev jA:=@List.getElem?_eq_none
abbrev GX:=@List.getElem?_eq_none_iff
abbrev eO:=@List.getElem?_eq_some_iff
abbrev jh:=@List.getElem?_map
abbrev nD:=@BitVec.eq_of_toNat_eq
abbrev ji:=@List.getElem?_of_mem
abbrev iu:=@List.getElem?_set_ne
abbrev fY:=@List.getElem?_set_self
abbrev tL:=@List.getElem?_take
abbrev Cz:=@List.getElem?_take_of_lt
abbrev j6:=@List.getElem_mem
abbrev cH:=@List.length_append
abbrev eB:=@List.length_cons
abbrev ig:=@List.length_drop
abbrev pC:=@List.length_eq_zero_iff
abbrev tM:=@BitVec.getLsbD_and
abbrev fk:=@List.length_map
abbrev iX:=@List.length_nil
abbrev pD:=@List.length_replicate
abbrev qx:=@List.length_set
abbrev fE:=@List.length_take
abbrev kS:=@List.map_append
abbrev lS:=@List.map_cons
abbrev tN:=@List.map_set
abbrev fx:=@List.mem_append
abbrev vE:=@List.mem_append_left
abbrev zl:=@BitVec.getLsbD_not
abbrev fM:=@List.mem_cons
abbrev j7:=@List.mem_cons_of_mem
abbrev mj:=@List.mem_cons_self
abbrev zm:=@List.mem_filter
abbrev CA:=@List.mem_flatMap
abbrev mS:=@List.mem_map
abbrev zn:=@List.mem_map_of_mem
abbrev j8:=@List.mem_of_getElem?
abbrev pE:=@List.mem_of_mem_drop
abbrev pF:=@List.mem_of_mem_take
theorem X{α:Sort _}{a:α}:a=a:=rfl
theorem O{p:Prop}(h:p:=by omega):p:=h
theorem ab{p:Prop}(h:p:=by decide):p:=h
theorem cy:True:=trivial
abbrev pv(b o:Nat):Value:=.pointer (some ⟨b,o,none⟩)
abbrev iv(i:Int):Value:=.int .i64 i
def look:List (Nat×Value)->Nat->Option Value
 |[],_=>none
 |(k,v)::e,t=>bif k==t then some v else look e t
def ev(e:List (Nat×Value)):Operand->Option Value
 |.tmp t=>look e t
 |.const v=>some v
 |.global g=>some (.pointer (some ⟨g,0,none⟩))
 |.func f=>some (.func (.func f) #[] #[])
structure Fm where
 n:Nat
 ds:List Deferred
theorem oF{d:Nat}{n:Fm}(h:Nat.ble (d+1) n.n=true):d<n.n:=Nat.le_of_ble_eq_true h
structure fU(n:Fm)(a:Act)(e:List (Nat×Value)):Prop where
 defers:a.defers=n.ds
 size:a.tmps.size=n.n
 get:∀t v,look e t=some v->a.tmps[t]?=some v
theorem fU.eval{n:Fm}{a:Act}{e:List (Nat×Value)}(h:fU n a e){x:Operand}{v:Value}(d:ev e x=some v):a.eval x=v:=by
 cases x with
 |tmp t=>have:=h.get t v d;simp only[Act.eval,Cr,this,zd]
 |const i=>simpa[ev,Act.eval]using d
 |global g=>simpa[ev,Act.eval]using d
 |func f=>simpa[ev,Act.eval]using d
theorem fU.put{n:Fm}{a:Act}{e:List (Nat×Value)}(h:fU n a e){d:Nat}(hd:d<n.n)(v:Value):fU n (a.put (some d) v) ((d,v)::e):=by
 refine⟨h.defers,by simp[Act.put,h.size],λt u f=>?_⟩;simp only[look]at f;by_cases g:d=t
 .subst g;simp only[mP,pA,mi]at f;subst f;simp[Act.put,h.size,hd]
 .have:(d==t)=false:=by simpa using g
  rw[this,rQ]at f;simp only[Act.put,Array.getElem?_setIfInBounds,ca g];exact h.get t u f
def sub(e:List (Nat×Value)):List (Nat×Value)->Prop
 |[]=>True
 |(k,v)::r=>look e k=some v/\sub e r
theorem sub.look{e:List (Nat×Value)}:∀{e':List (Nat×Value)},sub e e'->∀t v,look e' t=some v->look e t=some v
 |[],_,t,v,h=>by simp[YteagbdjohkfneaaGreatDoor.look]at h
 |(k,u)::r,⟨d,f⟩,t,v,h=>by
  simp only[YteagbdjohkfneaaGreatDoor.look]at h;by_cases a:k=t
  .subst a;simp only[mP,pA,mi]at h;subst h;exact d
  .have:(k==t)=false:=by simpa using a
   rw[this,rQ]at h;exact sub.look f t v h
theorem fU.sub{n:Fm}{a:Act}{e e':List (Nat×Value)}(h:fU n a e)(d:YteagbdjohkfneaaGreatDoor.sub e e'):fU n a e':=
 ⟨h.defers,h.size,λt v f=>h.get t v (d.look t v f)⟩
def iU(e:List (Nat×Value)):List Operand->List Value->Prop
 |[],[]=>True
 |x::xs,v::vs=>ev e x=some v/\iU e xs vs
 |_,_=>False
theorem fU.yk{n:Fm}{a:Act}{e:List (Nat×Value)}(h:fU n a e):∀{xs:List Operand}{vs:List Value},iU e xs vs->xs.map a.eval=vs
 |[],[],_=>rfl
 |x::xs,v::vs,⟨d,f⟩=>by rw[lS,h.eval d,h.yk f]
 |[],_::_,h=>h.elim
 |_::_,[],h=>h.elim
abbrev bM:=Nat->Option Obj
structure Sl where
 a:Option Addr
 len:Nat
 cap:Nat
def Sl.v(s:Sl):Value:=.slice s.a s.len s.cap
def Sl.nil:Sl:=⟨none,0,0⟩
inductive Item where
 |ak (b:Nat) (cs:List Value) (t:TypeId)
 |own (v:Sl) (t:TypeId) (s:Nat) (xs:List Value)
 |gen (fs:List Nat) (p:(Nat->Option Obj)->Prop)
 |obj (b:Nat) (o:Obj)
def jk(a:Nat×Nat)(h:Nat->Option Obj)(v:Sl)(t:TypeId)(s:Nat)(xs:List Value):Prop:=
 xs.length=v.len*s/\v.len<=2^63-1/\((v.len=0/\v.cap=0)\/
  ∃b off pre post,v.a=some ⟨b,off,none⟩/\h b=some (.cells (pre++(xs++post)).toArray t a)/\pre.length=off/\v.len<=v.cap/\v.cap*s<=(xs++post).length)
abbrev jj(h:Nat->Option Obj)(v:Sl)(t:TypeId)(s:Nat)(xs:List Value):Prop:=jk (0,0) h v t s xs
def Item.holds(h:Nat->Option Obj):Item->Prop
 |.ak b cs t=>h b=some (.cells cs.toArray t (0,0))
 |.own v t s xs=>jj h v t s xs
 |.gen a p=>p (λb=>if b∈a then h b else none)
 |.obj b o=>h b=some o
def Sl.df(v:Sl):List Nat:=(v.a.map (·.block)).toList
def Item.df:Item->List Nat
 |.ak b _ _=>[b]
 |.own v _ _ _=>v.df
 |.gen a _=>a
 |.obj b _=>[b]
theorem G4{a:Nat×Nat}{h d:Nat->Option Obj}{v:Sl}{t:TypeId}{s:Nat}{xs:List Value}(l:∀b∈v.df,d b=h b)(hi:jk a h v t s xs):jk a d v t s xs:=by obtain⟨f,g,i⟩:=hi;refine⟨f,g,i.imp id ?_⟩;rintro⟨b,off,pre,post,e,j,k⟩;exact⟨b,off,pre,post,e,by rw[l b (by simp[Sl.df,e])];exact j,k⟩
theorem uW{h f:Nat->Option Obj}{i:Item}(a:∀b∈i.df,f b=h b)(hi:i.holds h):i.holds f:=by
 cases i with
 |ak b cs t=>simpa[Item.holds,a b (by simp[Item.df])]using hi
 |obj b o=>simpa[Item.holds,a b (by simp[Item.df])]using hi
 |own v t s xs=>exact G4 a hi
 |gen d p=>
  have e:(λb=>if b∈d then f b else none)=λb=>if b∈d then h b else none:=by
   funext b;by_cases m:b∈d
   .simp[m,a b m]
   .simp[m]
  simp only[Item.holds,e];exact hi
def World.hp(w:World):Nat->Option Obj:=λb=>w.heap[b]?
def gp(L:List Item):List Nat:=L.flatMap Item.df
structure St(w0:World)(F:bM)(L:List Item)(w:World):Prop where
 below:Below w0.heap.size w0 w
 kv:∀b o,F b=some o->w.heap[b]?=some o
 apart:∀b∈gp L,w0.heap.size<=b/\b<w.heap.size/\F b=none
 holds:∀i∈L,i.holds (World.hp w)
 nodup:(gp L).Nodup
def dC(F a:bM):Prop:=∀b o,F b=some o->a b=some o
theorem dC.refl(F:bM):dC F F:=λ_ _ h=>h
theorem fl{F:bM}:dC F F:=λ_ _ h=>h
theorem dC.trans{F a H:bM}(h:dC F a)(k:dC a H):dC F H:=λb o d=>k b o (h b o d)
theorem dC.none{F a:bM}(h:dC F a){b:Nat}(d:a b=none):F b=none:=by
 cases e:F b with
 |none=>rfl
 |some o=>rw[h b o e]at d;cases d
theorem St.weaken{w0:World}{F d:bM}{L:List Item}{w:World}(h:St w0 d L w)(e:dC F d):St w0 F L w:=
 ⟨h.below,λb o a=>h.kv b o (e b o a),λb a=>⟨(h.apart b a).1,(h.apart b a).2.1,e.none (h.apart b a).2.2⟩,h.holds,h.nodup⟩
theorem pi(L M:List Item):gp (L++M)=gp L++gp M:=by simp[gp]
theorem gM(i:Item)(L:List Item):gp (i::L)=i.df++gp L:=by simp[gp]
theorem tT{i:Item}{L:List Item}{b:Nat}(hi:i∈L)(a:b∈i.df):b∈gp L:=CA.2 ⟨i,hi,a⟩
theorem Va{L L':List Item}(h:L'.Sublist L):(gp L').Sublist (gp L):=by
 induction h with
 |slnil=>exact List.Sublist.refl _
 |cons a _ d=>rw[gM];exact d.trans (List.sublist_append_right _ _)
 |cons_cons a _ d=>rw[gM,gM];exact List.Sublist.append (List.Sublist.refl _) d
theorem St.sublist{w0:World}{F:bM}{L L':List Item}{w:World}(h:St w0 F L w)(d:L'.Sublist L):St w0 F L' w:=by have a:(gp L').Sublist (gp L):=Va d;exact⟨h.below,h.kv,λb e=>h.apart b (a.subset e),λi hi=>h.holds i (d.subset hi),h.nodup.sublist a⟩
theorem St.drew{w0:World}{F:bM}{L:List Item}{w:World}(h:St w0 F L w):St w0 F L {w with drawn:=w.drawn+1}:=
 ⟨Below.drew h.below,h.kv,h.apart,h.holds,h.nodup⟩
theorem St.new{w0:World}{F:bM}{L:List Item}{w:World}(h:St w0 F L w)(o:Obj){i:Item}(k:i.df=[w.heap.size])(hi:∀g:Nat->Option Obj,g w.heap.size=some o->i.holds g):
 St w0 F (i::L) {w with heap:=w.heap.push o}:=by
 refine⟨Below.alloc h.below h.below.size o,λb f a=>?_,λb a=>?_,λj d=>?_,?_⟩
 .have:=h.kv b f a;have l:b<w.heap.size:=(lP.1 this).1;show(w.heap.push o)[b]?=some f;rw[Array.getElem?_push,ca (by omega)];exact this
 .rw[gM,k]at a;rcases fx.1 a with a|a
  .simp only[ia]at a;subst a;refine⟨h.below.size,by simp,?_⟩
   cases e:F w.heap.size with
   |none=>rfl
   |some f=>have:=(lP.1 (h.kv _ _ e)).1;omega
  .have:=h.apart b a;exact⟨this.1,by simp;omega,this.2.2⟩
 .rcases fM.1 d with rfl|d
  .exact hi _ (by simp[World.hp])
  .refine uW (λb a=>?_) (h.holds j d);have:=(h.apart b (tT d a)).2.1;simp only[World.hp,Array.getElem?_push];rw[ca (by omega)]
 .rw[gM,k];refine List.nodup_cons.2 ⟨λm=>?_,h.nodup⟩;have:=(h.apart _ m).2.1;omega
theorem St.change{w0:World}{F:bM}{L M:List Item}{w:World}{i j:Item}{b:Nat}(h:St w0 F (L++i::M) w)(hi:b∈i.df)(z:j.df=i.df)(f:Obj->Obj)
 (s:j.holds (World.hp {w with heap:=w.heap.modify b f})):St w0 F (L++j::M) {w with heap:=w.heap.modify b f}:=by
 have n:b∈gp (L++i::M):=by rw[pi,gM];simp[hi]
 have y:=h.apart b n;have a:∀c,c≠b->(w.heap.modify b f)[c]?=w.heap[c]?:=λc d=>by rw[vC,ca (by omega)]
 have g:gp (L++j::M)=gp (L++i::M):=by rw[pi,pi,gM,gM,z]
 refine⟨?_,λc o d=>?_,λc d=>?_,λk m=>?_,by rw[g];exact h.nodup⟩
 .exact h.below.trans ⟨rfl,rfl,rfl,by simp,λk m=>a k (by omega)⟩
 .show(w.heap.modify b f)[c]?=some o;rw[a c (λe=>by subst e;rw[y.2.2]at d;cases d)];exact h.kv c o d
 .rw[g]at d;have:=h.apart c d;exact⟨this.1,by simpa using this.2.1,this.2.2⟩
 .have p:=h.nodup;rw[pi,gM]at p;have t:=vu.1 p;have x:=vu.1 t.2.1;have q:∀k',(k'∈L\/k'∈M)->∀c∈k'.df,c≠b:=by
   intro k' l c d e;subst e;rcases l with l|l
   .exact t.2.2 c (tT l d) c (vE _ hi) rfl
   .exact x.2.2 c hi c (tT l d) rfl
  rcases fx.1 m with m|m
  .exact uW (λc d=>a c (q k (.inl m) c d)) (h.holds k (by simp[m]))
  .rcases fM.1 m with rfl|m
   .exact s
   .exact uW (λc d=>a c (q k (.inr m) c d)) (h.holds k (by simp[m]))
theorem U8{L L':List Item}(h:L.Perm L'):(gp L).Perm (gp L'):=by
 induction h with
 |nil=>exact List.Perm.refl _
 |cons a _ f=>rw[gM,gM];exact f.append_left _
 |swap a b l=>rw[gM,gM,gM,gM,<-fL,<-fL];exact List.perm_append_comm.append_right _
 |trans _ _ d e=>exact d.trans e
theorem St.perm{w0:World}{F:bM}{L L':List Item}{w:World}(h:St w0 F L w)(hp:L.Perm L'):St w0 F L' w:=by have a:(gp L).Perm (gp L'):=U8 hp;exact⟨h.below,h.kv,λb d=>h.apart b (a.mem_iff.2 d),λi hi=>h.holds i (hp.mem_iff.2 hi),a.nodup_iff.1 h.nodup⟩
theorem St.freeze{w0:World}{F:bM}{L:List Item}{w:World}{i:Nat}{d:Item}(h:St w0 F L w)(q:L[i]?=some d):∃p,dC F p/\St w0 p (L.eraseIdx i) w/\∀y,St w0 p [] y->d.holds (World.hp y):=by
 have t:=h.holds d (j8 q);have hi:=(eO.1 q).1;have A:L[i]=d:=(eO.1 q).2;have k:(d::L.eraseIdx i).Perm L:=by
  have e:L=L.take i++d::L.drop (i+1):=by rw[<-A,<-jg hi,eQ]
  rw[GT];exact List.perm_middle.symm.trans (by rw[<-e])
 have l:=h.perm k.symm;have n:=l.nodup;rw[gM]at n;have f:=vu.1 n;refine⟨λc=>if c∈d.df then w.heap[c]? else F c,λc o a=>?_,⟨h.below,λc o a=>?_,λc a=>?_,λj z=>l.holds j (j7 _ z),f.2.1⟩,λy x=>?_⟩
 .by_cases e:c∈d.df
  .have s:=l.apart c (by rw[gM];exact vE _ e);rw[s.2.2]at a;cases a
  .simp only[ca e];exact a
 .by_cases e:c∈d.df
  .simpa[e]using a
  .simp only[ca e]at a;exact h.kv c o a
 .have g:=l.apart c (by rw[gM];exact List.mem_append_right _ a);refine⟨g.1,g.2.1,?_⟩;have e:c ∉ d.df:=λe=>f.2.2 c e c a rfl;simp only[ca e];exact g.2.2
 .refine uW (λc a=>?_) t;have s:=l.apart c (by rw[gM];exact vE _ a);have m:=s.2.1;have:=x.kv c w.heap[c] (by simp[a,m]);simp only[World.hp,this];simp[m]
abbrev nO:=@dC.refl
section
variable (P:Program)(n:Fm)(w0:World)
def br(ops:Array Oper)(Q:Exit->Act->World->Prop)(l:List Oper)(e:List (Nat×Value))(F:bM)(L:List Item):Prop:=
 ∀a w,fU n a e->St w0 F L w->wpList P ops Q l a w
def Cd(Q:Exit->Act->World->Prop)(c:Code)(e:List (Nat×Value))(F:bM)(L:List Item):Prop:=
 ∀a w,fU n a e->St w0 F L w->c.wp P Q a w
def At(Q:Exit->Act->World->Prop)(x:Exit)(e:List (Nat×Value))(F:bM)(L:List Item):Prop:=
 ∀a w,fU n a e->St w0 F L w->Q x a w
def Qt(ops:Array Oper)(K:Act->Prop)(l:List Oper)(e:List (Nat×Value))(F:bM)(L:List Item):Prop:=
 ∀a,fU n a e->wpQuiet P ops (St w0 F L) K l a
def Ev(e:List (Nat×Value))(F:bM)(L:List Item)(o:Oper)(v:Value):Prop:=
 ∀a w,fU n a e->St w0 F L w->(execOp a.eval o).run P w=.ok (.value v) w
end
theorem adg{P:Program}{Q:Exit->Act->World->Prop}{a:Act}{w:World}{c:Code}(J:Nat->Act->World->Prop)(m:Nat)(T:J m a w)
 (s:∀m a w,J m a w->c.wp P (Exit.then (λt y=>∃H,H<m/\J H t y) Q) a w):(Code.loop c).wp P Q a w:=by
 intro b k cs;have S:∀m a w,J m a w->∃e t y,Q e t y/\Arrives P (lone (b.at a (.code c::.inLoop c::k)) cs w) b k cs e t y:=by
  intro m
  induction m using Nat.strongRecOn with
  |_ m W=>
   intro a w V;obtain⟨e,g,h,j,f⟩:=s m a w V b (.inLoop c::k) cs
   cases e with
   |normal=>obtain⟨H,M,p⟩:=j;obtain⟨C,z,D,q,i⟩:=W H M g h p;exact⟨C,z,D,q,.of_steps (Steps.trans f (.one step_inLoop)) i⟩
   |exit id=>exact⟨_,g,h,j,.pass (x:=.inLoop c) X (λ_ _=>.inl (by simp)) f⟩
   |goto l=>exact⟨_,g,h,j,.pass (x:=.inLoop c) X (λ_ _=>.inl (by simp)) f⟩
   |ret=>exact⟨_,g,h,j,.pass (x:=.inLoop c) X (λ_ _=>.inl (by simp)) f⟩
   |panic ch=>exact⟨_,g,h,j,.pass (x:=.inLoop c) X (λ_ _=>.inl (by simp)) f⟩
   |outgrown=>exact⟨_,g,h,j,.pass (x:=.inLoop c) X (λ_ _=>.inl (by simp)) f⟩
 obtain⟨e,t,y,j,f⟩:=S m a w T;exact⟨e,t,y,j,.of_steps (.one step_loop) f⟩
section
variable {P:Program}{n:Fm}{w0:World}{ops:Array Oper}{Q:Exit->Act->World->Prop}{K:Act->Prop}{l:List Oper}{e:List (Nat×Value)}{F:bM}{L:List Item}{o:Oper}{v:Value}{d:Nat}
theorem br.nil(h:At n w0 Q .normal e F L):br P n w0 ops Q [] e F L:=λa w f g=>h a w f g
theorem Jj(g:o.guard=none)(h:∀a w,fU n a e->St w0 F L w->o.wp P a w (wpList P ops Q l) Q):br P n w0 ops Q (o::l) e F L:=by intro a w f i;unfold wpList;rw[bE (by simp[Region.wanted,g])];exact .inl (h a w f i)
theorem br.run(i:o.guard=none)(hd:o.dst=some d)(j:d<n.n)(h:Ev P n w0 e F L o v)(k:br P n w0 ops Q l ((d,v)::e) F L):br P n w0 ops Q (o::l) e F L:=
 Jj i λa w f g=>by unfold Oper.wp;rw[h a w f g,Oper.upon_value,hd];exact k _ w (f.put j v) g
theorem adi{j:Nat}{t:Nat}{b:Bool}{a:Act}(f:fU n a e)(g:(ops[j]?).bind (·.dst)=some t)(h:look e t=some (.bool b)):yielded ops a.tmps j=some b:=by unfold yielded;rw[g,lk,f.get t _ h]
theorem sF{j:Nat}{f:Bool}{t:Nat}{b:Bool}{a:Act}(g:fU n a e)(h:o.guard=some (j,f))(i:(ops[j]?).bind (·.dst)=some t)(k:look e t=some (.bool b)):
 Region.wanted o (yielded ops a.tmps)=(b==f):=by
 unfold Region.wanted;simp only[h];rw[adi g i k];cases b<;>cases f<;>rfl
theorem Sd{j:Nat}{f:Bool}{t:Nat}{b:Bool}(p:o.guard=some (j,f))(q:(ops[j]?).bind (·.dst)=some t)(x:look e t=some (.bool b))(m:b=f)
 (hd:o.dst=some d) (s:d<n.n) (h:Ev P n w0 e F L o v) (k:br P n w0 ops Q l ((d,v)::e) F L):br P n w0 ops Q (o::l) e F L:=by
 intro a w g i;unfold wpList;rw[bE (by rw[sF g p q x,m];simp)];refine .inl ?_;unfold Oper.wp;rw[h a w g i,Oper.upon_value,hd];exact k _ w (g.put s v) i
theorem br.skip{j:Nat}{f:Bool}{t:Nat}{b:Bool}(i:o.guard=some (j,f))(m:(ops[j]?).bind (·.dst)=some t)(q:look e t=some (.bool b))(h:b=!f)
 (hd:o.dst=some d) (p:d<n.n) (k:br P n w0 ops Q l ((d,undef)::e) F L):br P n w0 ops Q (o::l) e F L:=by
 intro a w g s;unfold wpList;rw[ca (by rw[sF g i m q,h];cases f<;>simp),hd];exact k _ w (g.put p undef) s
theorem OF{j:Nat}{f:Bool}{t:Nat}{a:Act}(g:fU n a e)(h:o.guard=some (j,f))(i:(ops[j]?).bind (·.dst)=some t)(k:look e t=some undef):Region.wanted o (yielded ops a.tmps)=false:=by unfold Region.wanted;simp only[h];unfold yielded;rw[i,lk,g.get t _ k];rfl
theorem Se{j:Nat}{f:Bool}{t:Nat}(h:o.guard=some (j,f))(i:(ops[j]?).bind (·.dst)=some t)(p:look e t=some undef)
 (hd:o.dst=some d) (m:d<n.n) (k:br P n w0 ops Q l ((d,undef)::e) F L):br P n w0 ops Q (o::l) e F L:=by
 intro a w g q;unfold wpList;rw[ca (by rw[OF g h i p];simp),hd];exact k _ w (g.put m undef) q
theorem aef{j:Nat}{f:Bool}{t:Nat}(h:o.guard=some (j,f))(i:(ops[j]?).bind (·.dst)=some t)(p:look e t=some undef)
 (hd:o.dst=some d) (m:d<n.n) (k:Qt P n w0 ops K l ((d,undef)::e) F L):Qt P n w0 ops K (o::l) e F L:=by
 intro a g;unfold wpQuiet;rw[ca (by rw[OF g h i p];simp),hd];exact k _ (g.put m undef)
theorem Qt.nil(h:∀a,fU n a e->K a):Qt P n w0 ops K [] e F L:=λa f=>h a f
theorem Qt.run(g:o.guard=none)(hd:o.dst=some d)(i:d<n.n)(h:Ev P n w0 e F L o v)(k:Qt P n w0 ops K l ((d,v)::e) F L):Qt P n w0 ops K (o::l) e F L:=by intro a f;unfold wpQuiet;rw[bE (by simp[Region.wanted,g])];refine⟨v,λw j=>?_,by rw[hd];exact k _ (f.put i v)⟩;unfold Oper.quietAt;rw[h a w f j];exact⟨X,X⟩
theorem SO{j:Nat}{f:Bool}{t:Nat}{b:Bool}(m:o.guard=some (j,f))(p:(ops[j]?).bind (·.dst)=some t)(s:look e t=some (.bool b))(i:b=f)
 (hd:o.dst=some d) (q:d<n.n) (h:Ev P n w0 e F L o v) (k:Qt P n w0 ops K l ((d,v)::e) F L):Qt P n w0 ops K (o::l) e F L:=by
 intro a g;unfold wpQuiet;rw[bE (by rw[sF g m p s,i];simp)];refine⟨v,λw x=>?_,by rw[hd];exact k _ (g.put q v)⟩;unfold Oper.quietAt;rw[h a w g x];exact⟨X,X⟩
theorem br.r(h:Ev P n w0 e F L o v)(k:br P n w0 ops Q l ((d,v)::e) F L)(f:o.guard=none:=by exact X)(hd:o.dst=some d:=by exact X)(g:d<n.n:=by exact oF X):br P n w0 ops Q (o::l) e F L:=br.run f hd g h k
theorem Qt.r(h:Ev P n w0 e F L o v)(k:Qt P n w0 ops K l ((d,v)::e) F L)(f:o.guard=none:=by exact X)(hd:o.dst=some d:=by exact X)(g:d<n.n:=by exact oF X):Qt P n w0 ops K (o::l) e F L:=Qt.run f hd g h k
theorem lr{i:Op}{ty:TypeId}{pos:String}{bo:Array Edge}(h:Ev P n w0 e F L ⟨some d,i,ty,pos,bo,none⟩ v)(k:br P n w0 ops Q l ((d,v)::e) F L)(f:d<n.n:=by exact oF X):br P n w0 ops Q (⟨some d,i,ty,pos,bo,none⟩::l) e F L:=br.run X X f h k
theorem qr{i:Op}{ty:TypeId}{pos:String}{bo:Array Edge}(h:Ev P n w0 e F L ⟨some d,i,ty,pos,bo,none⟩ v)(k:Qt P n w0 ops K l ((d,v)::e) F L)(f:d<n.n:=by exact oF X):Qt P n w0 ops K (⟨some d,i,ty,pos,bo,none⟩::l) e F L:=Qt.run X X f h k
theorem lg{i:Op}{ty:TypeId}{pos:String}{bo:Array Edge}{j:Nat}{f:Bool}{t:Nat}{b:Bool}(g:b=f)(h:Ev P n w0 e F L ⟨some d,i,ty,pos,bo,some (j,f)⟩ v)(k:br P n w0 ops Q l ((d,v)::e) F L)(m:(ops[j]?).bind (·.dst)=some t:=by exact X)(q:look e t=some (.bool b):=by exact X)(p:d<n.n:=by exact oF X):br P n w0 ops Q (⟨some d,i,ty,pos,bo,some (j,f)⟩::l) e F L:=Sd X m q g X p h k
theorem qg{i:Op}{ty:TypeId}{pos:String}{bo:Array Edge}{j:Nat}{f:Bool}{t:Nat}{b:Bool}(g:b=f)(h:Ev P n w0 e F L ⟨some d,i,ty,pos,bo,some (j,f)⟩ v)(k:Qt P n w0 ops K l ((d,v)::e) F L)(m:(ops[j]?).bind (·.dst)=some t:=by exact X)(q:look e t=some (.bool b):=by exact X)(p:d<n.n:=by exact oF X):Qt P n w0 ops K (⟨some d,i,ty,pos,bo,some (j,f)⟩::l) e F L:=SO X m q g X p h k
section
variable {A B:List Item}{a a2 a3 a4 a5 a6 a7 a8:Item}
theorem cn(h:A.Sublist B):(a::A).Sublist (a::B):=List.Sublist.cons_cons _ h
theorem cQ(h:A.Sublist B):(a::a2::A).Sublist (a::a2::B):=cn (cn h)
theorem cW(h:A.Sublist B):(a::a2::a3::a4::A).Sublist (a::a2::a3::a4::B):=cQ (cQ h)
theorem ai(h:A.Sublist B):A.Sublist (a::B):=List.Sublist.cons _ h
theorem au(h:A.Sublist B):A.Sublist (a::a2::B):=ai (ai h)
theorem bA(h:A.Sublist B):A.Sublist (a::a2::a3::a4::B):=au (au h)
theorem gX(h:A.Sublist B):A.Sublist (a::a2::a3::a4::a5::a6::a7::a8::B):=bA (bA h)
end
theorem Qt.skip{j:Nat}{f:Bool}{t:Nat}{b:Bool}(i:o.guard=some (j,f))(m:(ops[j]?).bind (·.dst)=some t)(q:look e t=some (.bool b))(h:b=!f)
 (hd:o.dst=some d) (p:d<n.n) (k:Qt P n w0 ops K l ((d,undef)::e) F L):Qt P n w0 ops K (o::l) e F L:=by
 intro a g;unfold wpQuiet;rw[ca (by rw[sF g i m q,h];cases f<;>simp),hd];exact k _ (g.put p undef)
theorem Cd.region{i:Nat}{l:List Oper}(h:br P n w0 l.toArray Q l e F L):Cd P n w0 Q (.region i l.toArray false) e F L:=
 λa w f g=>wp_region_lit (h a w f g)
theorem Pg{k:Nat}{l:List Oper}(i:P.follows .mixedOrders=true)(f:Region.lexB .any l.toArray=true)
 (h:Qt P n w0 l.toArray (λa=>∀w,St w0 F L w->Q .normal a w) l e F L):Cd P n w0 Q (.region k l.toArray true) e F L:=
 λa _ g j=>wp_region_quiet (C:=St w0 F L) i f j.drew (by simpa using h a g)
theorem Qt.done(h:At n w0 Q .normal e F L):Qt P n w0 ops (λa=>∀w,St w0 F L w->Q .normal a w) [] e F L:=λa f w g=>h a w f g
theorem Cd.seq{x y:Code}(h:Cd P n w0 (Exit.then (y.wp P Q) Q) x e F L):Cd P n w0 Q (.seq x y) e F L:=λa w f g=>wp_seq (h a w f g)
theorem Cd.skip(h:At n w0 Q .normal e F L):Cd P n w0 Q .skip e F L:=λa w f g=>wp_skip (h a w f g)
theorem Cd.exit{f:Nat}(h:At n w0 Q (.exit f) e F L):Cd P n w0 Q (.exit f) e F L:=λa w g i=>wp_exit (h a w g i)
theorem Cd.ret(h:At n w0 Q .ret e F L):Cd P n w0 Q .ret e F L:=λa w f g=>wp_ret (h a w f g)
theorem Cd.block{f:Nat}{c:Code}(h:Cd P n w0 (Exit.inBlock f Q) c e F L):Cd P n w0 Q (.block f c) e F L:=λa w g i=>wp_block (h a w g i)
theorem Pc{c:Operand}{x y:Code}{b:Bool}(i:ev e c=some (.bool b))(g:b=true)(h:Cd P n w0 Q x e F L):Cd P n w0 Q (.cond c x y) e F L:=
 λa w f j=>wp_cond_true (by rw[f.eval i,g]) (h a w f j)
theorem Pb{c:Operand}{x y:Code}{b:Bool}(i:ev e c=some (.bool b))(g:b=false)(h:Cd P n w0 Q y e F L):Cd P n w0 Q (.cond c x y) e F L:=
 λa w f j=>wp_cond_false (by rw[f.eval i,g]) (h a w f j)
theorem At.then{y:Code}(h:Cd P n w0 Q y e F L):At n w0 (Exit.then (y.wp P Q) Q) .normal e F L:=h
theorem O7{k:Act->World->Prop}{f:Nat}(h:At n w0 Q (.exit f) e F L):At n w0 (Exit.then k Q) (.exit f) e F L:=h
theorem O8{k:Act->World->Prop}(h:At n w0 Q .ret e F L):At n w0 (Exit.then k Q) .ret e F L:=h
theorem OX{f:Nat}(h:At n w0 Q .normal e F L):At n w0 (Exit.inBlock f Q) .normal e F L:=h
theorem OY{f:Nat}(h:At n w0 Q .ret e F L):At n w0 (Exit.inBlock f Q) .ret e F L:=h
theorem OW{f:Nat}(h:At n w0 Q .normal e F L):At n w0 (Exit.inBlock f Q) (.exit f) e F L:=λa w g i=>by simp only[Exit.inBlock,if_true];exact h a w g i
theorem Bf{i f:Nat}(g:(f==i)=false)(h:At n w0 Q (.exit f) e F L):At n w0 (Exit.inBlock i Q) (.exit f) e F L:=λa w j k=>by simp only[Exit.inBlock];rw[ca (by simpa using g)];exact h a w j k
theorem xw{c:Code}{e':List (Nat×Value)}{L':List Item}(i:sub e e')(f:L=L')(h:Cd P n w0 Q c e' F L'):Cd P n w0 Q c e F L:=by subst f;exact λa w g j=>h a w (g.sub i) j
theorem Cd.env{c:Code}{e':List (Nat×Value)}(f:e=e')(h:Cd P n w0 Q c e' F L):Cd P n w0 Q c e F L:=by subst f;exact h
theorem adl{x:Exit}{e':List (Nat×Value)}{L':List Item}(i:sub e e')(f:L=L')(h:At n w0 Q x e' F L'):At n w0 Q x e F L:=by subst f;exact λa w g j=>h a w (g.sub i) j
theorem OZ{x:Exit}{L':List Item}(g:L'.Sublist L)(h:At n w0 Q x e F L'):At n w0 Q x e F L:=λa w f i=>h a w f (i.sublist g)
theorem adV{e':List (Nat×Value)}{L':List Item}(i:sub e e')(f:L=L')(h:br P n w0 ops Q l e' F L'):br P n w0 ops Q l e F L:=by subst f;exact λa w g j=>h a w (g.sub i) j
theorem br.hR{L':List Item}(f:L=L')(h:br P n w0 ops Q l e F L'):br P n w0 ops Q l e F L:=by subst f;exact h
theorem Pa{α:Prop}{c:Code}(i:∀w,St w0 F L w->α)(h:α->Cd P n w0 Q c e F L):Cd P n w0 Q c e F L:=λa w g f=>h (i w f) a w g f
def uX{σ:Type}(n:Fm)(w0:World)(F:bM)(env:σ->List (Nat×Value))(hR:σ->List Item)(f:bM->σ->Prop)(a:Act)(w:World):Prop:=
 ∃g s,dC F g/\fU n a (env s)/\St w0 g (hR s) w/\f g s
theorem Cd.join{σ:Type}{x y:Code}(env:σ->List (Nat×Value))(hR:σ->List Item)(f:bM->σ->Prop)
 (h:Cd P n w0 (Exit.then (uX n w0 F env hR f) Q) x e F L) (k:∀g s,dC F g->f g s->Cd P n w0 Q y (env s) g (hR s)):Cd P n w0 Q (.seq x y) e F L:=
 λa w z C=>wp_seq (wp_mono (h a w z C) λx i D q=>by
  cases x<;>first|exact q|(obtain⟨g,s,j,m,p,t⟩:=q;exact k g s j t i D m p))
theorem O0{σ:Type}{g:bM}{env:σ->List (Nat×Value)}{hR:σ->List Item}{f:bM->σ->Prop}(s:σ)(h:dC g F)(m:sub e (env s))(j:L=hR s)(i:f F s):
 At n w0 (Exit.then (uX n w0 g env hR f) Q) .normal e F L:=by
 subst j;exact λa w k p=>⟨F,s,h,k.sub m,p,i⟩
theorem ada{j m:List Oper}:∀{a:Act}{w:World},wpList P ops (Exit.then (λa w=>wpList P ops Q m a w) Q) j a w->wpList P ops Q (j++m) a w:=by
 induction j with
 |nil=>intro a w h;exact h
 |cons o j i=>
  intro a w h;simp only[rT];unfold wpList at h ⊢;split
  .rename_i k;rw[bE k]at h;have f:LetsOut (Exit.then (λa w=>wpList P ops Q m a w) Q)->LetsOut Q:=λ⟨t,p,q⟩=>⟨t,p,q⟩
   rcases h with h|⟨y,z⟩
   .left;unfold Oper.wp at h ⊢;generalize(execOp a.eval o).run P w=r at h ⊢
    cases r with
    |ok nx p=>
     cases nx<;>simp only[Oper.upon]at h ⊢<;>first
      |exact i h
      |exact h
      |(refine h.mono ?_;intro e s g;cases e<;>first|exact i g|exact g|exact f g)
      |(exact Rows.mono h λv s g=>i g)
    |halt x p=>cases x<;>exact h
   .exact .inr ⟨y,f z⟩
  .rename_i k;rw[ca k]at h;exact i h
theorem adb{l:List Oper}{Q Q':Exit->Act->World->Prop}(i:∀e a w,Q e a w->Q' e a w):∀{a:Act}{w:World},wpList P ops Q l a w->wpList P ops Q' l a w:=by
 have f:LetsOut Q->LetsOut Q':=λ⟨s,m,q⟩=>⟨s,m,i _ _ _ q⟩
 induction l with
 |nil=>intro a w h;exact i _ _ _ h
 |cons o l j=>
  intro a w h;unfold wpList at h ⊢;split
  .rename_i k;rw[bE k]at h;rcases h with h|⟨t,y⟩
   .left;unfold Oper.wp at h ⊢;generalize(execOp a.eval o).run P w=r at h ⊢
    cases r with
    |ok nx m=>
     cases nx<;>simp only[Oper.upon]at h ⊢<;>first
      |exact j h
      |exact i _ _ _ h
      |(refine h.mono ?_;intro e p g;cases e<;>first|exact j g|exact i _ _ _ g|exact f g)
      |(exact Rows.mono h λv p g=>j g)
    |halt x m=>cases x<;>first|exact i _ _ _ h|exact h
   .exact .inr ⟨t,f y⟩
  .rename_i k;rw[ca k]at h;exact j h
theorem br.join{σ:Type}(m:Nat)(env:σ->List (Nat×Value))(hR:σ->List Item)(f:bM->σ->Prop)
 (h:br P n w0 ops (Exit.then (uX n w0 F env hR f) Q) (l.take m) e F L) (k:∀g s,dC F g->f g s->br P n w0 ops Q (l.drop m) (env s) g (hR s)):br P n w0 ops Q l e F L:=by
 intro a w z C;rw[<-eQ m l];refine ada (adb ?_ (h a w z C));intro x i D q;cases x<;>first|exact q|(obtain⟨g,s,j,p,t,y⟩:=q;exact k g s j y i D p t)
theorem ade{C:World->Prop}{f j:List Oper}:∀{a:Act},wpQuiet P ops C (λa=>wpQuiet P ops C K j a) f a->wpQuiet P ops C K (f++j) a:=by
 induction f with
 |nil=>intro a h;exact h
 |cons o f i=>
  intro a h;simp only[rT];unfold wpQuiet at h ⊢;split
  .rename_i g;rw[bE g]at h;exact Oper.quiet_mono (λ_ h=>i h) h
  .rename_i g;rw[ca g]at h;exact i h
theorem adf{C:World->Prop}{K g:Act->Prop}(j:∀a,K a->g a){l:List Oper}:∀{a:Act},wpQuiet P ops C K l a->wpQuiet P ops C g l a:=by
 induction l with
 |nil=>intro a h;exact j _ h
 |cons o l i=>
  intro a h;unfold wpQuiet at h ⊢;split
  .rename_i f;rw[bE f]at h;exact Oper.quiet_mono (λ_ h=>i h) h
  .rename_i f;rw[ca f]at h;exact i h
def Jr{σ:Type}(n:Fm)(env:σ->List (Nat×Value))(f:σ->Prop)(a:Act):Prop:=∃s,fU n a (env s)/\f s
theorem Qt.join{σ:Type}(m:Nat)(env:σ->List (Nat×Value))(f:σ->Prop)
 (h:Qt P n w0 ops (Jr n env f) (l.take m) e F L) (k:∀s,f s->Qt P n w0 ops K (l.drop m) (env s) F L):Qt P n w0 ops K l e F L:=by
 intro a p;rw[<-eQ m l];refine ade (adf ?_ (h a p));rintro g ⟨s,i,j⟩;exact k s j g i
theorem SN{σ:Type}{env:σ->List (Nat×Value)}{f:σ->Prop}(s:σ)(i:sub e (env s))(g:f s):Qt P n w0 ops (Jr n env f) [] e F L:=λ_ h=>⟨s,h.sub i,g⟩
theorem br.perm{L':List Item}(hp:L.Perm L')(h:br P n w0 ops Q l e F L'):br P n w0 ops Q l e F L:=λa w f g=>h a w f (g.perm hp)
theorem At.perm{x:Exit}{L':List Item}(hp:L.Perm L')(h:At n w0 Q x e F L'):At n w0 Q x e F L:=λa w f g=>h a w f (g.perm hp)
theorem br.freeze{i:Nat}{g:Item}(p:L[i]?=some g)(h:∀f,dC F f->(∀w,St w0 f [] w->g.holds (World.hp w))->br P n w0 ops Q l e f (L.eraseIdx i)):br P n w0 ops Q l e F L:=λa w q s=>by obtain⟨f,j,k,m⟩:=s.freeze p;exact h f j m a w q k
theorem Cd.freeze{c:Code}{i:Nat}{g:Item}(p:L[i]?=some g)(h:∀f,dC F f->(∀w,St w0 f [] w->g.holds (World.hp w))->Cd P n w0 Q c e f (L.eraseIdx i)):Cd P n w0 Q c e F L:=λa w q s=>by obtain⟨f,j,k,m⟩:=s.freeze p;exact h f j m a w q k
theorem At.freeze{x:Exit}{i:Nat}{g:Item}(p:L[i]?=some g)(h:∀f,dC F f->(∀w,St w0 f [] w->g.holds (World.hp w))->At n w0 Q x e f (L.eraseIdx i)):At n w0 Q x e F L:=λa w q s=>by obtain⟨f,j,k,m⟩:=s.freeze p;exact h f j m a w q k
theorem Cd.loop{σ:Type}{c:Code}(env:σ->List (Nat×Value))(hR:σ->List Item)(f:bM->σ->Prop)(p:σ->Nat)(k:σ)(he:sub e (env k))(W:L=hR k)(H:f F k)
 (i:∀g s,dC F g->f g s->Cd P n w0 (Exit.then (uX n w0 F env hR λh j=>f h j/\p j<p s) Q) c (env s) g (hR s)):Cd P n w0 Q (.loop c) e F L:=by
 subst W;intro a w ha hw;refine adg (λm a w=>∃g s,dC F g/\fU n a (env s)/\St w0 g (hR s) w/\f g s/\p s=m) _ ⟨F,k,nO F,ha.sub he,hw,H,X⟩ ?_;rintro m a w ⟨g,s,M,S,T,V,rfl⟩;refine wp_mono (i g s M V a w S T) λx a' w' q=>?_;cases x<;>first|exact q|(obtain⟨h,j,t,y,z,C,D⟩:=q;exact⟨_,D,h,j,t,y,z,C,X⟩)
end
section
variable {P:Program}{n:Fm}{w0:World}{ops:Array Oper}{Q:Exit->Act->World->Prop}{e:List (Nat×Value)}{F:bM}{L:List Item}
theorem G{y:Code}(h:Cd P n w0 Q y e F L):br P n w0 ops (Exit.then (y.wp P Q) Q) [] e F L:=br.nil (At.then h)
theorem I{y:Code}{f:Nat}{l:List Oper}(h:br P n w0 l.toArray (Exit.then (y.wp P Q) Q) l e F L):Cd P n w0 Q (.seq (.region f l.toArray false) y) e F L:=Cd.seq (Cd.region h)
theorem aU{y:Code}{f:Nat}{l:List Oper}(h:br P n w0 l.toArray (Exit.then (y.wp P Q) Q) l e F L):br P n w0 ops (Exit.then ((Code.seq (.region f l.toArray false) y).wp P Q) Q) [] e F L:=G (I h)
end
abbrev cu:=@OW
abbrev bD:=@OX
abbrev cg:=@OY
abbrev dd:=@OZ
abbrev aw:=@O0
abbrev am:=@At.then
abbrev bt:=@O7
abbrev ba:=@O8
abbrev bn:=@Cd.block
abbrev dB:=@Pa
abbrev aB:=@Pb
abbrev aD:=@Pc
abbrev pK:=@Cd.env
abbrev ct:=@Cd.exit
abbrev ix:=@Cd.join
abbrev cF:=@Cd.loop
abbrev gU:=@Pg
abbrev bg:=@Cd.region
abbrev aM:=@Cd.ret
abbrev aj:=@Cd.seq
abbrev aQ:=@Cd.skip
abbrev pJ:=@br.freeze
abbrev gj:=@br.hR
abbrev cG:=@br.join
abbrev al:=@br.nil
abbrev gI:=@Se
abbrev gQ:=@Jj
abbrev gR:=@Qt.done
abbrev nI:=@Qt.join
abbrev iH:=@SN
def qJ:Value->Bool:=Value.oneCell'
class an(α:Type)where
 enc:α->List Value
 sz:Nat
 len:∀x,(enc x).length=sz
 one:∀x,(enc x).all qJ=true
open an (enc sz)
abbrev Y:=List UInt8
def Y.b(s:Y):ByteArray:=⟨s.toArray⟩
def Y.v(s:Y):Value:=.string (Y.b s)
instance :an Int:=⟨λx=>[.int .i64 x],1,λ_=>rfl,λ_=>rfl⟩
instance :an (BitVec 8):=⟨λx=>[.int .u8 (x.toNat:Int)],1,λ_=>rfl,λ_=>rfl⟩
instance :an (BitVec 16):=⟨λx=>[.int .u16 (x.toNat:Int)],1,λ_=>rfl,λ_=>rfl⟩
instance :an (BitVec 32):=⟨λx=>[.int .u32 (x.toNat:Int)],1,λ_=>rfl,λ_=>rfl⟩
instance :an (BitVec 64):=⟨λx=>[.int .u64 (x.toNat:Int)],1,λ_=>rfl,λ_=>rfl⟩
instance :an Bool:=⟨λx=>[.bool x],1,λ_=>rfl,λ_=>rfl⟩
instance :an Y:=⟨λx=>[Y.v x],1,λ_=>rfl,λ_=>rfl⟩
instance :an Sl:=⟨λx=>[x.v],1,λ_=>rfl,λ_=>rfl⟩
def aa{α:Type}[an α](l:List α):List Value:=l.flatMap enc
section
variable {α:Type}[an α]
theorem yi:aa ([]:List α)=[]:=X
theorem mc(x:α)(l:List α):aa (x::l)=enc x++aa l:=X
theorem hC(l m:List α):aa (l++m)=aa l++aa m:=by simp[aa]
theorem eD:∀l:List α,(aa l).length=l.length*sz α
 |[]=>by simp[aa]
 |x::l=>by rw[mc,cH,an.len,eD l,eB,oC];omega
theorem qe:∀l:List α,(aa l).all qJ=true
 |[]=>rfl
 |x::l=>by rw[mc,jf,an.one,qe l];rfl
theorem yh:∀(l:List α)(k:Nat),aa (l.drop k)=(aa l).drop (k*sz α)
 |l,0=>by simp
 |[],k+1=>by simp[aa]
 |x::l,k+1=>by have d:=an.len x;have a:(k+1)*sz α=k*sz α+sz α:=oC _ _;rw[List.drop_succ_cons,yh l k,mc,Cv,d,a,ie (l:=enc x) O];simp
theorem vg:∀(l:List α)(k:Nat),aa (l.take k)=(aa l).take (k*sz α)
 |l,0=>by simp[aa]
 |[],k+1=>by simp[aa]
 |x::l,k+1=>by have d:=an.len x;have a:(k+1)*sz α=k*sz α+sz α:=oC _ _;rw[List.take_succ_cons,mc,vg l k,mc,List.take_append,d,a,gN (l:=enc x) O];simp
instance {k:Nat}:an (Vector α k):=⟨λv=>aa v.toList,k*sz α,λv=>by rw[eD];simp,λv=>qe _⟩
end
class cJ(α:Type)where
 ok:α->Prop
instance :cJ Int:=⟨λn=>-9223372036854775808<=n/\n<=9223372036854775807⟩
instance :cJ Bool:=⟨λ_=>True⟩
instance (k:Nat):cJ (BitVec k):=⟨λ_=>True⟩
instance :cJ Y:=⟨λs=>s.length<=2^63-1⟩
instance {α:Type}[cJ α]:cJ (List α):=⟨λl=>l.length<=2^63-1/\∀x∈l,cJ.ok x⟩
instance {α:Type}[cJ α]{k:Nat}:cJ (Vector α k):=⟨λv=>∀(i:Nat)(x:α),v[i]?=some x->cJ.ok x⟩
class dk(α:Type)where
 ok:Nat->α->Prop
instance :dk Int:=⟨λ_ n=>cJ.ok n⟩
instance :dk Bool:=⟨λ_ _=>True⟩
instance (k:Nat):dk (BitVec k):=⟨λ_ _=>True⟩
instance :dk Y:=⟨λB s=>s.length<=B⟩
instance {α:Type}[dk α]:dk (List α):=⟨λB l=>l.length<=B/\∀x∈l,dk.ok B x⟩
instance {α:Type}[dk α]{k:Nat}:dk (Vector α k):=⟨λB v=>∀(i:Nat)(x:α),v[i]?=some x->dk.ok B x⟩
def bS(cs:List Value)(off:Nat)(ch:List Value):Prop:=∃A B,cs=A++(ch++B)/\A.length=off
def bQ(cs:List Value)(off:Nat)(vs cs':List Value):Prop:=∃A old B,cs=A++(old++B)/\A.length=off/\old.length=vs.length/\cs'=A++(vs++B)
theorem I2(cs:List Value):bS cs 0 cs:=⟨[],[],by simp,X⟩
theorem ag{cs:List Value}:bS cs 0 cs:=I2 cs
theorem bS.left{A B ch:List Value}{k:Nat}:bS A k ch->bS (A++B) k ch:=λ⟨a,d,h,e⟩=>⟨a,d++B,by simp[h],e⟩
theorem bS.right{A B ch:List Value}{k m:Nat}(f:A.length=m):bS B k ch->bS (A++B) (m+k) ch:=λ⟨a,d,h,e⟩=>⟨A++a,d,by simp[h],by simp[e,f]⟩
theorem bS.off{cs ch:List Value}{k m:Nat}(h:bS cs k ch)(e:m=k):bS cs m ch:=e▸h
theorem SJ{cs vs:List Value}(h:cs.length=vs.length):bQ cs 0 vs vs:=⟨[],cs,[],by simp,X,h,by simp⟩
theorem bQ.left{A e B vs:List Value}{k:Nat}:bQ A k vs e->bQ (A++B) k vs (e++B):=λ⟨a,o,d,h,g,i,f⟩=>⟨a,o,d++B,by simp[h],g,i,by simp[f]⟩
theorem bQ.right{A B e vs:List Value}{k m:Nat}(i:A.length=m):bQ B k vs e->bQ (A++B) (m+k) vs (A++e):=λ⟨a,o,d,h,g,j,f⟩=>⟨A++a,o,d,by simp[h],by simp[g,i],j,by simp[f]⟩
theorem bQ.off{cs vs cs':List Value}{k m:Nat}(h:bQ cs k vs cs')(e:m=k):bQ cs m vs cs':=e▸h
section
variable {α:Type}[an α]
theorem FC{l:List α}{i:Nat}{x:α}(h:l[i]?=some x):aa l=aa (l.take i)++(enc x++aa (l.drop (i+1)))/\(aa (l.take i)).length=i*sz α:=by have hi:i<l.length:=(eO.1 h).1;have a:l[i]=x:=(eO.1 h).2;refine⟨?_,by rw[eD,fE,ir O]⟩;rw[<-mc,<-hC];congr 1;rw[<-a,<-jg hi,eQ]
theorem Bp{l:List α}{i k:Nat}{x:α}{ch:List Value}(h:l[i]?=some x)(g:bS (enc x) k ch):bS (aa l) (i*sz α+k) ch:=by obtain⟨a,d⟩:=FC h;rw[a];exact bS.right d (bS.left g)
theorem NY{l:List α}{i:Nat}{x y:α}(h:l[i]?=some x):aa (l.set i y)=aa (l.take i)++(enc y++aa (l.drop (i+1))):=by have hi:i<l.length:=(eO.1 h).1;rw[<-mc,<-hC,yX,bE hi]
theorem Jq{l:List α}{i k:Nat}{x y:α}{vs:List Value}(h:l[i]?=some x)(g:bQ (enc x) k vs (enc y)):bQ (aa l) (i*sz α+k) vs (aa (l.set i y)):=by obtain⟨a,d⟩:=FC h;rw[a,NY h];exact bQ.right d (bQ.left g)
theorem QR{l:List α}{i k s:Nat}{x:α}{ch:List Value}(a:sz α=s)(h:l[i]?=some x)(g:bS (enc x) k ch):bS (aa l) (i*s+k) ch:=a▸Bp h g
theorem SH{l:List α}{i k s:Nat}{x y:α}{vs:List Value}(a:sz α=s)(h:l[i]?=some x)(g:bQ (enc x) k vs (enc y)):bQ (aa l) (i*s+k) vs (aa (l.set i y)):=a▸Jq h g
theorem QS{m:Nat}{l:Vector α m}{i k:Nat}{x:α}{ch:List Value}(h:l[i]?=some x)(g:bS (enc x) k ch):bS (enc l) (i*sz α+k) ch:=
 Bp (l:=l.toList) (by simpa using h) g
theorem SK{m:Nat}{l:Vector α m}{i k:Nat}{x y:α}{vs:List Value}(h:l[i]?=some x)(g:bQ (enc x) k vs (enc y)):bQ (enc l) (i*sz α+k) vs (enc (l.setIfInBounds i y)):=by
 have:=Jq (l:=l.toList) (i:=i) (by simpa using h) g;show bQ (aa l.toList) _ _ (aa (l.setIfInBounds i y).toList);have e:(l.setIfInBounds i y).toList=l.toList.set i y:=by rw[Cq]
 rw[e];exact this
end
section
variable {α:Type}[an α]
theorem QT{m:Nat}{l:Vector α m}{i k s:Nat}{x:α}{ch:List Value}(a:sz α=s)(h:l[i]?=some x)(g:bS (enc x) k ch):bS (enc l) (i*s+k) ch:=a▸QS h g
theorem SL{m:Nat}{l:Vector α m}{i k s:Nat}{x y:α}{vs:List Value}(a:sz α=s)(h:l[i]?=some x)(g:bQ (enc x) k vs (enc y)):bQ (enc l) (i*s+k) vs (enc (l.setIfInBounds i y)):=a▸SK h g
end
def cI{α:Type}{m:Nat}(v:Vector α m)(i:Int):Option α:=if 0<=i then v[i.toNat]? else none
def bh{α:Type}(l:List α)(i:Int):Option α:=if 0<=i then l[i.toNat]? else none
theorem dH{α:Type}{m:Nat}{v:Vector α m}{i:Int}{x:α}(h:cI v i=some x):0<=i/\i<m/\v[i.toNat]?=some x:=by
 unfold cI at h;split at h
 .have:=(Vector.getElem?_eq_some_iff.1 h).1;exact⟨by assumption,by omega,h⟩
 .cases h
theorem bU{α:Type}{l:List α}{i:Int}{x:α}(h:bh l i=some x):0<=i/\i<l.length/\l[i.toNat]?=some x:=by
 unfold bh at h;split at h
 .have:=(eO.1 h).1;exact⟨by assumption,by omega,h⟩
 .cases h
theorem bind_some{α a:Type}{o:Option α}{f:α->Option a}{r:a}(h:o.bind f=some r):∃x,o=some x/\f x=some r:=Cl.1 h
def Let{α a:Type}(x:α)(f:α->a):a:=f x
theorem eg{α a:Type}(x:α)(f:α->a):Let x f=f x:=X
theorem ic{α:Type}{b:Bool}{x y:Option α}{r:α}(h:(bif b then x else y)=some r):(b=true/\x=some r)\/(b=false/\y=some r):=by cases b with|true=>exact .inl ⟨X,h⟩|false=>exact .inr ⟨X,h⟩
theorem ae{α a:Type}(x:α)(f:α->Option a):(some x).bind f=f x:=X
theorem bG{α:Type}(a b:α):cond true a b=a:=X
theorem aS{α:Type}(a b:α):cond false a b=b:=X
theorem du{α:Type}{l:List α}{i:Nat}{a:α}(h:l[i]?=some a):a∈l:=j8 h
theorem dl{α:Type}{l:List α}{i:Nat}{a:α}(h:l[i]?=some a):∃d:i<l.length,l[i]=a:=eO.1 h
theorem cP(n:Nat):((n:Int)).toNat=n:=lp n
theorem cm{p:Prop}[Decidable p](h:¬p):decide p=false:=cX h
theorem c0{p:Prop}[Decidable p](h:p):decide p=true:=dc h
def andThen{σ a:Type}(x:Option (σ ⊕ a))(f:σ->Option a):Option a:=x.bind (Sum.elim f some)
theorem dT{σ a:Type}{x:Option (σ ⊕ a)}{f:σ->Option a}{r:a}(h:andThen x f=some r):∃o,x=some o/\Sum.elim f some o=some r:=bind_some h
def iO(n:Int):Option Nat:=if n<=2^63-1 then some n.toNat else none
theorem qX{n:Int}{k:Nat}(h:iO n=some k):k=n.toNat/\n<=2^63-1:=by
 unfold iO at h;split at h
 .exact⟨(dp h).symm,by assumption⟩
 .cases h
def room{α:Type}(l m:List α):Option Unit:=if l.length+m.length<=2^40 then some ()else none
theorem cZ{α:Type}{l m:List α}{u:Unit}(h:room l m=some u):l.length+m.length<=2^40:=by
 unfold room at h;split at h
 .assumption
 .cases h
def gP(i:Int):Option Nat:=if 0<=i/\i<=2^40 then some i.toNat else none
theorem pH{i:Int}{k:Nat}(h:gP i=some k):i=(k:Int)/\k<=2^40:=by
 unfold gP at h;split at h
 .cases h;omega
 .cases h
def bY{α:Type}(l:List α)(i j:Int):Option (List α):=if 0<=i/\i<=j/\j<=l.length then some ((l.drop i.toNat).take (j.toNat-i.toNat))else none
theorem fQ{α:Type}{l m:List α}{i j:Int}(h:bY l i j=some m):(0<=i/\i<=j/\j<=l.length)/\(l.drop i.toNat).take (j.toNat-i.toNat)=m:=by
 unfold bY at h;split at h
 .exact⟨by assumption,dp h⟩
 .cases h
def gA{α:Type}(xs:List α)(lo hi:Nat)(ys:List α):List α:=xs.take lo++(ys.take (hi-lo)++xs.drop (lo+min (hi-lo) ys.length))
def oj{α:Type}(lo hi:Nat)(ys:List α):Int:=((min (hi-lo) ys.length:Nat):Int)
def mD{α:Type}(xs:List α)(lo hi:Nat)(z:α):List α:=xs.take lo++(List.replicate (hi-lo) z++xs.drop hi)
inductive di(σ τ:Type)where
 |go (s:σ)
 |brk (s:σ)
 |ret (t:τ)
def cM{σ d:Type}(body:Nat->σ->Option (di σ d)):Nat->Nat->σ->Option (σ ⊕ d)
 |0,_,s=>some (.inl s)
 |k+1,i,s=>(body i s).bind λ
  |.go a=>cM body k (i+1) a
  |.brk a=>some (.inl a)
  |.ret t=>some (.inr t)
def bC{σ:Type}(body:Nat->σ->Option σ):Nat->Nat->σ->Option σ
 |0,_,s=>some s
 |k+1,i,s=>(body i s).bind λa=>bC body k (i+1) a
theorem ef{σ:Type}{body:Nat->σ->Option σ}{k i:Nat}{s:σ}{x:σ}(h:bC body (k+1) i s=some x):∃c,body i s=some c/\∀a,c=a->bC body k (i+1) a=some x:=by obtain⟨c,d,f⟩:=bind_some h;exact⟨c,d,λ_ e=>e▸f⟩
theorem ee{σ:Type}{body:Nat->σ->Option σ}{i:Nat}{s:σ}{x:σ}(h:bC body 0 i s=some x):s=x:=dp h
def cw{σ d:Type}(body:σ->Option (di σ d)):Nat->σ->Option (σ ⊕ d)
 |0,_=>none
 |k+1,s=>(body s).bind λ
  |.go a=>cw body k a
  |.brk a=>some (.inl a)
  |.ret t=>some (.inr t)
theorem iL{σ e:Type}{body:Nat->σ->Option (di σ e)}{k i:Nat}{s:σ}{x:σ ⊕ e}(h:cM body (k+1) i s=some x):
 ∃c,body i s=some c/\(∀a,c=.go a->cM body k (i+1) a=some x)/\(∀a,c=.brk a->.inl a=x)/\(∀t,c=.ret t->.inr t=x):=by
 obtain⟨c,f,d⟩:=bind_some h;refine⟨c,f,?_,?_,?_⟩<;>rintro _ rfl
 .exact d
 .exact dp d
 .exact dp d
theorem iK{σ a:Type}{body:Nat->σ->Option (di σ a)}{i:Nat}{s:σ}{x:σ ⊕ a}(h:cM body 0 i s=some x):.inl s=x:=dp h
theorem ik{σ e:Type}{body:σ->Option (di σ e)}{k:Nat}{s:σ}{x:σ ⊕ e}(h:cw body (k+1) s=some x):
 ∃c,body s=some c/\(∀a,c=.go a->cw body k a=some x)/\(∀a,c=.brk a->.inl a=x)/\(∀t,c=.ret t->.inr t=x):=by
 obtain⟨c,f,d⟩:=bind_some h;refine⟨c,f,?_,?_,?_⟩<;>rintro _ rfl
 .exact d
 .exact dp d
 .exact dp d
def ap(x:Int):Int:=IntKind.i64.wrap x
theorem bT{x:Int}(a:-9223372036854775808<=x)(d:x<=9223372036854775807):ap x=x:=by simp only[ap,IntKind.wrap,IntKind.bits,IntKind.signed,kR];split<;>(rename_i h;simp at h;omega)
abbrev bF:=@QR
abbrev ms:=@I2
abbrev fi:=@bS.left
abbrev d8:=@bS.off
abbrev cz:=@bS.right
abbrev eH:=@QT
abbrev er:=@SH
abbrev cC:=@SJ
abbrev eS:=@bQ.left
abbrev d7:=@bQ.off
abbrev cr:=@bQ.right
abbrev hU:=@SL
end Go.Proofs.YteagbdjohkfneaaGreatDoor
namespace Go.Proofs.YteagbdjohkfneaaGreatDoor
open Go.RowKit an
section
variable {P:Program}{n:Fm}{w0:World}{e:List (Nat×Value)}{F:bM}{L:List Item}{v:Value}{dst:Option Nat}{ty:TypeId}{pos:String}{bo:Array Edge}{gd:Option (Nat×Bool)}
theorem Ev.move{x:Operand}(f:ev e x=some v):Ev P n w0 e F L ⟨dst,.move x,ty,pos,bo,gd⟩ v:=λa w d _=>by simp[execOp,d.eval f]
theorem Ev.assign{x:Operand}(f:ev e x=some v):Ev P n w0 e F L ⟨dst,.assign x,ty,pos,bo,gd⟩ v:=λa w d _=>by simp[execOp,d.eval f]
theorem Z{Q:Exit->Act->World->Prop}{ops:Array Oper}{l:List Oper}{d:Nat}{x:Operand}(f:ev e x=some v)(k:br P n w0 ops Q l ((d,v)::e) F L)(a:d<n.n:=by exact oF X):br P n w0 ops Q (⟨some d,.move x,ty,pos,bo,none⟩::l) e F L:=br.run X X a (Ev.move f) k
theorem U{Q:Exit->Act->World->Prop}{ops:Array Oper}{l:List Oper}{d:Nat}{x:Operand}(f:ev e x=some v)(k:br P n w0 ops Q l ((d,v)::e) F L)(a:d<n.n:=by exact oF X):br P n w0 ops Q (⟨some d,.assign x,ty,pos,bo,none⟩::l) e F L:=br.run X X a (Ev.assign f) k
theorem P3{c x y:Operand}{b:Bool}(g:ev e c=some (.bool b))(f:b=true)(h:ev e x=some v):Ev P n w0 e F L ⟨dst,.pick c x y,ty,pos,bo,gd⟩ v:=λa w d _=>by simp[execOp,d.eval g,d.eval h,f,asBool]
theorem P2{c x y:Operand}{b:Bool}(g:ev e c=some (.bool b))(f:b=false)(h:ev e y=some v):Ev P n w0 e F L ⟨dst,.pick c x y,ty,pos,bo,gd⟩ v:=λa w d _=>by simp[execOp,d.eval g,d.eval h,f,asBool]
theorem Ev.not{x:Operand}{b:Bool}{t:TypeId}(f:ev e x=some (.bool b)):Ev P n w0 e F L ⟨dst,.unOp .not t x,ty,pos,bo,gd⟩ (.bool (!b)):=λa w d _=>by simp[execOp,d.eval f,Op.unary]
theorem Ev.neg{x:Operand}{i:Int}{t:TypeId}(f:ev e x=some (.int .i64 i)):Ev P n w0 e F L ⟨dst,.unOp .neg t x,ty,pos,bo,gd⟩ (.int .i64 (ap (0-i))):=λa w d _=>by simp[execOp,d.eval f,Op.unary,Op.intArith,ap]
section
variable {x y:Operand}{t t2:TypeId}{k:IntKind}{i j:Int}
theorem Eh(f:ev e x=some (.int k i))(g:ev e y=some (.int k j)):Ev P n w0 e F L ⟨dst,.binOp .add t x y t2,ty,pos,bo,gd⟩ (.int k (k.wrap (i+j))):=λa w d _=>by simp[execOp,d.eval f,d.eval g,eqGuard,binOp,Op.intArith]
theorem IH(f:ev e x=some (.int k i))(g:ev e y=some (.int k j)):Ev P n w0 e F L ⟨dst,.binOp .sub t x y t2,ty,pos,bo,gd⟩ (.int k (k.wrap (i-j))):=λa w d _=>by simp[execOp,d.eval f,d.eval g,eqGuard,binOp,Op.intArith]
theorem Iy(f:ev e x=some (.int k i))(g:ev e y=some (.int k j)):Ev P n w0 e F L ⟨dst,.binOp .mul t x y t2,ty,pos,bo,gd⟩ (.int k (k.wrap (i*j))):=λa w d _=>by simp[execOp,d.eval f,d.eval g,eqGuard,binOp,Op.intArith]
theorem Ev.add(a:ev e x=some (.int .i64 i))(d:ev e y=some (.int .i64 j)):Ev P n w0 e F L ⟨dst,.binOp .add t x y t2,ty,pos,bo,gd⟩ (.int .i64 (ap (i+j))):=Eh a d
theorem PM{m:Nat}(h:m<9223372036854775807)(a:ev e x=some (.int .i64 (m:Int)))(d:ev e y=some (.int .i64 1)):Ev P n w0 e F L ⟨dst,.binOp .add t x y t2,ty,pos,bo,gd⟩ (.int .i64 ((m+1:Nat):Int)):=by have:=Ev.add (P:=P) (n:=n) (w0:=w0) (F:=F) (L:=L) (dst:=dst) (ty:=ty) (pos:=pos) (bo:=bo) (gd:=gd) (t:=t) (t2:=t2) a d;rwa[bT O O]at this
theorem Ev.sub(a:ev e x=some (.int .i64 i))(d:ev e y=some (.int .i64 j)):Ev P n w0 e F L ⟨dst,.binOp .sub t x y t2,ty,pos,bo,gd⟩ (.int .i64 (ap (i-j))):=IH a d
theorem Ev.mul(a:ev e x=some (.int .i64 i))(d:ev e y=some (.int .i64 j)):Ev P n w0 e F L ⟨dst,.binOp .mul t x y t2,ty,pos,bo,gd⟩ (.int .i64 (ap (i*j))):=Iy a d
theorem Ev.quo(g:ev e x=some (.int .i64 i))(h:ev e y=some (.int .i64 j))(f:j≠0):Ev P n w0 e F L ⟨dst,.binOp .quo t x y t2,ty,pos,bo,gd⟩ (.int .i64 (ap (i.tdiv j))):=λa w d _=>by simp[execOp,d.eval g,d.eval h,eqGuard,binOp,Op.intDiv,f,ap]
theorem Ev.rem(g:ev e x=some (.int .i64 i))(h:ev e y=some (.int .i64 j))(f:j≠0):Ev P n w0 e F L ⟨dst,.binOp .rem t x y t2,ty,pos,bo,gd⟩ (.int .i64 (i.tmod j)):=λa w d _=>by simp[execOp,d.eval g,d.eval h,eqGuard,binOp,Op.intDiv,f]
theorem Ev.eql(f:ev e x=some (.int k i))(g:ev e y=some (.int k j)):Ev P n w0 e F L ⟨dst,.binOp .eql t x y t2,ty,pos,bo,gd⟩ (.bool (i==j)):=λa w d _=>by simp[execOp,d.eval f,d.eval g,eqGuard,binOp,Op.intCmp]
theorem Ev.neq(f:ev e x=some (.int k i))(g:ev e y=some (.int k j)):Ev P n w0 e F L ⟨dst,.binOp .neq t x y t2,ty,pos,bo,gd⟩ (.bool (i !=j)):=λa w d _=>by simp[execOp,d.eval f,d.eval g,eqGuard,binOp,Op.intCmp]
theorem Ev.lss(f:ev e x=some (.int k i))(g:ev e y=some (.int k j)):Ev P n w0 e F L ⟨dst,.binOp .lss t x y t2,ty,pos,bo,gd⟩ (.bool (decide (i<j))):=λa w d _=>by simp[execOp,d.eval f,d.eval g,eqGuard,binOp,Op.intCmp]
theorem Ev.leq(f:ev e x=some (.int k i))(g:ev e y=some (.int k j)):Ev P n w0 e F L ⟨dst,.binOp .leq t x y t2,ty,pos,bo,gd⟩ (.bool (decide (i<=j))):=λa w d _=>by simp[execOp,d.eval f,d.eval g,eqGuard,binOp,Op.intCmp]
theorem Ev.gtr(f:ev e x=some (.int k i))(g:ev e y=some (.int k j)):Ev P n w0 e F L ⟨dst,.binOp .gtr t x y t2,ty,pos,bo,gd⟩ (.bool (decide (i>j))):=λa w d _=>by simp[execOp,d.eval f,d.eval g,eqGuard,binOp,Op.intCmp]
theorem Ev.geq(f:ev e x=some (.int k i))(g:ev e y=some (.int k j)):Ev P n w0 e F L ⟨dst,.binOp .geq t x y t2,ty,pos,bo,gd⟩ (.bool (decide (i>=j))):=λa w d _=>by simp[execOp,d.eval f,d.eval g,eqGuard,binOp,Op.intCmp]
end
section
variable {x y:Operand}{t t2:TypeId}
theorem PF{xs ys:List Value}{b:Bool}(h:ev e x=some (.agg xs.toArray))(l:ev e y=some (.agg ys.toArray))(g:P.eqGuardType P.depth t=false)(f:∀w,(Op.equal t (.agg xs.toArray) (.agg ys.toArray)).run P w=.ok b w):
 Ev P n w0 e F L ⟨dst,.binOp .eql t x y t2,ty,pos,bo,gd⟩ (.bool b):=λa w d _=>by
 simp[execOp,d.eval h,d.eval l,eqGuard,binOp,g,f]
theorem sB{d:TypeDesc}(a:∀w,(underlying t).run P w=.ok d w):P.underlying t=some d:=by
 have:=a default;unfold underlying at this;simp at this
 cases h:P.underlying t with
 |none=>simp[h]at this
 |some f=>simp[h]at this;rw[this]
theorem PG{i j:Bool}(g:ev e x=some (.bool i))(l:ev e y=some (.bool j))(f:∀w,(underlying t).run P w=.ok .bool w):Ev P n w0 e F L ⟨dst,.binOp .eql t x y t2,ty,pos,bo,gd⟩ (.bool (i==j)):=λa w d _=>by have h:=run_equalIn_bool (P:=P) w 9999 t i j (sB f);simp[execOp,d.eval g,d.eval l,eqGuard,binOp,Op.equal,show Op.maxDepth=9999+1 from X,h]
end
section
variable {x y:Operand}{t t2:TypeId}
theorem gz{m:Nat}(x:BitVec m):BitVec.ofInt m (x.toNat:Int)=x:=by apply nD;have:=x.isLt;simp
theorem abG(x j m:Nat)(h:x<2^m):x/2^(min j m)=x/2^j:=by
 by_cases a:j<=m
 .rw[ir a]
 .rw[Nat.min_eq_right O,zb h,zb (Nat.lt_of_lt_of_le h (lN O O))]
end
theorem Ev.fieldAddr{x:Operand}{t:TypeId}{k b off off':Nat}{g:Array Field}{f:Field}{s:Nat}(z:ev e x=some (.pointer (some ⟨b,off,none⟩)))(q:∀w,(underlying t).run P w=.ok (.struct g) w)
 (m:g[k]?=some f) (p:∀w,(sizeOf f.type).run P w=.ok s w) (h:(s==0)=false) (o:off+f.offset=off'):Ev P n w0 e F L ⟨dst,.fieldAddr t x k,ty,pos,bo,gd⟩ (.pointer (some ⟨b,off',none⟩)):=λa w l _=>by
 subst o;have d:¬s=0:=by simpa using h
 simp[execOp,l.eval z,Instr.fieldAt,q,m,Instr.sureAddr,fieldPlace,p,d,Addr.add]
theorem Ev.indexAddr{x y:Operand}{t el:TypeId}{b off off' len s:Nat}{i:Int}(m:ev e x=some (.pointer (some ⟨b,off,none⟩)))(o:ev e y=some (.int .i64 i))(l:∀w,(underlying t).run P w=.ok (.array len el) w)
 (h:∀w,(sizeOf el).run P w=.ok s w) (f:0<=i) (hi:i<len) (g:off+i.toNat*s=off'):Ev P n w0 e F L ⟨dst,.indexAddr t x y,ty,pos,bo,gd⟩ (.pointer (some ⟨b,off',none⟩)):=λa w d _=>by
 subst g;simp[execOp,d.eval m,d.eval o,Instr.indexAt,asIntOf,l,Instr.sureAddr,h,f,hi,Addr.add]
end
abbrev cp:=@Ev.add
abbrev iA:=@Ev.assign
abbrev cx:=@Ev.eql
abbrev fT:=@Ev.geq
abbrev dx:=@Ev.gtr
abbrev cD:=@PM
abbrev d0:=@Ev.indexAddr
abbrev bp:=@Ev.lss
abbrev av:=@Ev.move
abbrev mX:=@Ev.mul
abbrev eM:=@Ev.neq
abbrev eG:=@Ev.not
abbrev cd:=@P2
abbrev cf:=@P3
abbrev jo:=@Ev.sub
end Go.Proofs.YteagbdjohkfneaaGreatDoor
namespace Go.Proofs.YteagbdjohkfneaaGreatDoor
section
variable {P:Program}{ops:Array Oper}{md:Region.Mode}{C:World->Prop}
def yH(P:Program)(md:Region.Mode)(ops:Array Oper)(C:World->Prop)(n:Nat)(L:Array Bool->Act->Prop):Nat->Array Bool->Act->Prop
 |0,s,a=>L s a
 |f+1,s,a=>Region.ready md ops s≠[]/\∀i∈Region.ready md ops s,i<n/\qOp P ops C i (yH P md ops C n L f (s.setIfInBounds i true)) a
theorem Tx{n g:Nat}{L:Array Bool->Act->Prop}{Q:Exit->Act->World->Prop}(o:∀s a w,C w->L s a->wpAny P md ops Q g s a w):
 ∀(f:Nat)(s:Array Bool)(a:Act)(w:World),C w->yH P md ops C n L f s a->wpAny P md ops Q (f+g) s a w:=by
 intro f
 induction f with
 |zero=>intro s a w d h;simpa using o s a w d h
 |succ f p=>
  intro s a w d h;have e:f+1+g=(f+g)+1:=by omega
  rw[e];constructor
  .intro m;exact absurd m h.1
  .intro i hi;exact wpOp_of_qOp d (λk q j l=>p _ k q j l) (h.2 i hi).2
theorem head_take{n i:Nat}{F:Oper}{v:Value}{L:Array Bool->Act->Prop}(hi:ops[i]?=some F)(y:∀(j:Nat)(o:Oper)cs b,ops[j]?=some o->o.op≠.select cs b)
 (hs:Region.sinkB md ops n=true) (hc:Region.chainB md ops n=true) (hn:n<ops.size) (M:i<n) (A:∀s a,L s a->∀j∈Region.ready md ops s,n<=j):
 ∀(f:Nat)(s:Array Bool)(a:Act),HeadInv md ops n s->
  (∀j D,ops[j]?=some D->j≠i->s.getD j true=false->(∀e∈D.after,Region.binds md e=true->e.on≠i)->F.apart ops D=true)->
  i∈Region.ready md ops s->YieldsIn P ops C F v a->
  yH P md ops C n L f (s.setIfInBounds i true) (a.put F.dst v)->yH P md ops C n L (f+1) s a:=by
 intro f
 induction f with
 |zero=>
  intro s a l _ t Q H;have g:=(mem_ready.1 t).1;have small:∀j∈Region.ready md ops s,j<n:=λj d=>(pr j n).resolve_right λh=>absurd d (tail_waits hs hc hn l _ i X M g j h);constructor
  .intro S;rw[S]at t;cases t
  .intro j d;refine⟨small j d,?_⟩;by_cases e:j=i
   .subst e;exact YieldsIn.qOp hi Q H
   .have:=A _ _ H j (ready_mono d e);have:=small j d;omega
 |succ f ih=>
  intro s a l m t Q H;have g:=(mem_ready.1 t).1;have small:∀j∈Region.ready md ops s,j<n:=λj d=>(pr j n).resolve_right λh=>absurd d (tail_waits hs hc hn l _ i X M g j h);constructor
  .intro S;rw[S]at t;cases t
  .intro j d;refine⟨small j d,?_⟩;by_cases e:j=i
   .subst e;exact YieldsIn.qOp hi Q H
   .obtain⟨p,D,B,K⟩:=mem_ready.1 d;have z:F.apart ops D=true:=m j D B e p λx hx hb he=>by
     have:=K x hx hb;rw[he,getD_both g]at this;cases this
    have next:=qOp_put B z (λcs b=>y i F cs b hi) (λcs b=>y j D cs b B) Q (H.2 j (ready_mono d e)).2
    refine qOp_mono (λa' h3=>?_) next
    refine ih (s.setIfInBounds j true) a' (l.set d (small j d)) (λk ok hk T V W=>m k ok hk T ?_ W) (ready_mono t (Ne.symm e)) h3.1 ?_
    .by_cases q:j=k
     .subst q;exact p
     .rwa[getD_set_ne true q]at V
    .rw[Array.setIfInBounds_comm _ _ e];exact h3.2
theorem We{n g:Nat}{p:Act->Prop}(f:Region.noSelect ops=true)(F:Region.sinkB md ops n=true)(B:Region.chainB md ops n=true)(D:n<ops.size):
 ∀(l:List Oper)(k:Nat)(s:Array Bool)(a:Act),(∀j,j<l.length->l[j]?=ops[k+j]?)->k+l.length=n->HeadInv md ops n s->
 Region.lexHead md ops g l.length k s=true->wpQuiet P ops C p l a->
 yH P md ops C n (λy t=>Region.seqB md ops g n y=true/\p t) l.length s a:=by
 intro l
 induction l with
 |nil=>
  intro k s a _ q _ e h;obtain rfl:k=n:=by simpa using q
  exact⟨by simpa[Region.lexHead]using e,h⟩
 |cons o l K=>
  intro k s a x q i e h;have m:ops[k]?=some o:=by simpa using(x 0 (by simp)).symm
  simp only[eB]at q;simp only[eB,Region.lexHead,eu]at e;have d:k∈Region.ready md ops s:=by simpa using e.1.1
  have first:qOp P ops C k (wpQuiet P ops C p l) a:=by unfold qOp;simp only[m];exact h
  obtain⟨v,H,z⟩:=yieldsIn_of_qOp m first
  refine head_take m (Region.noSelect_spec f) F B D O (λy t A=>seqB_ready A.1) l.length s a i (Region.free_spec m e.1.2) d H ?_;exact K (k+1) _ _ (λj L=>by have:=x (j+1) (by simp;omega);simpa[yY,yZ 1 j]using this) O (i.set d O) e.2 z
theorem adh{T:Nat}{Q:Exit->Act->World->Prop}{a:Act}{w:World}{l:List Oper}(n:Nat)(K:P.follows .mixedOrders=true)(y:Region.lexTailB .any l.toArray n=true)
 (D:C {w with drawn:=w.drawn+1}) (h:wpQuiet P l.toArray C (λo=>∀m,C m->wpList P l.toArray Q (l.drop n) o m) (l.take n) a):(Code.region T l.toArray true).wp P Q a w:=by
 simp only[Region.lexTailB,eu,eW]at y;obtain⟨⟨⟨⟨f,B⟩,M⟩,F⟩,e⟩:=y;have L:n<l.length:=by simpa using B
 have i:(l.take n).length=n:=by simp;omega
 have d:(l.drop n).length=l.toArray.size-n:=by simp
 have k:HeadInv .any l.toArray n (Array.replicate l.toArray.size false):=by
  constructor
  .simp
  .intro j W _ A;rw[getD_replicate_false]at A;cases A
  .intro t _ S;exact getD_in (by simpa using S) (getD_replicate_false _ _)
 have H:=We (C:=C) (md:=.any) (g:=l.toArray.size-n) f M F B (l.take n) 0 _ a (λj V=>by
  have p:j<n:=by omega
  simp[p]) O k (by rw[i];exact e) h
 rw[i]at H;refine wp_region_any K ?_
 have x:=Tx (C:=C) (Q:=Q) (g:=l.toArray.size-n) (λs o m q z=>by
  have:=wpAny_of_seq (P:=P) (md:=.any) (ops:=l.toArray) (Q':=Q) (l.drop n) n s o m (λj=>by simp) (by rw[d];exact z.1) (z.2 m q)
  rwa[d]at this) n _ a {w with drawn:=w.drawn+1} D H
 rwa[show n+(l.toArray.size-n)=l.toArray.size by omega]at x
end
theorem Cd.tail{P:Program}{n:Fm}{w0:World}{Q:Exit->Act->World->Prop}{e:List (Nat×Value)}{F:bM}{L:List Item}{j:Nat}{l:List Oper}(m:Nat)(g:P.follows .mixedOrders=true)(d:Region.lexTailB .any l.toArray m=true)
 (h:Qt P n w0 l.toArray (λa=>∀w,St w0 F L w->wpList P l.toArray Q (l.drop m) a w) (l.take m) e F L):Cd P n w0 Q (.region j l.toArray true) e F L:=
 λa _ f i=>adh (C:=St w0 F L) m g d i.drew (h a f)
theorem Qt.tail{P:Program}{n:Fm}{w0:World}{Q:Exit->Act->World->Prop}{ops:Array Oper}{e:List (Nat×Value)}{F:bM}{L:List Item}{l:List Oper}(h:br P n w0 ops Q l e F L):
 Qt P n w0 ops (λa=>∀w,St w0 F L w->wpList P ops Q l a w) [] e F L:=λa d w f=>h a w d f
abbrev gV:=@Cd.tail
abbrev gS:=@Qt.tail
def Nx(Q:Exit->Act->World->Prop)(K:Act->World->Prop):Exit->Act->World->Prop
 |.normal,a,w=>K a w
 |.panic ch,a,w=>∀d,d.defers=a.defers->Q (.panic ch) d w
 |_,_,_=>False
section
variable {P:Program}{ops:Array Oper}{n:Nat}{C C':World->Prop}{Lq:Array Bool->Act->World->Prop}{Q:Exit->Act->World->Prop}
def Hd(P:Program)(Q:Exit->Act->World->Prop)(ops:Array Oper)(n:Nat)(Lq:Array Bool->Act->World->Prop)(C:World->Prop):Nat->Array Bool->Act->World->Prop
 |0,s,a,w=>Lq s a w
 |f+1,s,a,w=>Region.ready .any ops s≠[]/\∀i∈Region.ready .any ops s,i<n/\wpOp P ops (Nx Q λg d=>C d/\Hd P Q ops n Lq C f (s.setIfInBounds i true) g d) i (λg d=>C d/\Hd P Q ops n Lq C f (s.setIfInBounds i true) g d) a w
theorem put_defers(a:Act)(d:Option Nat)(v:Value):(a.put d v).defers=a.defers:=by cases d<;>rfl
theorem Ii{Q':Exit->Act->World->Prop}{y K t:Act->World->Prop}{i:Nat}{a:Act}{w:World}(z:∀ch a w,(∀j,j.defers=a.defers->Q (.panic ch) j w)->Q' (.panic ch) a w)(g:∀a w,K a w->t a w)(h:wpOp P ops (Nx Q y) i K a w):wpOp P ops Q' i t a w:=by
 have d:LetsOut (Nx Q y)->False:=λ⟨j,A,q⟩=>q;unfold wpOp at h ⊢;split
 .rename_i k;simp only[k]at h;exact g _ _ h
 .rename_i o k;simp only[k]at h;split
  .rename_i p;simp only[p,if_true]at h;rcases h with h|⟨D,B⟩
   .left;unfold Oper.wp at h ⊢;generalize(execOp a.eval o).run P w=r at h ⊢
    cases r with
    |ok nx A=>
     cases nx<;>simp only[Oper.upon]at h ⊢<;>first
      |exact g _ _ h
      |exact h.elim
      |(refine h.mono ?_;intro e s f;cases e<;>first|exact g _ _ f|exact z _ _ _ f|exact f.elim|exact(d f).elim)
      |(exact Rows.mono h λv s f=>g _ _ f)
    |halt x A=>cases x<;>first|exact z _ _ _ h|exact h.elim
   .exact(d B).elim
  .rename_i p;simp only[p]at h;exact g _ _ h
theorem Hd.mono(k:∀w,C w->C' w):∀(f:Nat)(s:Array Bool)(a:Act)(w:World),Hd P Q ops n Lq C f s a w->Hd P Q ops n Lq C' f s a w:=by
 intro f
 induction f with
 |zero=>intro s a w h;exact h
 |succ f p=>
  intro s a w h;refine⟨h.1,λi hi=>⟨(h.2 i hi).1,?_⟩⟩;have o:∀g d,(C d/\Hd P Q ops n Lq C f (s.setIfInBounds i true) g d)->(C' d/\Hd P Q ops n Lq C' f (s.setIfInBounds i true) g d):=λg d j=>⟨k _ j.1,p _ _ _ j.2⟩
  exact Ii (λ_ _ _ h=>h) o (h.2 i hi).2
theorem Tw{g:Nat}(o:∀s a w,Lq s a w->wpAny P .any ops Q g s a w):
 ∀(f:Nat)(s:Array Bool)(a:Act)(w:World),Hd P Q ops n Lq C f s a w->wpAny P .any ops Q (f+g) s a w:=by
 intro f
 induction f with
 |zero=>intro s a w h;simpa using o s a w h
 |succ f p=>
  intro s a w h;have e:f+1+g=(f+g)+1:=by omega
  rw[e];constructor
  .intro k;exact absurd k h.1
  .intro i hi;exact Ii (λ_ _ _ h=>h _ X) (λd q j=>p _ d q j.2) (h.2 i hi).2
def nm(P:Program)(ops:Array Oper)(C:World->Prop)(o:Oper)(v:Value)(a:Act):Prop:=
 (Region.wanted o (yielded ops a.tmps)=true/\∀w,C w->(execOp a.eval o).run P w=.ok (.value v) w)\/(Region.wanted o (yielded ops a.tmps)=false/\v=undef)
theorem nm.wpOp{Q:Exit->Act->World->Prop}{i:Nat}{o:Oper}{v:Value}{a:Act}(hi:ops[i]?=some o)(j:nm P ops C o v a){K:Act->World->Prop}{w:World}(g:C w)(h:K (a.put o.dst v) w):wpOp P ops Q i K a w:=by
 unfold Go.wpOp;simp only[hi];rcases j with⟨d,f⟩|⟨d,rfl⟩
 .simp only[d,if_true,Oper.wp,f w g,Oper.upon];exact .inl h
 .simp only[d,zh,if_false];exact h
theorem nm.of_same{o:Oper}{v:Value}{a d:Act}(h:nm P ops C o v a)(f:execOp d.eval o=execOp a.eval o)
 (g:Region.wanted o (yielded ops d.tmps)=Region.wanted o (yielded ops a.tmps)):nm P ops C o v d:=by
 unfold nm at*
 rw[f,g];exact h
theorem adc{j:Nat}{g i:Oper}{v:Value}(hj:ops[j]?=some i)(D:g.apart ops i=true)
 (M:∀cs b,g.op≠.select cs b) (S:∀cs b,i.op≠.select cs b) {K0 K:Act->World->Prop} {K1:Act->World->Prop} {a:Act} {w:World}
 (o:nm P ops C g v a) (h:wpOp P ops (Nx Q K0) j K (a.put g.dst v) w):
 wpOp P ops (Nx Q K1) j (λp A=>nm P ops C g v p/\K (p.put g.dst v) A) a w:=by
 obtain⟨h1,y,h3⟩:=Oper.apart_spec D;have rU:∀(a:Act),nm P ops C g v a->∀u,nm P ops C g v (a.put i.dst u):=λa o u=>o.of_same (execOp_put g M a i.dst u h3) (wanted_put g a i.dst u h3);have t:∀d,nm P ops C g v {a with defers:=d::a.defers}:=λd=>o.of_same X X;have k:LetsOut (Nx Q K0)->False:=λ⟨p,A,q⟩=>q;unfold wpOp at*
 simp only[hj]at*
 rw[wanted_put i a g.dst v h1]at h;split
 .rename_i V;simp only[V,if_true]at h;rcases h with h|⟨H,s⟩
  case inr=>exact(k s).elim
  refine .inl ?_;unfold Oper.wp at*
  rw[execOp_put i S a g.dst v h1]at h;generalize(execOp a.eval i).run P w=r at*
  cases r with
  |ok n A=>
   cases n<;>simp only[Oper.upon]at h ⊢
   case value u=>exact⟨rU a o u,by rw[<-Act.put_comm a v u y];exact h⟩
   case skip=>exact⟨rU a o _,by rw[<-Act.put_comm a v undef y];exact h⟩
   case defer d=>refine⟨rU _ (t d) _,?_⟩;rw[<-Act.put_comm _ v undef y,<-Act.put_defers];exact h
   case enter f args=>
    refine Calls.mono h λe W z=>?_
    cases e with
    |returned u=>exact⟨rU a o u,by rw[<-Act.put_comm a v u y];exact z⟩
    |panicked c=>exact λp B=>z p (B.trans (put_defers _ _ _).symm)
    |outgrown=>exact(k z).elim
   case row row args=>exact Rows.mono h λu W z=>⟨rU a o u,by rw[<-Act.put_comm a v u y];exact z⟩
   all_goals exact h.elim
  |halt x A=>cases x<;>first|exact λp B=>h p (B.trans (put_defers _ _ _).symm)|exact h.elim
 .rename_i V;simp only[V]at h;exact⟨rU a o _,by rw[<-Act.put_comm a v undef y];exact h⟩
def n4(ops:Array Oper)(n:Nat):Prop:=∀s:Array Bool,HeadInv .any ops n s->∀i,i<n->s.getD i true=false->∀j∈Region.ready .any ops s,j<n
theorem gc(p:Region.sinkB .any ops n=true)(g:Region.chainB .any ops n=true)(o:decide (n<ops.size)=true):n4 ops n:=λ_ f i a d j k=>(pr j n).resolve_right λh=>absurd k (tail_waits p g (by simpa using o) f _ i X a d j h)
theorem TH(f:n=ops.size):n4 ops n:=λ_ _ i _ _ j a=>by obtain⟨_,o,d,_⟩:=mem_ready.1 a;have:=(lP.1 d).1;omega
theorem Hd.take{i:Nat}{S:Oper}{v:Value}(hi:ops[i]?=some S)(A:∀(j:Nat)(o:Oper)cs b,ops[j]?=some o->o.op≠.select cs b)(aH:n4 ops n)(W:i<n)(D:∀s a w,Lq s a w->∀j∈Region.ready .any ops s,n<=j):
 ∀(f:Nat)(s:Array Bool)(a:Act)(w:World),HeadInv .any ops n s->
  (∀j M,ops[j]?=some M->j≠i->s.getD j true=false->(∀e∈M.after,Region.binds .any e=true->e.on≠i)->S.apart ops M=true)->
  i∈Region.ready .any ops s->C w->nm P ops C S v a->
  Hd P Q ops n Lq C f (s.setIfInBounds i true) (a.put S.dst v) w->Hd P Q ops n Lq C (f+1) s a w:=by
 intro f
 induction f with
 |zero=>
  intro s a w p _ z hw hy H;have g:=(mem_ready.1 z).1;have small:=aH s p i W g;constructor
  .intro h0;rw[h0]at z;cases z
  .intro j d;refine⟨small j d,?_⟩;by_cases e:j=i
   .subst e;exact hy.wpOp hi hw ⟨hw,H⟩
   .have:=D _ _ _ H j (ready_mono d e);have:=small j d;omega
 |succ f ih=>
  intro s a w p t z hw hy H;have g:=(mem_ready.1 z).1;have small:=aH s p i W g;constructor
  .intro h0;rw[h0]at z;cases z
  .intro j d;refine⟨small j d,?_⟩;by_cases e:j=i
   .subst e;exact hy.wpOp hi hw ⟨hw,H⟩
   .obtain⟨y,M,K,V⟩:=mem_ready.1 d;have B:S.apart ops M=true:=t j M K e y λx hx hb he=>by
     have:=V x hx hb;rw[he,getD_both g]at this;cases this
    have next:=adc (K1:=λa' w'=>C w'/\Hd P Q ops n Lq C (f+1) (s.setIfInBounds j true) a' w') K B (λcs b=>A i S cs b hi) (λcs b=>A j M cs b K) hy (H.2 j (ready_mono d e)).2
    refine Ii (λ_ _ _ h=>h) (λa' w' h3=>?_) next
    refine⟨h3.2.1,ih (s.setIfInBounds j true) a' w' (p.set d (small j d)) (λk ok hk Wx Wz rH=>t k ok hk Wx ?_ rH) (ready_mono z (Ne.symm e)) h3.2.1 h3.1 ?_⟩
    .by_cases q:j=k
     .subst q;exact y
     .rwa[getD_set_ne true q]at Wz
    .rw[Array.setIfInBounds_comm _ _ e];exact h3.2.2
end
section
variable {P:Program}{n:Fm}{w0:World}{l:List Oper}{m:Nat}{T:Act->World->Prop}{C:World->Prop}{e:List (Nat×Value)}{F:bM}{L:List Item}{Q:Exit->Act->World->Prop}
def fV(P:Program)(n:Fm)(w0:World)(Q:Exit->Act->World->Prop)(l:List Oper)(m:Nat)(T:Act->World->Prop)(C:World->Prop)(f:Nat)(s:Array Bool)(e:List (Nat×Value))(F:bM)(L:List Item):Prop:=
 HeadInv .any l.toArray m s->∀a w,fU n a e->St w0 F L w->Hd P Q l.toArray m (λs a w=>(Region.seqB .any l.toArray (l.length-m) m s=true)/\T a w) C f s a w
theorem fV.done{s:Array Bool}(f:Region.seqB .any l.toArray (l.length-m) m s=true)(h:At n w0 (Nx Q T) .normal e F L):fV P n w0 Q l m T C 0 s e F L:=λ_ a w d g=>⟨f,h a w d g⟩
theorem fV.take{f i d:Nat}{s:Array Bool}{o:Oper}{v:Value}{B:List Item}{A:bM}(ho:l[i]?=some o)(hd:o.dst=some d)(W:d<n.n)(p:Region.noSelect l.toArray=true)(x:n4 l.toArray m)(g:i<m)
 (hr:(Region.ready .any l.toArray s).contains i=true) (S:Region.free .any l.toArray s i=true) (K:∀w,St w0 F L w->C w) (V:o.guard=none) (t:∀w,C w->St w0 A B w) (hy:Ev P n w0 e A B o v)
 (k:fV P n w0 Q l m T C f (s.setIfInBounds i true) ((d,v)::e) F L):fV P n w0 Q l m T C (f+1) s e F L:=by
 intro q a w D H;have h:l.toArray[i]?=some o:=by simpa using ho
 have j:i∈Region.ready .any l.toArray s:=by simpa using hr
 refine Hd.take (v:=v) h (Region.noSelect_spec p) x g (λs' a' z M=>seqB_ready M.1) f s a w q (Region.free_spec h S) j (K w H) ?_ ?_
 .exact .inl ⟨by simp[Region.wanted,V],λz y=>hy a z D (t z y)⟩
 .rw[hd];exact k (q.set j g) (a.put (some d) v) w (D.put W v) H
theorem Jb{f d:Nat}{s:Array Bool}{o:Oper}{v:Value}{j:List Item}{g:bM}(a:Region.noSelect l.toArray=true)(q:n4 l.toArray m)(i:Nat)(t:∀w,St w0 F L w->St w0 g j w)(A:l[i]?=some o)(hd:o.dst=some d)(z:d<n.n)(p:i<m)
 (B:(Region.ready .any l.toArray s).contains i=true) (x:Region.free .any l.toArray s i=true) (y:o.guard=none) (D:Ev P n w0 e g j o v)
 (k:fV P n w0 Q l m T (λw=>St w0 g j w) f (s.setIfInBounds i true) ((d,v)::e) F L):fV P n w0 Q l m T (λw=>St w0 g j w) (f+1) s e F L:=
 fV.take A hd z a q p B x t y (λ_ h=>h) D k
def lZ(P:Program)(n:Fm)(w0:World)(Q:Exit->Act->World->Prop)(l:List Oper)(m:Nat)(T:Act->World->Prop)(C:World->Prop)(f:Nat)(s:Array Bool)(e:List (Nat×Value))(F:bM)(L:List Item):List Nat->Prop
 |[]=>True
 |i::h=>(i<m/\∃o,l[i]?=some o/\(HeadInv .any l.toArray m (s.setIfInBounds i true)->br P n w0 l.toArray (Nx Q λg d=>C d/\Hd P Q l.toArray m (λs a w=>(Region.seqB .any l.toArray (l.length-m) m s=true)/\T a w) C f (s.setIfInBounds i true) g d) [o] e F L))/\lZ P n w0 Q l m T C f s e F L h
theorem lZ.get{f:Nat}{s:Array Bool}:∀{d:List Nat},lZ P n w0 Q l m T C f s e F L d->∀i∈d,i<m/\∃o,l[i]?=some o/\(HeadInv .any l.toArray m (s.setIfInBounds i true)->br P n w0 l.toArray (Nx Q λj g=>C g/\Hd P Q l.toArray m (λs a w=>(Region.seqB .any l.toArray (l.length-m) m s=true)/\T a w) C f (s.setIfInBounds i true) j g) [o] e F L)
 |[],_,i,hi=>by cases hi
 |_::_,h,i,hi=>by
  rcases fM.1 hi with rfl|hi
  .exact h.1
  .exact lZ.get h.2 i hi
theorem lZ.cons{f i:Nat}{s:Array Bool}{d:List Nat}{o:Oper}(hi:i<m)(p:l[i]?=some o)
 (h:HeadInv .any l.toArray m (s.setIfInBounds i true)->br P n w0 l.toArray (Nx Q λj g=>C g/\Hd P Q l.toArray m (λs a w=>(Region.seqB .any l.toArray (l.length-m) m s=true)/\T a w) C f (s.setIfInBounds i true) j g) [o] e F L)
 (k:lZ P n w0 Q l m T C f s e F L d):lZ P n w0 Q l m T C f s e F L (i::d):=⟨⟨hi,o,p,h⟩,k⟩
theorem lZ.c{f i:Nat}{s:Array Bool}{d:List Nat}{o:Oper}
 (h:HeadInv .any l.toArray m (s.setIfInBounds i true)->br P n w0 l.toArray (Nx Q λj g=>C g/\Hd P Q l.toArray m (λs a w=>(Region.seqB .any l.toArray (l.length-m) m s=true)/\T a w) C f (s.setIfInBounds i true) j g) [o] e F L)
 (k:lZ P n w0 Q l m T C f s e F L d) (hi:i<m:=by decide) (p:l[i]?=some o:=by exact X):lZ P n w0 Q l m T C f s e F L (i::d):=lZ.cons hi p h k
theorem fV.step{f:Nat}{s:Array Bool}(j:List Nat)(z:Region.ready .any l.toArray s=j)(x:j.isEmpty=false)(h:lZ P n w0 Q l m T C f s e F L j):fV P n w0 Q l m T C (f+1) s e F L:=by
 intro t a w B H;have p:j≠[]:=by intro e;rw[e]at x;cases x
 refine⟨by rw[z];exact p,λi hi=>?_⟩;have k:=hi;rw[z]at hi;obtain⟨y,o,D,A⟩:=h.get i hi;refine⟨y,?_⟩;have g:=A (t.set k y) a w B H;have q:l.toArray[i]?=some o:=by simpa using D
 unfold wpOp;simp only[q];unfold wpList at g;split
 .rename_i d;rw[bE d]at g;exact g
 .rename_i d;rw[ca d]at g;exact g
theorem At.hd{f:Nat}{s:Array Bool}(d:HeadInv .any l.toArray m s)(j:∀w,St w0 F L w->C w)(k:fV P n w0 Q l m T C f s e F L):
 At n w0 (Nx Q λi h=>C h/\Hd P Q l.toArray m (λs a w=>(Region.seqB .any l.toArray (l.length-m) m s=true)/\T a w) C f s i h) .normal e F L:=λa w o g=>⟨j w g,k d a w o g⟩
theorem dz{ops:Array Oper}{f:Nat}{s:Array Bool}{d:List Item}(g:HeadInv .any l.toArray m s)(o:d.Sublist L)(k:fV P n w0 Q l m T (λw=>St w0 F (d) w) f s e F L):
 br P n w0 ops (Nx Q λj i=>(λw=>St w0 F (d) w) i/\Hd P Q l.toArray m (λs a w=>(Region.seqB .any l.toArray (l.length-m) m s=true)/\T a w) (λw=>St w0 F (d) w) f s j i) [] e F L:=al (At.hd g (λw h=>h.sublist o) k)
theorem fV.ts{f d:Nat}{s:Array Bool}{o:Oper}{v:Value}{g:List Item}(a:Region.noSelect l.toArray=true)(p:n4 l.toArray m)(i:Nat)(A:g.Sublist L)(y:l[i]?=some o)(B:Ev P n w0 e F g o v)
 (k:fV P n w0 Q l m T (λw=>St w0 F g w) f (s.setIfInBounds i true) ((d,v)::e) F L) (hd:o.dst=some d:=by exact X) (x:d<n.n:=by exact oF X) (j:i<m:=by decide)
 (z:(Region.ready .any l.toArray s).contains i=true:=by kernel_rfl) (q:Region.free .any l.toArray s i=true:=by kernel_rfl) (t:o.guard=none:=by exact X):fV P n w0 Q l m T (λw=>St w0 F g w) (f+1) s e F L:=
 Jb a p i (λw h=>h.sublist A) y hd x j z q t B k
theorem aP{f d:Nat}{s:Array Bool}{o:Oper}{v:Value}{g:List Item}(hd:o.dst=some d)(a:Region.noSelect l.toArray=true)(p:n4 l.toArray m)(i:Nat)(A:g.Sublist L)(y:l[i]?=some o)(B:Ev P n w0 e F g o v)
 (k:fV P n w0 Q l m T (λw=>St w0 F g w) f (s.setIfInBounds i true) ((d,v)::e) F L) (x:d<n.n:=by exact oF X) (j:i<m:=by decide)
 (z:(Region.ready .any l.toArray s).contains i=true:=by kernel_rfl) (q:Region.free .any l.toArray s i=true:=by kernel_rfl) (t:o.guard=none:=by exact X):fV P n w0 Q l m T (λw=>St w0 F g w) (f+1) s e F L:=
 Jb a p i (λw h=>h.sublist A) y hd x j z q t B k
theorem fV.o1{f:Nat}{s:Array Bool}{o:Oper}(i:Nat)(h:HeadInv .any l.toArray m (s.setIfInBounds i true)->br P n w0 l.toArray (Nx Q λg d=>C d/\Hd P Q l.toArray m (λs a w=>(Region.seqB .any l.toArray (l.length-m) m s=true)/\T a w) C f (s.setIfInBounds i true) g d) [o] e F L)
 (k:Region.ready .any l.toArray s=[i]:=by kernel_rfl) (hi:i<m:=by decide) (j:l[i]?=some o:=by exact X):fV P n w0 Q l m T C (f+1) s e F L:=fV.step [i] k X (lZ.c h cy hi j)
theorem fV.rU{f:Nat}{s:Array Bool}(C':World->Prop)(g:∀w,C' w->C w)(k:fV P n w0 Q l m T C' f s e F L):fV P n w0 Q l m T C f s e F L:=λd a w h i=>Hd.mono g _ _ _ _ (k d a w h i)
theorem adU{f:Nat}{s:Array Bool}{e':List (Nat×Value)}{L':List Item}(i:sub e e')(g:L=L')(k:fV P n w0 Q l m T C f s e' F L'):fV P n w0 Q l m T C f s e F L:=by subst g;exact λd a w h j=>k d a w (h.sub i) j
theorem Ik{K:Nat}(m:Nat)(T:Act->World->Prop)(A:P.follows .mixedOrders=true)(z:m<=l.length)(h:fV P n w0 Q l m T (λ_=>True) m (Array.replicate l.length false) e F L)
 (k:∀a w,T a w->wpList P l.toArray Q (l.drop m) a w):Cd P n w0 Q (.region K l.toArray true) e F L:=by
 intro a w y D;have f:HeadInv .any l.toArray m (Array.replicate l.length false):=by
  constructor
  .simp
  .intro j M _ q;rw[getD_replicate_false]at q;cases q
  .intro t _ B;exact getD_in (by simpa using B) (getD_replicate_false _ _)
 have H:=h f a {w with drawn:=w.drawn+1} y D.drew;refine wp_region_any A ?_;have d:(l.drop m).length=l.length-m:=by simp
 have i:=Tw (Q:=Q) (g:=l.length-m) (λs o x p=>by
  have:=wpAny_of_seq (P:=P) (md:=.any) (ops:=l.toArray) (Q':=Q) (l.drop m) m s o x (λj=>by simp) (by rw[d];exact p.1) (k o x p.2)
  rwa[d]at this) m _ a {w with drawn:=w.drawn+1} H
 rw[show m+(l.length-m)=l.length by omega]at i;simpa using i
theorem O1{σ:Type}{f:bM}{env:σ->List (Nat×Value)}{hR:σ->List Item}{d:bM->σ->Prop}(s:σ)(g:dC f F)(k:sub e (env s))(i:L=hR s)(h:d F s):
 At n w0 (Nx Q (uX n w0 f env hR d)) .normal e F L:=by
 subst i;exact λa w j o=>⟨F,s,g,j.sub k,o,h⟩
theorem Pe{σ:Type}{y:Nat}(m:Nat)(env:σ->List (Nat×Value))(hR:σ->List Item)(d:bM->σ->Prop)(t:P.follows .mixedOrders=true)(g:decide (m<=l.length)=true)(q:n4 l.toArray m)(x:Region.noSelect l.toArray=true)
 (h:Region.noSelect l.toArray=true->n4 l.toArray m->fV P n w0 Q l m (uX n w0 F env hR d) (λ_=>True) m (Array.replicate l.length false) e F L)
 (k:∀f s,dC F f->d f s->br P n w0 l.toArray Q (l.drop m) (env s) f (hR s)):Cd P n w0 Q (.region y l.toArray true) e F L:=
 Ik m _ t (by simpa using g) (h x q) λa w⟨f,s,i,j,o,p⟩=>k f s i p a w j o
end
abbrev fz:=@At.hd
abbrev eY:=@O1
abbrev ii:=@Pe
abbrev e7:=@fV.done
abbrev dV:=@fV.rU
abbrev dh:=@fV.o1
abbrev lq:=@fV.step
abbrev f4:=@lZ.c
end Go.Proofs.YteagbdjohkfneaaGreatDoor
namespace Go.Proofs.YteagbdjohkfneaaGreatDoor
open Go.RowKit an
theorem bS.le{cs:List Value}{off:Nat}{ch:List Value}(h:bS cs off ch):off+ch.length<=cs.length:=by obtain⟨A,B,rfl,rfl⟩:=h;simp
theorem bS.at{cs:List Value}{off:Nat}{ch:List Value}(h:bS cs off ch){j:Nat}{v:Value}(a:ch[j]?=some v):cs[off+j]?=some v:=by obtain⟨A,B,rfl,rfl⟩:=h;have f:=(eO.1 a).1;rw[lR O,it O,za];exact a
theorem bQ.len{cs:List Value}{off:Nat}{vs cs':List Value}(h:bQ cs off vs cs'):cs'.length=cs.length:=by obtain⟨A,o,B,rfl,rfl,a,rfl⟩:=h;simp[a]
theorem bQ.le{cs:List Value}{off:Nat}{vs cs':List Value}(h:bQ cs off vs cs'):off+vs.length<=cs.length:=by obtain⟨A,o,B,rfl,rfl,a,rfl⟩:=h;simp[a]
theorem bQ.eq{cs:List Value}{off:Nat}{vs cs':List Value}(h:bQ cs off vs cs'):cs.take off++vs++cs.drop (off+vs.length)=cs':=by obtain⟨A,o,B,rfl,rfl,a,rfl⟩:=h;rw[<-a];simp[fL]
section
variable {P:Program}{w:World}
theorem vc{b off:Nat}{cs:List Value}{t:TypeId}{a:Nat×Nat}(f:w.heap[b]?=some (.cells cs.toArray t a)):w.cell? ⟨b,off,none⟩=cs[off]?:=by rw[cell_of_row w b off _ t a f];simp
theorem kL(b off k:Nat):(⟨b,off,none⟩:Addr).add k=⟨b,off+k,none⟩:=by unfold Addr.add;split<;>simp_all
theorem HP{b off:Nat}{cs:List Value}{k:TypeId}{a:Nat×Nat}{t:TypeId}{v:Value}(g:w.heap[b]?=some (.cells cs.toArray k a))(f:∀w,(isAgg t).run P w=.ok false w)(i:bS cs off [v]):
 (loadVar t ⟨b,off,none⟩).run P w=.ok v w:=by
 have h:w.cell? ⟨b,off,none⟩=some v:=by rw[vc g];exact i.at (j:=0) X
 simp[loadVar,f,h]
theorem HR{b off:Nat}{cs:List Value}{p:TypeId}{a:Nat×Nat}{t:TypeId}{ch:List Value}{s:Nat}(g:w.heap[b]?=some (.cells cs.toArray p a))(f:∀w,(isAgg t).run P w=.ok true w)
 (o:∀w,(sizeOf t).run P w=.ok s w) (m:ch.length=s) (i:bS cs off ch):(loadVar t ⟨b,off,none⟩).run P w=.ok (.agg ch.toArray) w:=by
 have h:=run_loadCells_list (P:=P) (w:=w) ⟨b,off,none⟩ ch (λj v k=>by rw[kL,vc g];exact i.at k);simp[loadVar,f,o,<-m,h]
theorem NO{b off:Nat}{cs cs' vs:List Value}{h t:TypeId}{v:Value}{s:Nat}(j:w.heap[b]?=some (.cells cs.toArray h (0,0)))(m:∀w,(sizeOf t).run P w=.ok s w)(g:v.cells.toList=vs)
 (k:vs.length=s) (hp:bQ cs off vs cs') (i:vs.all qJ=true):(storeVar t ⟨b,off,none⟩ v).run P w=.ok () (w.setRow b cs'.toArray):=by
 have a:=run_storeCells_at (P:=P) b off h vs 0 cs.toArray w j (by have:=hp.le;simp;omega) (by intro u o;exact lQ.1 i u o);have f:v.cells.size=s:=by rw[<-k,<-g];simp
 simp only[lj]at a;rw[hp.eq]at a;subst g;simp only[storeVar,Sem.run_bind,m,Result.andThen_ok,f];simpa using a
end
section
variable {P:Program}{n:Fm}{w0:World}{ops:Array Oper}{Q:Exit->Act->World->Prop}{l:List Oper}{e:List (Nat×Value)}{F:bM}{L L':List Item}{v:Value}{dst:Option Nat}{d:Nat}{ty:TypeId}{pos:String}{bo:Array Edge}{gd:Option (Nat×Bool)}
theorem St.get{w:World}(h:St w0 F L w){i:Nat}{a:Item}(hi:L[i]?=some a):a.holds (World.hp w):=h.holds a (j8 hi)
theorem Ev.load{x:Operand}{t:TypeId}{b off i:Nat}{cs:List Value}{f:TypeId}(p:ev e x=some (.pointer (some ⟨b,off,none⟩)))(g:L[i]?=some (.ak b cs f))(j:∀w,(isAgg t).run P w=.ok false w)
 (m:bS cs off [v]):Ev P n w0 e F L ⟨dst,.load t x,ty,pos,bo,gd⟩ v:=λa w h o=>by
 have k:w.heap[b]?=some (.cells cs.toArray f (0,0)):=o.get g;simp[execOp,h.eval p,Instr.loadAt,Instr.sureAddr,HP k j m]
theorem PS{x:Operand}{t:TypeId}{b off i s:Nat}{cs ch:List Value}{f:TypeId}(y:ev e x=some (.pointer (some ⟨b,off,none⟩)))(g:L[i]?=some (.ak b cs f))(j:∀w,(isAgg t).run P w=.ok true w)
 (p:∀w,(sizeOf t).run P w=.ok s w) (o:ch.length=s) (m:bS cs off ch):Ev P n w0 e F L ⟨dst,.load t x,ty,pos,bo,gd⟩ (.agg ch.toArray):=λa w h q=>by
 have k:w.heap[b]?=some (.cells cs.toArray f (0,0)):=q.get g;simp[execOp,h.eval y,Instr.loadAt,Instr.sureAddr,HR k j p o m]
theorem my{L:List Item}{i:Nat}{x:Item}(h:L[i]?=some x):L=L.take i++x::L.drop (i+1):=by have hi:=(eO.1 h).1;have a:L[i]=x:=(eO.1 h).2;rw[<-a,<-jg hi,eQ]
theorem mw{L:List Item}{i:Nat}{x y:Item}(h:L[i]?=some x):L.set i y=L.take i++y::L.drop (i+1):=by have hi:=(eO.1 h).1;rw[yX,bE hi]
theorem St.setRow{w:World}{b i:Nat}{j it':Item}{cs:List Value}(h:St w0 F L w)(k:L[i]?=some j)(hi:b∈j.df)(o:it'.df=j.df)
 (a:∀g:Nat->Option Obj,(∀old t f,w.heap[b]?=some (.cells old t f)->g b=some (.cells cs.toArray t f))->it'.holds g):St w0 F (L.set i it') (w.setRow b cs.toArray):=by
 rw[mw k];rw[my k]at h;refine h.change hi o _ (a _ λold t f m=>?_);exact setRow_heap w b old cs.toArray t f m
theorem br.store{x y:Operand}{t:TypeId}{b off i s:Nat}{cs cs' vs:List Value}{o:TypeId}(B:gd=none)(f:dst=none)(M:ev e x=some (.pointer (some ⟨b,off,none⟩)))(S:ev e y=some v)(p:L[i]?=some (.ak b cs o))
 (H:∀w,(sizeOf t).run P w=.ok s w) (K:v.cells.toList=vs) (C:vs.length=s) (A:vs.all qJ=true) (hp:bQ cs off vs cs') (j:L.set i (.ak b cs' o)=L')
 (k:br P n w0 ops Q l e F L'):br P n w0 ops Q (⟨dst,.store t x y,ty,pos,bo,gd⟩::l) e F L:=
 gQ B λa w h z=>by
  subst j f;have q:w.heap[b]?=some (.cells cs.toArray o (0,0)):=z.get p;unfold Oper.wp;have D:(execOp a.eval ⟨none,.store t x y,ty,pos,bo,gd⟩).run P w=.ok .skip (w.setRow b cs'.toArray):=by simp[execOp,h.eval M,h.eval S,Instr.storeAt,Instr.sureAddr,NO q H K C hp A]
  rw[D,Oper.upon_skip];refine k _ _ h (z.setRow p (by simp[Item.df]) X λg m=>?_);exact m _ _ _ q
theorem br.alloc{t:TypeId}{z:Value}{cs:List Value}(m:gd=none)(f:dst=some d)(o:d<n.n)(s:∀w,(zeroValue t).run P w=.ok z w)(j:z.cells=cs.toArray)
 (k:∀b,br P n w0 ops Q l ((d,.pointer (some ⟨b,0,none⟩))::e) F (.ak b cs t::L)):br P n w0 ops Q (⟨dst,.alloc t,ty,pos,bo,gd⟩::l) e F L:=
 gQ m λa w h q=>by
  subst f;unfold Oper.wp;have p:(execOp a.eval ⟨some d,.alloc t,ty,pos,bo,gd⟩).run P w=.ok (.value (.pointer (some ⟨w.heap.size,0,none⟩))) {w with heap:=w.heap.push (.cells cs.toArray t)}:=by simp[execOp,Instr.alloc,s,newVar,newRow,j]
  rw[p,Oper.upon_value];exact k _ _ _ (h.put o _) (q.new _ X λg i=>i)
theorem br.box{t:TypeId}{x:Operand}{cs:List Value}(m:gd=none)(f:dst=some d)(o:d<n.n)(s:ev e x=some v)(j:v.cells=cs.toArray)
 (k:∀b,br P n w0 ops Q l ((d,.pointer (some ⟨b,0,none⟩))::e) F (.ak b cs t::L)):br P n w0 ops Q (⟨dst,.box t x,ty,pos,bo,gd⟩::l) e F L:=
 gQ m λa w h q=>by
  subst f;unfold Oper.wp;have p:(execOp a.eval ⟨some d,.box t x,ty,pos,bo,gd⟩).run P w=.ok (.value (.pointer (some ⟨w.heap.size,0,none⟩))) {w with heap:=w.heap.push (.cells cs.toArray t)}:=by simp[execOp,Instr.box,h.eval s,newVar,newRow,j]
  rw[p,Oper.upon_value];exact k _ _ _ (h.put o _) (q.new _ X λg i=>i)
def Rd{α:Type}[an α](w0:World)(F:bM)(L:List Item)(v:Sl)(xs:List α):Prop:=∀w,St w0 F L w->∃t a,jk a (World.hp w) v t (sz α) (aa xs)
theorem Rd.own{α:Type}[an α]{v:Sl}{t:TypeId}{s:Nat}{cs:List Value}{xs:List α}{i:Nat}(a:L[i]?=some (.own v t s cs))(g:s=sz α)(f:cs=aa xs):Rd w0 F L v xs:=λw h=>by subst g f;exact⟨t,_,h.get a⟩
theorem aC{α:Type}[an α]{v:Sl}{t:TypeId}{s:Nat}{cs:List Value}{xs:List α}(i:Nat)(a:L[i]?=some (.own v t s cs))(g:s=sz α)(f:cs=aa xs):Rd w0 F L v xs:=Rd.own a g f
theorem Rd.mono{α:Type}[an α]{a:bM}{v:Sl}{xs:List α}(h:Rd w0 F L v xs)(f:dC F a)(g:L.Sublist L'):Rd w0 a L' v xs:=λw i=>h w ((i.weaken f).sublist g)
theorem Rd.nil{α:Type}[an α]:Rd (α:=α) w0 F L Sl.nil []:=λw _=>⟨0,(0,0),by simp[aa,Sl.nil],by simp[Sl.nil],.inl ⟨X,X⟩⟩
theorem jk.len{a:Nat×Nat}{α:Type}[an α](f:0<sz α){h:Nat->Option Obj}{v:Sl}{t:TypeId}{xs:List α}(g:jk a h v t (sz α) (aa xs)):v.len=xs.length:=by have:=g.1;rw[eD]at this;exact(Nat.eq_of_mul_eq_mul_right f this).symm
theorem Rd.ak{α:Type}[an α]{b off i n:Nat}{cs:List Value}{t:TypeId}{xs:List α}(g:L[i]?=some (.ak b cs t))(j:bS cs off (aa xs))(k:xs.length=n)(a:n<=2^63-1):Rd w0 F L ⟨some ⟨b,off,none⟩,n,n⟩ xs:=λw o=>by obtain⟨A,B,f,m⟩:=j;have h:w.heap[b]?=some (.cells cs.toArray t (0,0)):=o.get g;subst k;exact⟨t,(0,0),eD xs,a,.inr ⟨b,off,A,B,X,by rw[<-f];exact h,m,dG _,by rw[cH,eD];exact oB _ _⟩⟩
theorem Rd.le{α:Type}[an α](f:0<sz α){v:Sl}{xs:List α}(h:Rd w0 F L v xs):∀w,St w0 F L w->xs.length<=2^63-1:=λw g=>by obtain⟨_,_,a⟩:=h w g;rw[<-a.len f];exact a.2.1
def Sl.at(v:Sl)(k:Nat):Value:=match v.a with
 |some a=>.pointer (some ⟨a.block,a.off+k,none⟩)
 |none=>undef
theorem PN{α:Type}[an α]{x y:Operand}{t el:TypeId}{s:Sl}{xs:List α}{i:Int}{f:Nat}(B:ev e x=some s.v)(C:ev e y=some (.int .i64 i))(z:∀w,(underlying t).run P w=.ok (.slice el) w)
 (q:∀w,(sizeOf el).run P w=.ok f w) (D:f=sz α) (hp:0<sz α) (p:Rd w0 F L s xs) (m:0<=i) (hi:i<xs.length):Ev P n w0 e F L ⟨dst,.indexAddr t x y,ty,pos,bo,gd⟩ (s.at (i.toNat*f)):=λa w h A=>by
 subst D;obtain⟨_,_,j⟩:=p w A;have k:=j.len hp;rcases j.2.2 with⟨H,_⟩|⟨b,off,pre,post,o,_⟩
 .omega
 .have g:i<s.len:=by omega
  simp[execOp,h.eval B,h.eval C,Instr.indexAt,asIntOf,z,Sl.v,o,q,m,g,Sl.at,kL]
theorem jk.block{a:Nat×Nat}{v:Sl}{t:TypeId}{s k:Nat}{xs ch:List Value}{w:World}(g:jk a (World.hp w) v t s xs)(f:bS xs k ch)(o:0<ch.length):
 ∃b off cs a,v.at k=.pointer (some ⟨b,off,none⟩)/\w.heap[b]?=some (.cells cs.toArray t a)/\bS cs off ch:=by
 rcases g.2.2 with⟨h,_⟩|⟨b,off,pre,post,i,j,m,_⟩
 .have:=g.1;have:=f.le;rw[h]at*;omega
 .refine⟨b,off+k,_,_,by simp[Sl.at,i],j,?_⟩;exact cz m (fi f)
theorem PT{α:Type}[an α]{x:Operand}{t:TypeId}{s:Sl}{xs:List α}{k:Nat}(q:ev e x=some (s.at k))(o:Rd w0 F L s xs)(j:∀w,(isAgg t).run P w=.ok false w)
 (m:bS (aa xs) k [v]):Ev P n w0 e F L ⟨dst,.load t x,ty,pos,bo,gd⟩ v:=λa w h p=>by
 obtain⟨b,off,cs,y,f,g,i⟩:=(o w p).choose_spec.choose_spec.block m (by simp);simp[execOp,h.eval q,f,Instr.loadAt,Instr.sureAddr,HP g j i]
theorem PU{α:Type}[an α]{x:Operand}{t:TypeId}{s:Sl}{xs:List α}{ch:List Value}{k m:Nat}(A:ev e x=some (s.at k))(q:Rd w0 F L s xs)(j:∀w,(isAgg t).run P w=.ok true w)
 (y:∀w,(sizeOf t).run P w=.ok m w) (p:ch.length=m) (C:0<m) (o:bS (aa xs) k ch):Ev P n w0 e F L ⟨dst,.load t x,ty,pos,bo,gd⟩ (.agg ch.toArray):=λa w h z=>by
 obtain⟨b,off,cs,B,f,g,i⟩:=(q w z).choose_spec.choose_spec.block o O;simp[execOp,h.eval A,f,Instr.loadAt,Instr.sureAddr,HR g j y p i]
theorem PJ{α:Type}[an α]{x:Operand}{t:TypeId}{s:Sl}{xs:List α}{k off f' m j:Nat}{q:Array Field}{f:Field}{ch:List Value}(W:ev e x=some (s.at off))(M:Rd w0 F L s xs)(D:bS (aa xs) off ch)(A:(ch.length==0)=false)
 (T:∀w,(underlying t).run P w=.ok (.struct q) w) (C:q[k]?=some f) (S:∀w,(sizeOf f.type).run P w=.ok m w) (y:(m==0)=false) (H:f.offset=j) (K:off+j=f'):
 Ev P n w0 e F L ⟨dst,.fieldAddr t x k,ty,pos,bo,gd⟩ (s.at f'):=λa w h V=>by
 subst K H;have i:¬m=0:=by simpa using y
 have B:¬ch.length=0:=by simpa using A
 obtain⟨b,o,cs,fr,z,h2,h3⟩:=(M w V).choose_spec.choose_spec.block D O;have p:s.a=some ⟨b,o-off,none⟩\/s.a.isSome:=by
  right
  cases g:s.a with
  |none=>simp[Sl.at,g,undef]at z
  |some a=>rfl
 cases g:s.a with
 |none=>simp[g]at p
 |some ad=>simp[execOp,h.eval W,Sl.at,g,Instr.fieldAt,T,C,Instr.sureAddr,fieldPlace,S,i,kL]
structure LR(α:Type)where
 v:List α
 h:Sl
instance {α:Type}:an (LR α):=⟨λx=>enc x.h,1,λ_=>rfl,λ_=>rfl⟩
def LR.rel{α:Type}[an α](w0:World)(F:bM)(L:List Item)(x:LR α):Prop:=Rd w0 F L x.h x.v
theorem LR.mono{α:Type}[an α]{a:bM}{x:LR α}(h:LR.rel w0 F L x)(f:dC F a)(g:L.Sublist L'):LR.rel w0 a L' x:=Rd.mono h f g
def aW{ρ:Type}(rel:World->bM->List Item->ρ->Prop)(w0:World)(F:bM)(L:List Item)(a:List ρ):Prop:=∀x∈a,rel w0 F L x
theorem aW.nil{ρ:Type}{rel:World->bM->List Item->ρ->Prop}:aW rel w0 F L []:=λx a=>by simp at a
theorem aW.snoc{ρ:Type}{rel:World->bM->List Item->ρ->Prop}{f:List ρ}{x:ρ}(h:aW rel w0 F L f)(g:rel w0 F L x):aW rel w0 F L (f++[x]):=λy a=>by
 rcases fx.1 a with a|a
 .exact h y a
 .simp at a;subst a;exact g
theorem aW.set{ρ:Type}{rel:World->bM->List Item->ρ->Prop}{f:List ρ}{x:ρ}{i:Nat}(h:aW rel w0 F L f)(g:rel w0 F L x):aW rel w0 F L (f.set i x):=λy a=>by
 rcases qu a with a|rfl
 .exact h y a
 .exact g
theorem aW.rep{ρ:Type}{rel:World->bM->List Item->ρ->Prop}{x:ρ}{k:Nat}(a:rel w0 F L x):aW rel w0 F L (List.replicate k x):=λy f=>by rw[List.eq_of_mem_replicate f];exact a
theorem OQ{α:Type}[an α]{a:bM}{f:List (LR α)}(h:aW LR.rel w0 F L f)(g:dC F a)(i:L.Sublist L'):aW LR.rel w0 a L' f:=λx j=>LR.mono (h x j) g i
theorem qz{ρ α:Type}{f:ρ->α}{g:List ρ}{xs:List α}(j:g.map f=xs){i:Nat}{x:α}(a:xs[i]?=some x):∃r,g[i]?=some r/\f r=x/\r∈g:=by
 subst j;rw[jh]at a
 cases h:g[i]? with
 |none=>rw[h]at a;cases a
 |some r=>rw[h]at a;exact⟨r,X,dp a,j8 h⟩
theorem gi{ρ α:Type}{f:ρ->α}{a:List ρ}{xs:List α}(g:a.map f=xs):a.length=xs.length:=by rw[<-g];simp
theorem map_set{ρ α:Type}{f:ρ->α}{a:List ρ}{xs:List α}(g:a.map f=xs)(i:Nat)(r:ρ):(a.set i r).map f=xs.set i (f r):=by rw[<-g,tN]
theorem Mf{ρ α:Type}{f:ρ->α}(k:Nat)(r:ρ):(List.replicate k r).map f=List.replicate k (f r):=by simp
theorem Rd.frozen{α:Type}[an α]{a:bM}{v:Sl}{t:TypeId}{s:Nat}{cs:List Value}{xs:List α}(h:∀w,St w0 a [] w->(Item.own v t s cs).holds (World.hp w))(g:s=sz α)(f:cs=aa xs):Rd w0 a [] v xs:=λw i=>by subst g f;exact⟨t,_,h w i⟩
def Sl.cut(s:Sl)(lo hi m:Nat):Sl:=⟨if s.cap=lo then s.a else s.a.map (·.add (lo*m)),hi-lo,s.cap-lo⟩
theorem jk.cut{i:Nat×Nat}{h:Nat->Option Obj}{v:Sl}{t:TypeId}{m lo hi:Nat}{xs:List Value}(z:jk i h v t m xs)(s:lo<=hi)(x:hi<=v.len):jk i h (v.cut lo hi m) t m ((xs.drop (lo*m)).take ((hi-lo)*m)):=by
 obtain⟨A,B,p⟩:=z;have k:hi*m<=v.len*m:=pt m x;have y:lo*m<=hi*m:=pt m s;have o:(hi-lo)*m=hi*m-lo*m:=Nat.sub_mul _ _ _;refine⟨by simp[Sl.cut];omega,by simp only[Sl.cut];omega,?_⟩;rcases p with⟨a,f⟩|⟨b,off,pre,post,j,a,f,C,q⟩
 .left;simp only[Sl.cut];exact⟨by omega,by omega⟩
 .right;by_cases g:v.cap=lo
  .refine⟨b,off,pre,xs++post,by simp only[Sl.cut,bE g];exact j,?_,f,by simp only[Sl.cut];omega,?_⟩
   .have:(hi-lo)=0:=by omega
    rw[this];simpa using a
   .simp only[Sl.cut,g];simp
  .refine⟨b,off+lo*m,pre++xs.take (lo*m),(xs.drop (lo*m)).drop ((hi-lo)*m)++post,?_,?_,?_,?_,?_⟩
   .simp only[Sl.cut,ca g,j,tI,kL]
   .rw[a];congr 2;rw[fL,<-fL (List.take ((hi-lo)*m) _),eQ,<-fL (List.take (lo*m) xs),eQ]
   .simp[f];omega
   .simp only[Sl.cut];omega
   .simp only[Sl.cut,Nat.sub_mul];have:v.cap*m<=xs.length+post.length:=by simpa using q
    simp;omega
theorem Rd.cut{α:Type}[an α](i:0<sz α){v:Sl}{xs:List α}{lo hi:Nat}(h:Rd w0 F L v xs)(j:lo<=hi)(m:hi<=xs.length):Rd w0 F L (v.cut lo hi (sz α)) ((xs.drop lo).take (hi-lo)):=λw k=>by obtain⟨t,g,a⟩:=h w k;have f:=a.len i;refine⟨t,g,?_⟩;have:=a.cut (lo:=lo) (hi:=hi) j O;rwa[<-yh,<-vg]at this
theorem Sg{x y:Operand}{t el:TypeId}{s:Sl}{k i m A:Nat}{xs xs' vs:List Value}(hg:gd=none)(j:dst=none)(hx:ev e x=some (s.at k))(hy:ev e y=some v)(K:L[i]?=some (.own s el A xs))
 (hs:∀w,(sizeOf t).run P w=.ok m w) (hv:v.cells.toList=vs) (hl:vs.length=m) (h0:0<m) (W:vs.all qJ=true) (hp:bQ xs k vs xs') (B:L.set i (.own s el A xs')=L')
 (kk:br P n w0 ops Q l e F L'):br P n w0 ops Q (⟨dst,.store t x y,ty,pos,bo,gd⟩::l) e F L:=
 gQ hg λa w h T=>by
  subst B j;have z:jj (World.hp w) s el A xs:=T.get K;rcases z.2.2 with⟨V,_⟩|⟨b,off,pre,post,q,M,S,f,D⟩
  .have:=z.1;have:=hp.le;rw[V]at*;omega
  .have C:s.at k=.pointer (some ⟨b,off+k,none⟩):=by simp[Sl.at,q]
   have o:bQ (pre++(xs++post)) (off+k) vs (pre++(xs'++post)):=cr S (eS hp);unfold Oper.wp;have p:(execOp a.eval ⟨none,.store t x y,ty,pos,bo,gd⟩).run P w=.ok .skip (w.setRow b (pre++(xs'++post)).toArray):=by simp[execOp,h.eval hx,h.eval hy,C,Instr.storeAt,Instr.sureAddr,NO M hs hv hl o W]
   rw[p,Oper.upon_skip];refine kk _ _ h (T.setRow K (by simp[Item.df,Sl.df,q]) (by simp[Item.df,Sl.df,q]) λg H=>?_);refine⟨by rw[hp.len];exact z.1,z.2.1,.inr ⟨b,off,pre,post,q,H _ _ _ M,S,f,?_⟩⟩;rw[cH,hp.len,<-cH];exact D
end
abbrev cB:=@OQ
abbrev oL:=@aW.set
abbrev fH:=@PJ
abbrev bX:=@PN
abbrev ax:=@Ev.load
abbrev dN:=@PS
abbrev cE:=@PT
abbrev ij:=@PU
abbrev cY:=@br.alloc
abbrev fy:=@br.box
abbrev jm:=@Sg
abbrev hX:=@Rd.cut
abbrev oJ:=@Rd.frozen
abbrev dE:=@Rd.le
abbrev mm:=@Rd.nil
abbrev nJ:=@Rd.own
def nf(w0:World)(F:bM)(post:bM->List Item->Value->Prop)(e:Ending)(f:World):Prop:=
 ∃a L' v,e=.returned v/\dC F a/\St w0 a L' f/\post a L' v
def Ok(P:Program)(w0:World)(f:FuncId)(args:List Value)(F:bM)(L:List Item)(post:bM->List Item->Value->Prop):Prop:=
 ∀w,St w0 F L w->Calls P f args.toArray w (nf w0 F post)
def Is(v:Value)(L:List Item):bM->List Item->Value->Prop:=λ_ L' u=>u=v/\L'=L
theorem Ok.mono{P:Program}{w0:World}{f:FuncId}{args:List Value}{F:bM}{L:List Item}{post a:bM->List Item->Value->Prop}(h:Ok P w0 f args F L post)(hp:∀g L' v,dC F g->post g L' v->a g L' v):Ok P w0 f args F L a:=
 λw o=>(h w o).mono λ_ _⟨g,L',v,j,i,k,m⟩=>⟨g,L',v,j,i,k,hp g L' v i m⟩
def rD:Nat->List Value->List (Nat×Value)
 |_,[]=>[]
 |k,v::vs=>(k,v)::rD (k+1) vs
theorem CG:∀(vs:List Value)(k t:Nat)(v:Value),look (rD k vs) t=some v->k<=t/\vs[t-k]?=some v
 |[],_,_,_,h=>by simp[rD,look]at h
 |u::vs,k,t,v,h=>by
  simp only[rD,look]at h;by_cases a:k=t
  .subst a;simp only[mP,pA]at h;simpa using h
  .have:(k==t)=false:=by simpa using a
   rw[this,rQ]at h;obtain⟨g,f⟩:=CG vs (k+1) t v h;refine⟨by omega,?_⟩;rw[show t-k=(t-(k+1))+1 by omega];simpa using f
theorem Ok.enter{P:Program}{w0:World}{f:FuncId}{args:List Value}{F:bM}{L:List Item}{post:bM->List Item->Value->Prop}{fn:Func}{c:Code}{n m:Nat}(i:P.funcs[f]?=some fn)(g:fn.body=some c)(o:fn.ntmps=n)
 (k:args.length=m) (j:m<=n) (h:Cd P ⟨n,[]⟩ w0 (bodyPost P fn (nf w0 F post)) c (rD 0 args) F L):Ok P w0 f args F L post:=λw q=>by
 subst o k;refine calls_of_wp i g (h _ w ⟨X,by simp;omega,λt v p=>?_⟩ q);have:=(CG args 0 t v p).2;simp only[px]at this;have a:=(eO.1 this).1;rw[GR (by simpa using a)];simpa using this
section
variable {P:Program}{n:Fm}{w0:World}{ops:Array Oper}{Q:Exit->Act->World->Prop}{K:Act->Prop}{l:List Oper}{e:List (Nat×Value)}{F F0:bM}{L L':List Item}{v:Value}{dst:Option Nat}{d:Nat}{ty:TypeId}{pos:String}{bo:Array Edge}{gd:Option (Nat×Bool)}
 {post:bM->List Item->Value->Prop} {fn:Func}
def wK(f:Array Value)(r:ResultVar):Sem Value:=match r with
 |.tmp t=>pure (f.getD t undef)
 |.cell a t=>do loadVar t (<-asAddr (f.getD a undef))
theorem An(fn:Func)(f:Array Value):results fn f=(do let vs<-fn.results.mapM (wK f);pure (if h:vs.size=1 then vs[0]else .tuple vs)):=by
 have g:wK f=(λ|.tmp t=>pure (f.getD t undef)|.cell a t=>do loadVar t (<-asAddr (f.getD a undef))):=by funext r;cases r<;>rfl
 rw[g];rfl
def kH(P:Program)(n:Fm)(w0:World)(e:List (Nat×Value))(F:bM)(L:List Item)(r:ResultVar)(v:Value):Prop:=
 ∀a w,fU n a e->St w0 F L w->(wK a.tmps r).run P w=.ok v w
theorem kH.tmp{t:Nat}(h:look e t=some v):kH P n w0 e F L (.tmp t) v:=λa w f _=>by simp[wK,Cr,f.get t v h]
theorem kH.cell{t:TypeId}{f b i:Nat}{cs:List Value}{g:TypeId}(h:look e f=some (.pointer (some ⟨b,0,none⟩)))(k:L[i]?=some (.ak b cs g))(m:∀w,(isAgg t).run P w=.ok false w)(p:cs=[v]):kH P n w0 e F L (.cell f t) v:=λa w j q=>by have o:w.heap[b]?=some (.cells cs.toArray g (0,0)):=q.get k;subst p;simp[wK,Cr,j.get f _ h,asAddr,HP o m (ms [v])]
theorem S2{t:TypeId}{f b i s:Nat}{cs:List Value}{g:TypeId}(h:look e f=some (.pointer (some ⟨b,0,none⟩)))(k:L[i]?=some (.ak b cs g))(m:∀w,(isAgg t).run P w=.ok true w)(q:∀w,(sizeOf t).run P w=.ok s w)(p:cs.length=s):
 kH P n w0 e F L (.cell f t) (.agg cs.toArray):=λa w j x=>by
 have o:w.heap[b]?=some (.cells cs.toArray g (0,0)):=x.get k;simp[wK,Cr,j.get f _ h,asAddr,HR o m q p (ms cs)]
theorem At.out{x:Exit}(m:x=.ret\/x=.normal)(j:∀a w,fU n a e->St w0 F L w->(results fn a.tmps).run P w=.ok v w)(h:dC F0 F)(k:L'.Sublist L)(hp:post F L' v)(i:n.ds=[]:=by exact X):At n w0 (bodyPost P fn (nf w0 F0 post)) x e F L:=λa w f g=>by rcases m with rfl|rfl<;>exact⟨f.defers.trans i,v,j a w f g,F,L',v,X,h,g.sublist k,hp⟩
theorem O2{x:Exit}(j:x=.ret\/x=.normal)(f:fn.results=#[])(g:dC F0 F)(i:L'.Sublist L)(hp:post F L' (.tuple #[]))(h:n.ds=[]:=by exact X):At n w0 (bodyPost P fn (nf w0 F0 post)) x e F L:=
 At.out j (λa w k m=>by simp[results,f]) g i hp h
theorem O3{g:ResultVar}(f:fn.results=#[g])(h:kH P n w0 e F L g v)(i:dC F0 F)(m:L'.Sublist L)(hp:post F L' v)(k:n.ds=[]:=by exact X):At n w0 (bodyPost P fn (nf w0 F0 post)) .ret e F L:=
 At.out (.inl X) (λa w j o=>by
  have:=h a w j o
  simp[An,f,this]) i m hp k
theorem O4{i j:ResultVar}{k m:Value}(f:fn.results=#[i,j])(p:kH P n w0 e F L i k)(q:kH P n w0 e F L j m)(s:dC F0 F)(x:L'.Sublist L)(hp:post F L' (.tuple #[k,m]))(t:n.ds=[]:=by exact X):At n w0 (bodyPost P fn (nf w0 F0 post)) .ret e F L:=
 At.out (.inl X) (λa w g h=>by
  have:=p a w g h;have o:=q a w g h
  simp[An,f,this,o]) s x hp t
theorem O5{i j k:ResultVar}{m o v3:Value}(f:fn.results=#[i,j,k])(s:kH P n w0 e F L i m)(t:kH P n w0 e F L j o)(x:kH P n w0 e F L k v3)(y:dC F0 F)(A:L'.Sublist L)(hp:post F L' (.tuple #[m,o,v3]))(z:n.ds=[]:=by exact X):
 At n w0 (bodyPost P fn (nf w0 F0 post)) .ret e F L:=
 At.out (.inl X) (λa w g h=>by
  have:=s a w g h;have p:=t a w g h;have q:=x a w g h
  simp[An,f,this,p,q]) y A hp z
theorem uw{f:FuncId}{xs:List Operand}{vs:List Value}{h:Array TypeId}{a:Act}{w:World}(i:fU n a e)(k:iU e xs vs)(g:∀(args:Array Value)(w:World),(callFunc f args).run P w=.ok (.enter f args) w):
 (execOp a.eval ⟨dst,.call ⟨.value (.func f),xs.toArray,h⟩,ty,pos,bo,gd⟩).run P w=.ok (.enter f vs.toArray) w:=by
 have j:=i.yk k;simp[execOp,resolve,Deferred.ofValue,Act.eval,invoke,g];exact j
theorem br.call{f:FuncId}{xs:List Operand}{vs:List Value}{m:Array TypeId}(s:gd=none)(j:dst=some d)(t:d<n.n)(y:iU e xs vs)(g:∀(args:Array Value)(w:World),(callFunc f args).run P w=.ok (.enter f args) w)(q:Ok P w0 f vs F L post)
 (k:∀i L' v,dC F i->post i L' v->br P n w0 ops Q l ((d,v)::e) i L'):br P n w0 ops Q (⟨dst,.call ⟨.value (.func f),xs.toArray,m⟩,ty,pos,bo,gd⟩::l) e F L:=
 gQ s λa w h x=>by subst j;unfold Oper.wp;rw[uw h y g,Oper.upon_enter];refine(q w x).mono ?_;rintro _ z ⟨i,L',v,rfl,p,o,hp⟩;exact k i L' v p hp _ _ (h.put t v) o
theorem RX{j:Nat}{g:Bool}{t:Nat}{b:Bool}{f:FuncId}{xs:List Operand}{vs:List Value}{o:Array TypeId}(z:gd=some (j,g))(A:(ops[j]?).bind (·.dst)=some t)(C:look e t=some (.bool b))(y:b=g)(m:dst=some d)(B:d<n.n)(H:iU e xs vs)
 (h:∀(args:Array Value)(w:World),(callFunc f args).run P w=.ok (.enter f args) w) (x:Ok P w0 f vs F L post)
 (k:∀i L' v,dC F i->post i L' v->br P n w0 ops Q l ((d,v)::e) i L'):br P n w0 ops Q (⟨dst,.call ⟨.value (.func f),xs.toArray,o⟩,ty,pos,bo,gd⟩::l) e F L:=by
 intro a w p D;unfold wpList;rw[bE (by rw[sF p z A C,y];simp)];refine .inl ?_;subst m;unfold Oper.wp;rw[uw p H h,Oper.upon_enter];refine(x w D).mono ?_;rintro _ M ⟨i,L',v,rfl,s,q,hp⟩;exact k i L' v s hp _ _ (p.put B v) q
theorem RU{f:FuncId}{xs:List Operand}{vs:List Value}{i:Array TypeId}(s:gd=none)(h:dst=some d)(t:d<n.n)(y:iU e xs vs)(g:∀(args:Array Value)(w:World),(callFunc f args).run P w=.ok (.enter f args) w)(p:Ok P w0 f vs F L (Is v L))
 (k:br P n w0 ops Q l ((d,v)::e) F L):br P n w0 ops Q (⟨dst,.call ⟨.value (.func f),xs.toArray,i⟩,ty,pos,bo,gd⟩::l) e F L:=
 br.call s h t y g p λ_ _ _ o⟨j,m⟩=>by subst j m;exact λa w q x=>k a w q (x.weaken o)
theorem RW{j:Nat}{g:Bool}{t:Nat}{b:Bool}{f:FuncId}{xs:List Operand}{vs:List Value}{m:Array TypeId}(z:gd=some (j,g))(A:(ops[j]?).bind (·.dst)=some t)(C:look e t=some (.bool b))(y:b=g)(i:dst=some d)(B:d<n.n)(H:iU e xs vs)
 (h:∀(args:Array Value)(w:World),(callFunc f args).run P w=.ok (.enter f args) w) (s:Ok P w0 f vs F L (Is v L))
 (k:br P n w0 ops Q l ((d,v)::e) F L):br P n w0 ops Q (⟨dst,.call ⟨.value (.func f),xs.toArray,m⟩,ty,pos,bo,gd⟩::l) e F L:=
 RX z A C y i B H h s λ_ _ _ q⟨o,p⟩=>by subst o p;exact λa w x D=>k a w x (D.weaken q)
theorem Qt.call{f:FuncId}{xs:List Operand}{vs:List Value}{i:Array TypeId}(q:gd=none)(h:dst=some d)(s:d<n.n)(x:iU e xs vs)(g:∀(args:Array Value)(w:World),(callFunc f args).run P w=.ok (.enter f args) w)(p:Ok P w0 f vs F L (Is v L))
 (k:Qt P n w0 ops K l ((d,v)::e) F L):Qt P n w0 ops K (⟨dst,.call ⟨.value (.func f),xs.toArray,i⟩,ty,pos,bo,gd⟩::l) e F L:=by
 intro a m;unfold wpQuiet;rw[bE (by simp[Region.wanted,q])];subst h;refine⟨v,λw t=>?_,k _ (m.put s v)⟩;unfold Oper.quietAt;rw[uw m x g];refine⟨X,(p w t).mono ?_⟩;rintro _ z ⟨y,L',v,rfl,o,j,rfl,rfl⟩;exact⟨X,j.weaken o⟩
theorem Js{j:Nat}{g:Bool}{t:Nat}{b:Bool}{f:FuncId}{xs:List Operand}{vs:List Value}{m:Array TypeId}(y:gd=some (j,g))(z:(ops[j]?).bind (·.dst)=some t)(B:look e t=some (.bool b))(x:b=g)(i:dst=some d)(A:d<n.n)(D:iU e xs vs)
 (h:∀(args:Array Value)(w:World),(callFunc f args).run P w=.ok (.enter f args) w) (s:Ok P w0 f vs F L (Is v L))
 (k:Qt P n w0 ops K l ((d,v)::e) F L):Qt P n w0 ops K (⟨dst,.call ⟨.value (.func f),xs.toArray,m⟩,ty,pos,bo,gd⟩::l) e F L:=by
 intro a o;unfold wpQuiet;rw[bE (by rw[sF o y z B,x];simp)];subst i;refine⟨v,λw C=>?_,k _ (o.put A v)⟩;unfold Oper.quietAt;rw[uw o D h];refine⟨X,(s w C).mono ?_⟩;rintro _ M ⟨H,L',v,rfl,q,p,rfl,rfl⟩;exact⟨X,p.weaken q⟩
theorem Ev.extract{x:Operand}{vs:Array Value}{i:Nat}(g:ev e x=some (.tuple vs))(f:vs[i]?=some v):Ev P n w0 e F L ⟨dst,.extract x i,ty,pos,bo,gd⟩ v:=λa w h j=>by simp[execOp,h.eval g,Instr.extract,f]
theorem Ev.nilCheck{x:Operand}{f:Addr}(g:ev e x=some (.pointer (some f))):Ev P n w0 e F L ⟨dst,.nilCheck x,ty,pos,bo,gd⟩ (.pointer (some f)):=λa w h i=>by simp[execOp,h.eval g]
theorem P0{α:Type}[an α]{x:Operand}{s:Sl}{xs:List α}{ch:List Value}{k:Nat}(q:ev e x=some (s.at k))(m:Rd w0 F L s xs)(j:bS (aa xs) k ch)(g:(ch.length==0)=false):Ev P n w0 e F L ⟨dst,.nilCheck x,ty,pos,bo,gd⟩ (s.at k):=λa w h p=>by
 have i:¬ch.length=0:=by simpa using g
 obtain⟨b,o,cs,t,f,y,z⟩:=(m w p).choose_spec.choose_spec.block j O;simp[execOp,h.eval q,f]
theorem Ev.makeFunc{f:Fn}{xs ys:List Operand}{us vs:List Value}(j:iU e xs us)(k:iU e ys vs):Ev P n w0 e F L ⟨dst,.makeFunc f xs.toArray ys.toArray,ty,pos,bo,gd⟩ (.func f us.toArray vs.toArray):=λa w h m=>by have g:=h.yk j;have i:=h.yk k;simp[execOp,Instr.makeFunc,g,i]
theorem uM{x:Operand}{s t:TypeId}{k k':IntKind}{i:Int}{f:TypeDesc}(m:ev e x=some (.int k i))(g:∀w,(underlying s).run P w=.ok f w)(j:∀w,(underlying t).run P w=.ok (.int k') w):
 Ev P n w0 e F L ⟨dst,.convert s t x,ty,pos,bo,gd⟩ (.int k' (k'.wrap i)):=λa w h o=>by
 simp[execOp,h.eval m,convert,g,j,Conv.intToInt]
theorem Py{x:Operand}{s t:TypeId}{k k':IntKind}{i j:Int}{a:TypeDesc}(m:ev e x=some (.int k i))(f:∀w,(underlying s).run P w=.ok a w)(g:∀w,(underlying t).run P w=.ok (.int k') w)(h:k'.wrap i=j):
 Ev P n w0 e F L ⟨dst,.convert s t x,ty,pos,bo,gd⟩ (.int k' j):=by subst h;exact uM m f g
theorem PQ{α:Type}[an α]{x:Operand}{s:Sl}{t el:TypeId}{xs:List α}{f:Array TypeId}(hp:0<sz α)(m:ev e x=some s.v)(g:f[0]?=some t)(j:∀w,(underlying t).run P w=.ok (.slice el) w)(i:Rd w0 F L s xs):
 Ev P n w0 e F L ⟨dst,.call ⟨.builtin .len,#[x],f⟩,ty,pos,bo,gd⟩ (.int .i64 xs.length):=λa w h k=>by
 have:=(i w k).choose_spec.choose_spec.len hp;simp[execOp,resolve,invoke,builtin,Builtin.len_,g,h.eval m,j,Sl.v,goInt,this]
theorem PR{x:Operand}{s:Y}{t:TypeId}{f:Array TypeId}(j:ev e x=some (Y.v s))(g:f[0]?=some t)(i:∀w,(underlying t).run P w=.ok .string w):
 Ev P n w0 e F L ⟨dst,.call ⟨.builtin .len,#[x],f⟩,ty,pos,bo,gd⟩ (.int .i64 s.length):=λa w h k=>by
 simp[execOp,resolve,invoke,builtin,Builtin.len_,g,h.eval j,i,Y.v,Y.b,goInt];rfl
theorem Ev.max2{x y:Operand}{i j:Int}{f:Array TypeId}(g:ev e x=some (.int .i64 i))(k:ev e y=some (.int .i64 j)):
 Ev P n w0 e F L ⟨dst,.call ⟨.builtin .max,#[x,y],f⟩,ty,pos,bo,gd⟩ (.int .i64 (max i j)):=λa w h m=>by
 simp[execOp,resolve,invoke,builtin,Builtin.max_,Builtin.max2,h.eval g,h.eval k];split<;>omega
theorem Ev.min2{x y:Operand}{i j:Int}{f:Array TypeId}(g:ev e x=some (.int .i64 i))(k:ev e y=some (.int .i64 j)):
 Ev P n w0 e F L ⟨dst,.call ⟨.builtin .min,#[x,y],f⟩,ty,pos,bo,gd⟩ (.int .i64 (min i j)):=λa w h m=>by
 simp[execOp,resolve,invoke,builtin,Builtin.min_,Builtin.min2,h.eval g,h.eval k];split<;>omega
theorem bS.extract{cs ch:List Value}{off:Nat}(h:bS cs off ch){s:Nat}(a:ch.length=s):cs.toArray.extract off (off+s)=ch.toArray:=by obtain⟨A,B,rfl,rfl⟩:=h;subst a;simp
theorem N6:∀(vs:List Value)(A old B:List Value)(k:Nat),old.length=vs.length->((vs.zipIdx k).foldl (λcs(p:Value×Nat)=>cs.setIfInBounds (A.length-k+p.2) p.1) (A++(old++B)).toArray)=(A++(vs++B)).toArray\/k>A.length
 |[],A,old,B,k,h=>by
  have:old=[]:=by simpa using h
  subst this;simp
 |v::vs,A,old,B,k,h=>by
  cases old with
  |nil=>simp at h
  |cons o old=>
   by_cases i:k>A.length
   .exact .inr i
   .left;have a:=N6 vs (A++[v]) old B (k+1) (by simpa using h);rcases a with a|a
    .simp only[List.zipIdx_cons,List.foldl_cons];rw[show A.length-k+k=A.length by omega];have f:(A++(o::old++B)).toArray.setIfInBounds A.length v=(A++[v]++(old++B)).toArray:=by
      apply ny;simp
     rw[f];have g:(A++[v]).length-(k+1)=A.length-k:=by simp
     rw[g]at a;rw[a];simp
    .simp at a;omega
theorem ku{a:Nat->Option (Nat×Nat)}{cs:Array Value}:Instr.fill a cs []=some cs:=X
theorem eV{a:Nat->Option (Nat×Nat)}{cs cs' vs:List Value}{i off s:Nat}{v:Value}{rest:List (Nat×Value)}{r:Array Value}(hp:a i=some (off,s))(j:v.cells=vs.toArray)(m:vs.length=s)(h:bQ cs off vs cs')
 (k:Instr.fill a cs'.toArray rest=some r):Instr.fill a cs.toArray ((i,v)::rest)=some r:=by
 have f:=h.le;obtain⟨A,old,B,rfl,rfl,o,rfl⟩:=h;unfold Instr.fill;simp only[hp];have g:v.cells.size=s:=by rw[j];simpa using m
 rw[ca (by rw[g];simp only[mQ,eW,tF];simp at f ⊢;omega)];have:=N6 vs A old B 0 o;simp only[px]at this;rcases this with this|this
 .rw[j];have e:(vs.toArray.zipIdx).foldl (λcs(p:Value×Nat)=>cs.setIfInBounds (A.length+p.2) p.1) (A++(old++B)).toArray=(A++(vs++B)).toArray:=by
   rw[<-Array.foldl_toList];simpa using this
  rw[<-e]at k;exact k
 .omega
theorem st{P:Program}{t:TypeId}{g:Array Field}{z:Value}{places:Array (Nat×Nat)}{zs cs:List Value}{pv:List (Nat×Value)}(j:∀w,(zeroValue t).run P w=.ok z w)(a:z.cells=zs.toArray)(i:∀w,(underlying t).run P w=.ok (.struct g) w)
 (hp:∀w,(g.mapM λf=>do pure (f.offset,<-sizeOf f.type):Sem (Array (Nat×Nat))).run P w=.ok places w) (h:Instr.fill (places[·]?) zs.toArray pv=some cs.toArray) (w:World):(Instr.build t pv.toArray).run P w=.ok (.agg cs.toArray) w:=by
 simp[Instr.build,j,i,a];simp at hp;simp[hp,h]
def rE(e:List (Nat×Value)):List (Nat×Operand)->List (Nat×Value)->Prop
 |[],[]=>True
 |(i,x)::xs,(j,v)::vs=>i=j/\ev e x=some v/\rE e xs vs
 |_,_=>False
theorem fU.rE{a:Act}(h:fU n a e):∀{xs:List (Nat×Operand)}{vs:List (Nat×Value)},rE e xs vs->xs.map (λp=>(p.1,a.eval p.2))=vs
 |[],[],_=>rfl
 |(i,x)::xs,(j,v)::vs,⟨f,g,k⟩=>by subst f;rw[lS,h.eval g,h.rE k]
 |[],_::_,h=>h.elim
 |_::_,[],h=>h.elim
theorem Ev.build{t:TypeId}{ps:List (Nat×Operand)}{pv:List (Nat×Value)}(j:YteagbdjohkfneaaGreatDoor.rE e ps pv)(g:∀w,(Instr.build t pv.toArray).run P w=.ok v w):Ev P n w0 e F L ⟨dst,.build t ps.toArray,ty,pos,bo,gd⟩ v:=λa w h k=>by have i:=h.rE j;have f:=g w;simp only[<-i]at f;simp[execOp];simp[f]
theorem eF{α:Type}[an α]{m:Nat}{z0 x:α}{v:Value}(f:v.cells=(enc x).toArray)(a:sz α=m):Instr.fill (λi=>some (i*m,m)) (aa (List.replicate 1 z0)).toArray [(0,v)]=some (aa [x]).toArray:=
 eV (cs:=aa (List.replicate 1 z0)) (cs':=aa [x]) (vs:=enc x) X f ((an.len x).trans a) ((er (l:=List.replicate 1 z0) (i:=0) (x:=z0) (y:=x) a X (cC ((an.len _).trans (an.len _).symm))).off X) ku
theorem br.buildSlice{α:Type}[an α]{t el:TypeId}{k m:Nat}{ps:List (Nat×Operand)}{pv:List (Nat×Value)}{xs:List α}(y:gd=none)(j:dst=some d)(B:d<n.n)(H:YteagbdjohkfneaaGreatDoor.rE e ps pv)
 (x:∀w,(Instr.buildSlice t k pv.toArray).run P w=.ok (.slice (some ⟨w.heap.size,0,none⟩) k k) {w with heap:=w.heap.push (.cells (aa xs).toArray el)}) (z:xs.length=k) (A:sz α=m) (o:k<=2^63-1)
 (M:∀s:Sl,s.len=k->br P n w0 ops Q l ((d,s.v)::e) F (.own s el m (aa xs)::L)):br P n w0 ops Q (⟨dst,.buildSlice t k ps.toArray,ty,pos,bo,gd⟩::l) e F L:=
 gQ y λa w h D=>by
  subst j A;have q:=h.rE H;have i:=x w;simp only[<-q]at i;unfold Oper.wp;have C:(execOp a.eval ⟨some d,.buildSlice t k ps.toArray,ty,pos,bo,gd⟩).run P w=.ok (.value (.slice (some ⟨w.heap.size,0,none⟩) k k)) {w with heap:=w.heap.push (.cells (aa xs).toArray el)}:=by simp[execOp];simp at i;simp[i]
  rw[C,Oper.upon_value];have f:(aa xs).length=k*sz α:=by rw[eD,z]
  refine M ⟨some ⟨w.heap.size,0,none⟩,k,k⟩ X _ _ (h.put B _) (D.new _ X λg p=>?_);exact⟨f,o,.inr ⟨_,0,[],[],X,by simpa using p,X,dG _,by simp[f]⟩⟩
end
abbrev iG:=@O2
abbrev be:=@O3
abbrev da:=@O4
abbrev oI:=@O5
abbrev de:=@Ev.build
abbrev kE:=@Py
abbrev ck:=@Ev.extract
abbrev bR:=@PQ
abbrev eZ:=@PR
abbrev uc:=@Ev.makeFunc
abbrev nM:=@Ev.max2
abbrev ud:=@Ev.min2
abbrev bP:=@Ev.nilCheck
abbrev lu:=@P0
abbrev dW:=@br.buildSlice
abbrev ml:=@RW
abbrev gk:=@Qt.call
abbrev dZ:=@S2
abbrev ay:=@kH.tmp
theorem set_perm{L:List Item}{i:Nat}{x y:Item}(h:L[i]?=some x):(y::L.eraseIdx i).Perm (L.set i y):=by have hi:=(eO.1 h).1;rw[mw h,GT];exact List.perm_middle.symm
theorem St.lG{w0:World}{F:bM}{L:List Item}{w:World}(h:St w0 F L w)(t:TypeId)(s:Nat):St w0 F (.own Sl.nil t s []::L) w:=by
 refine⟨h.below,h.kv,λb a=>h.apart b ?_,λi hi=>?_,?_⟩
 .rw[gM]at a;simpa[Item.df,Sl.df,Sl.nil]using a
 .rcases fM.1 hi with rfl|hi
  .exact⟨by simp[Sl.nil],by simp[Sl.nil],.inl ⟨X,X⟩⟩
  .exact h.holds i hi
 .rw[gM];simpa[Item.df,Sl.df,Sl.nil]using h.nodup
section
variable {P:Program}{w:World}
theorem ux{o:Nat×Nat}{s:Sl}{t:TypeId}{m:Nat}{xs:List Value}(h:jk o (World.hp w) s t m xs):(Builtin.firstCells m s.len s.v).run P w=.ok xs.toArray w:=by
 rcases h.2.2 with⟨f,x⟩|⟨b,off,pre,post,p,q,y,_⟩
 .have:xs=[]:=by have:=h.1;rw[f]at this;simpa using this
  subst this
  cases g:s.a with
  |none=>simp[Builtin.firstCells,Sl.v,g]
  |some a=>simp[Builtin.firstCells,Sl.v,g,f,loadCells,loadCellsFrom]
 .have i:=run_loadCells_list (P:=P) (w:=w) ⟨b,off,none⟩ xs (λj v k=>by
   rw[kL,vc q];rw[lR O,it (by have:=(eO.1 k).1;omega)]
   rw[show off+j-pre.length=j by omega];exact k)
  rw[h.1]at i;simp only[Builtin.firstCells,Sl.v,p];exact i
theorem jk.drew{a:Nat×Nat}{s:Sl}{t:TypeId}{m:Nat}{xs:List Value}(h:jk a (World.hp w) s t m xs):jk a (World.hp {w with drawn:=w.drawn+1}) s t m xs:=h
end
section
variable {P:Program}{w0:World}{F:bM}{L:List Item}
theorem St.append{FL:Nat×Nat}{w:World}{t ty el FB:TypeId}{i m:Nat}{o:TypeInfo}{z:Value}{s h:Sl}{xs ys:List Value}(hw:St w0 F L w)(hu:∀w,(underlying t).run P w=.ok (.slice el) w)(hi:∀w,(typeInfo el).run P w=.ok o w)(x:o.size=m)(hz:o.zero=some z)(oy:z.cells.size=m)
 (H:L[i]?=some (.own s el m xs)) (C:jk FL (World.hp w) h FB m ys) (h1:ys.all qJ=true) (qj:s.len+h.len<=2^40) (kB:o.bytes<=128):
 ∃s' w',(Builtin.append_ #[t,t] ty #[s.v,h.v]).run P w=.ok s'.v w'/\s'.len=s.len+h.len/\St w0 F (L.set i (.own s' el m (xs++ys))) w':=by
 have hs:jj (World.hp w) s el m xs:=hw.get H;have V:=ux (P:=P) C;have p:(s.len+h.len)*o.bytes<=140737488355328:=kC (tH qj kB) ab;have hl:(xs++ys).length=(s.len+h.len)*m:=by rw[cH,hs.1,C.1,nA]
 by_cases k:s.len+h.len<=s.cap
 .rcases hs.2.2 with⟨g2,g3⟩|⟨b,off,pre,post,hb,hh,ho,vo,S⟩
  .have D:h.len=0:=by omega
   have ey:ys=[]:=by have:=C.1;rw[D]at this;simpa using this
   subst ey;refine⟨s,w,?_,by omega,?_⟩
   .have j:=V;rw[D]at j;simp[Sl.v,D]at j
    cases ha:s.a with
    |none=>simp[Builtin.append_,hu,sizeOf,hi,x,Builtin.lenOf,Sl.v,ha,g2,g3,D,j]
    |some a=>simp[Builtin.append_,hu,sizeOf,hi,x,Builtin.lenOf,Sl.v,ha,g2,g3,D,j,storeCells]
   .rw[is];have:L.set i (.own s el m xs)=L:=by rw[mw H];exact(my H).symm
    rw[this];exact hw
  . -- room in the block
   have rI:=hs.1;have LK:=C.1;have WP:h.len*m<=post.length:=by have h3:(s.len+h.len)*m<=s.cap*m:=pt m k;rw[nA]at h3;rw[cH]at S;omega
   have A:bQ (pre++(xs++post)) (off+s.len*m) ys (pre++((xs++ys)++post.drop ys.length)):=by refine⟨pre++xs,post.take ys.length,post.drop ys.length,by simp,by simp;omega,by simp;omega,by simp⟩
   have q:=run_storeCells_at (P:=P) b (off+s.len*m) el ys 0 (pre++(xs++post)).toArray w hh (by have:=A.le;simp at this ⊢;omega) (by intro u mK;exact lQ.1 h1 u mK);simp only[lj]at q;rw[A.eq]at q;refine⟨⟨s.a,s.len+h.len,s.cap⟩,w.setRow b (pre++((xs++ys)++post.drop ys.length)).toArray,?_,X,?_⟩
   .have j:=V;simp[Sl.v]at j;simp[Builtin.append_,hu,sizeOf,hi,x,Builtin.lenOf,Sl.v,hb,k,j,kL];simp at q;simp[q]
   .refine hw.setRow H (by simp[Item.df,Sl.df,hb]) (by simp[Item.df,Sl.df,hb]) λg B=>?_;refine⟨hl,by simp only;omega,.inr ⟨b,off,pre,post.drop ys.length,hb,B _ _ _ hh,ho,k,?_⟩⟩;simp only[cH,ig]at S ⊢;omega
 . -- a new block
  have W:¬(281474976710656<Builtin.nextslicecap (s.len+h.len) s.cap*o.bytes):=by have:=growslice_fits (need:=s.len+h.len) (old:=s.cap) (bytes:=o.bytes) O p;omega
  have tr:¬(9223372036854775807<((s.len:Int)+(h.len:Int))):=by omega
  have T:=ux (P:=P) (w:={w with drawn:=w.drawn+1}) hs.drew;have y:=ux (P:=P) (w:={w with drawn:=w.drawn+1}) C.drew;have hg:s.len+h.len<=grownCap w (s.len+h.len) s.cap el:=by unfold grownCap Question.cut;exact oB _ _
  refine⟨⟨some ⟨w.heap.size,0,none⟩,s.len+h.len,grownCap w (s.len+h.len) s.cap el⟩,
   {w with drawn:=w.drawn+1,heap:=w.heap.push (.cells ((xs++ys)++(Builtin.zeroCells z.cells (grownCap w (s.len+h.len) s.cap el-(s.len+h.len))).toList).toArray el)},?_,X,?_⟩
  .simp[Sl.v]at T y;simp[Builtin.append_,hu,sizeOf,zeroValue,hi,x,hz,Builtin.lenOf,Sl.v,k,tr,W,Question.forced,T,y,newRow,grownCap];generalize Builtin.zeroCells z.cells _=f;have M:xs.toArray++(ys.toArray++f)=(xs++(ys++f.toList)).toArray:=by apply ny;simp
   rw[M];rfl
  .have Gs:=(hw.sublist (L':=L.eraseIdx i) (GU L i)).drew
   refine(Gs.new (i:=.own ⟨some ⟨w.heap.size,0,none⟩,s.len+h.len,grownCap w (s.len+h.len) s.cap el⟩ el m (xs++ys))
    (.cells ((xs++ys)++(Builtin.zeroCells z.cells (grownCap w (s.len+h.len) s.cap el-(s.len+h.len))).toList).toArray el) X λg B=>?_).perm (set_perm H)
   refine⟨hl,by simp only;omega,.inr ⟨_,0,[],_,X,by simpa using B,X,hg,?_⟩⟩;simp only[cH,hs.1,C.1,Builtin.zeroCells,oy];simp;rw[<-nA,<-nA,Nat.add_sub_cancel' hg];exact dG _
end
theorem KL{α:Type}[an α](g:0<sz α)(z0:α):∀(k j:Nat),j<k*sz α->(aa (List.replicate k z0))[j]?=(enc z0)[j%sz α]?
 |0,j,h=>by omega
 |k+1,j,h=>by
  rw[GL,mc];by_cases f:j<sz α
  .rw[it (by rw[an.len];exact f),kO f]
  .rw[lR (by rw[an.len];omega),an.len,KL g z0 k _ (by rw[oC]at h;omega),Nat.mod_eq_sub_mod (a:=j) O]
theorem wJ{α:Type}[an α](g:0<sz α){z:Value}{z0:α}(a:z.cells=(enc z0).toArray)(k:Nat):(Array.range (k*sz α)).map (λi=>z.cells[i%z.cells.size]!)=(aa (List.replicate k z0)).toArray:=by
 have f:z.cells.size=sz α:=by rw[a];simp[an.len]
 apply GJ;intro j;rw[show(aa (List.replicate k z0)).toArray[j]?=(aa (List.replicate k z0))[j]? from by simp];by_cases h:j<k*sz α
 .rw[KL g z0 k j h];have m:j%sz α<(enc z0).length:=by rw[an.len];exact tG _ g
  simp[h,f];rw[a];simp[m]
 .rw[jA (by rw[eD];simp;omega)];simp;omega
theorem dY{P:Program}{α:Type}[an α]{t el k m:Nat}{z:Value}{z0:α}{xs:List α}{pv:List (Nat×Value)}(D:∀w,(underlying t).run P w=.ok (.slice el) w)(C:∀w,(sizeOf el).run P w=.ok m w)(H:∀w,(zeroValue el).run P w=.ok z w)(j:z.cells=(enc z0).toArray)(B:m=sz α)
 (q:(sz α==0)=false) (A:decide (k*sz α<=2^24)=true) (g:(k==0)=false) (y:Instr.fill (λi=>some (i*m,m)) (aa (List.replicate k z0)).toArray pv=some (aa xs).toArray) (w:World):
 (Instr.buildSlice t k pv.toArray).run P w=.ok (.slice (some ⟨w.heap.size,0,none⟩) k k) {w with heap:=w.heap.push (.cells (aa xs).toArray el)}:=by
 subst B;have s:¬sz α=0:=by simpa using q
 have o:¬k=0:=by simpa using g
 have a:¬(2^24<k*sz α):=by simp at A;omega
 have h:¬(k*sz α=0):=by intro f;rcases Cj.1 f with p|p<;>omega
 have x:=wJ O j k;simp only[Nat.reducePow]at a;simp[Instr.buildSlice,D,C,H,a,newRow];rw[x];simp[y];exact λf=>absurd f h
section
variable {P:Program}{n:Fm}{w0:World}{ops:Array Oper}{Q:Exit->Act->World->Prop}{K:Act->Prop}{l:List Oper}{e:List (Nat×Value)}{F F0:bM}{L L':List Item}{v:Value}{dst:Option Nat}{d:Nat}{ty:TypeId}{pos:String}{bo:Array Edge}{gd:Option (Nat×Bool)}
theorem br.lG(t:TypeId)(s:Nat)(h:br P n w0 ops Q l e F (.own Sl.nil t s []::L)):br P n w0 ops Q l e F L:=λa w f g=>h a w f (g.lG t s)
theorem Cd.lG{c:Code}(t:TypeId)(s:Nat)(h:Cd P n w0 Q c e F (.own Sl.nil t s []::L)):Cd P n w0 Q c e F L:=λa w f g=>h a w f (g.lG t s)
theorem At.lG{x:Exit}(t:TypeId)(s:Nat)(h:At n w0 Q x e F (.own Sl.nil t s []::L)):At n w0 Q x e F L:=λa w f g=>h a w f (g.lG t s)
theorem br.append{α:Type}[an α]{x y:Operand}{t el:TypeId}{i m:Nat}{f:TypeInfo}{z:Value}{s S:Sl}{xs ys:List α}{cs:List Value}(hg:gd=none)(g:dst=some d)(hn:d<n.n)(hx:ev e x=some s.v)(hy:ev e y=some S.v)(hu:∀w,(underlying t).run P w=.ok (.slice el) w)
 (hi:∀w,(typeInfo el).run P w=.ok f w) (D:f.size=m) (hz:f.zero=some z) (M:z.cells.size=m) (C:m=sz α) (V:L[i]?=some (.own s el m cs)) (B:cs=aa xs) (q:Rd w0 F L S ys) (hm:(m==0)=false) (qj:xs.length+ys.length<=2^40) (A:(decide (f.bytes<=128))=true)
 (k:∀p:Sl,br P n w0 ops Q l ((d,p.v)::e) F (L.set i (.own p el m (aa (xs++ys))))):br P n w0 ops Q (⟨dst,.call ⟨.builtin .append,#[x,y],#[t,t]⟩,ty,pos,bo,gd⟩::l) e F L:=
 gQ hg λa w h H=>by
  subst g B C;have T:0<sz α:=by(have:¬sz α=0:=by simpa using hm);omega
  have hl1:s.len=xs.length:=(H.get V:jj (World.hp w) s el (sz α) (aa xs)).len T;obtain⟨W,_,q⟩:=q w H;have Lz:S.len=ys.length:=q.len T;obtain⟨p,w',hr,_,o⟩:=St.append (ty:=ty) H hu hi D hz M V q (qe ys) O (by simpa using A);unfold Oper.wp;have j:(execOp a.eval ⟨some d,.call ⟨.builtin .append,#[x,y],#[t,t]⟩,ty,pos,bo,gd⟩).run P w=.ok (.value p.v) w':=by simp[execOp,resolve,invoke,builtin,h.eval hx,h.eval hy,hr]
  rw[j,Oper.upon_value];rw[<-hC]at o;exact k p _ _ (h.put hn _) o
theorem P6{x:Operand}{t el:TypeId}{b off k:Nat}(i:ev e x=some (.pointer (some ⟨b,off,none⟩)))(g:∀w,(underlying t).run P w=.ok (.array k el) w){m:Nat}(f:∀w,(sizeOf el).run P w=.ok m w):
 Ev P n w0 e F L ⟨dst,.slice t x none none none,ty,pos,bo,gd⟩ (Sl.v ⟨some ⟨b,off,none⟩,k,k⟩):=λa w h j=>by
 simp[execOp,Instr.sliceAt,h.eval i,g,Instr.sureAddr,Instr.sliceBounds,f,Sl.v,kL]
theorem R9{α:Type}[an α]{x y:Operand}{t el:TypeId}{m k:Nat}{f:TypeInfo}{z:Value}{z0:α}(hg:gd=none)(q:dst=some d)(hn:d<n.n)(hx:ev e x=some (.int .i64 (k:Int)))(hy:ev e y=some (.int .i64 (k:Int)))(hu:∀w,(underlying t).run P w=.ok (.slice el) w)
 (hi:∀w,(typeInfo el).run P w=.ok f w) (V:f.size=m) (hz:f.zero=some z) (oy:z.cells=(enc z0).toArray) (S:m=sz α) (hm:(m==0)=false) (B:k<=2^40) (C:(decide (f.bytes<=128))=true)
 (kk:∀s':Sl,br P n w0 ops Q l ((d,s'.v)::e) F (.own s' el m (aa (List.replicate k z0))::L)):br P n w0 ops Q (⟨dst,.makeSlice t x y,ty,pos,bo,gd⟩::l) e F L:=
 gQ hg λa w h hw=>by
  subst q S;have h0:0<sz α:=by(have:¬sz α=0:=by simpa using hm);omega
  have p:f.bytes<=128:=by simpa using C
  have A:IntKind.i64.wrap (k:Int)=k:=bT O O;have j:¬((2:Int)^48<(f.bytes:Int)*(k:Int)):=by have:f.bytes*k<=128*2^40:=tH p B;omega
  have i:=wJ h0 oy k;have s:(execOp a.eval ⟨some d,.makeSlice t x y,ty,pos,bo,gd⟩).run P w=.ok (.value (.slice (some ⟨w.heap.size,0,none⟩) k k)) {w with heap:=w.heap.push (.cells (aa (List.replicate k z0)).toArray el)}:=by
   have T:¬((k:Int)<0):=by omega
   simp only[Int.reducePow]at j;by_cases hk:k=0
   .subst hk;have W:IntKind.i64.wrap 0=0:=bT O O;simp[execOp,Instr.makeSlice,h.eval hx,h.eval hy,hu,asInt,asIntOf,hi,W,newRow,sizeOf];rw[show(Array.map (λ_=>default) (Array.range 0):Array Value)=(aa ([]:List α)).toArray from by simp[aa]]
   .have M:¬(k*sz α=0):=by
     intro H;rcases Cj.1 H with h'|h'<;>omega
    simp[execOp,Instr.makeSlice,h.eval hx,h.eval hy,hu,asInt,asIntOf,hi,A,newRow,sizeOf,V,zeroValue,hz,j,T,i];exact λH=>absurd H M
  unfold Oper.wp;rw[s,Oper.upon_value];have o:(aa (List.replicate k z0)).length=k*sz α:=by rw[eD];simp
  refine kk ⟨some ⟨w.heap.size,0,none⟩,k,k⟩ _ _ (h.put hn _) (hw.new _ X λg D=>?_);exact⟨o,by simp only;omega,.inr ⟨_,0,[],[],X,by simpa using D,X,dG _,by simp[o]⟩⟩
end
abbrev mq:=@At.lG
abbrev ue:=@P6
abbrev cL:=@br.lG
abbrev ed:=@br.append
abbrev qC:=@R9
theorem fa{L:List Item}{i:Nat}{a:Item}(f:L[i]?=some a):L.Perm (a::L.eraseIdx i):=by
 have hi:=(eO.1 f).1;have g:L[i]=a:=(eO.1 f).2;have e:L=L.take i++a::L.drop (i+1):=by rw[<-g,<-jg hi,eQ]
 rw[GT];exact(List.Perm.of_eq e).trans List.perm_middle
section
variable {P:Program}{n:Fm}{w0:World}{ops:Array Oper}{Q:Exit->Act->World->Prop}{K:Act->Prop}{l:List Oper}{e:List (Nat×Value)}{F F0:bM}{L L':List Item}{v:Value}{dst:Option Nat}{d:Nat}{ty:TypeId}{pos:String}{bo:Array Edge}{gd:Option (Nat×Bool)}
 {post:bM->List Item->Value->Prop} {fn:Func}
theorem R8{i:Nat}{f:Item}(g:L[i]?=some f)(a:f::L.eraseIdx i=L')(h:br P n w0 ops Q l e F L'):br P n w0 ops Q l e F L:=by subst a;exact br.perm (fa g) h
theorem OV{x:Exit}{i:Nat}{f:Item}(g:L[i]?=some f)(a:f::L.eraseIdx i=L')(h:At n w0 Q x e F L'):At n w0 Q x e F L:=by subst a;exact At.perm (fa g) h
theorem Pd{c:Code}{i:Nat}{g:Item}(j:L[i]?=some g)(f:g::L.eraseIdx i=L')(h:Cd P n w0 Q c e F L'):Cd P n w0 Q c e F L:=by subst f;exact λa w k m=>h a w k (m.perm (fa j))
theorem Qt.cond{f:bM}(i:∀w,St w0 F L w↔St w0 f L' w)(h:Qt P n w0 ops K l e f L'):Qt P n w0 ops K l e F L:=by intro a g;have:St w0 F L=St w0 f L':=funext λw=>propext (i w);rw[this];exact h a g
theorem SM{e':List (Nat×Value)}(g:sub e e')(h:Qt P n w0 ops K l e' F L):Qt P n w0 ops K l e F L:=λa f=>h a (f.sub g)
theorem adW{α:Prop}(i:∀w,St w0 F L w->α)(h:α->br P n w0 ops Q l e F L):br P n w0 ops Q l e F L:=λa w g f=>h (i w f) a w g f
theorem adm{α:Prop}{x:Exit}(i:∀w,St w0 F L w->α)(h:α->At n w0 Q x e F L):At n w0 Q x e F L:=λa w g f=>h (i w f) a w g f
theorem Dv{f:FuncId}{x:Operand}{xs:List Operand}{vs cs:List Value}{h:Array TypeId}{a:Act}{w:World}(i:fU n a e)(k:ev e x=some (.func (.func f) #[] cs.toArray))(o:iU e xs vs)(g:∀(args:Array Value)(w:World),(callFunc f args).run P w=.ok (.enter f args) w):
 (execOp a.eval ⟨dst,.call ⟨.value x,xs.toArray,h⟩,ty,pos,bo,gd⟩).run P w=.ok (.enter f (vs++cs).toArray) w:=by
 have j:=i.yk o;have m:(List.map a.eval xs).toArray=vs.toArray:=by rw[j]
 simp[execOp,resolve,Deferred.ofValue,i.eval k,invoke,g];rw[j]
theorem RZ{f:FuncId}{x:Operand}{xs:List Operand}{vs cs:List Value}{m:Array TypeId}(t:gd=none)(j:dst=some d)(y:d<n.n)(s:ev e x=some (.func (.func f) #[] cs.toArray))(A:iU e xs vs)(g:∀(args:Array Value)(w:World),(callFunc f args).run P w=.ok (.enter f args) w)(q:Ok P w0 f (vs++cs) F L post)
 (k:∀i L' v,dC F i->post i L' v->br P n w0 ops Q l ((d,v)::e) i L'):br P n w0 ops Q (⟨dst,.call ⟨.value x,xs.toArray,m⟩,ty,pos,bo,gd⟩::l) e F L:=
 gQ t λa w h z=>by subst j;unfold Oper.wp;rw[Dv h s A g,Oper.upon_enter];refine(q w z).mono ?_;rintro _ B ⟨i,L',v,rfl,p,o,hp⟩;exact k i L' v p hp _ _ (h.put y v) o
theorem R0{f:FuncId}{x:Operand}{xs:List Operand}{vs cs:List Value}{i:Array TypeId}(t:gd=none)(h:dst=some d)(y:d<n.n)(s:ev e x=some (.func (.func f) #[] cs.toArray))(A:iU e xs vs)(g:∀(args:Array Value)(w:World),(callFunc f args).run P w=.ok (.enter f args) w)(p:Ok P w0 f (vs++cs) F L (Is v L))
 (k:br P n w0 ops Q l ((d,v)::e) F L):br P n w0 ops Q (⟨dst,.call ⟨.value x,xs.toArray,i⟩,ty,pos,bo,gd⟩::l) e F L:=
 RZ t h y s A g p λ_ _ _ o⟨j,m⟩=>by subst j m;exact λa w q z=>k a w q (z.weaken o)
theorem R1{j:Nat}{g:Bool}{t:Nat}{b:Bool}{f:FuncId}{x:Operand}{xs:List Operand}{vs cs:List Value}{o:Array TypeId}(B:gd=some (j,g))(C:(ops[j]?).bind (·.dst)=some t)(H:look e t=some (.bool b))(z:b=g)(m:dst=some d)(D:d<n.n)(A:ev e x=some (.func (.func f) #[] cs.toArray))(S:iU e xs vs)
 (h:∀(args:Array Value)(w:World),(callFunc f args).run P w=.ok (.enter f args) w) (y:Ok P w0 f (vs++cs) F L post)
 (k:∀i L' v,dC F i->post i L' v->br P n w0 ops Q l ((d,v)::e) i L'):br P n w0 ops Q (⟨dst,.call ⟨.value x,xs.toArray,o⟩,ty,pos,bo,gd⟩::l) e F L:=by
 intro a w p M;unfold wpList;rw[bE (by rw[sF p B C H,z];simp)];refine .inl ?_;subst m;unfold Oper.wp;rw[Dv p A S h,Oper.upon_enter];refine(y w M).mono ?_;rintro _ T ⟨i,L',v,rfl,s,q,hp⟩;exact k i L' v s hp _ _ (p.put D v) q
theorem By{j:Nat}{g:Bool}{t:Nat}{b:Bool}{f:FuncId}{x:Operand}{xs:List Operand}{vs cs:List Value}{m:Array TypeId}(B:gd=some (j,g))(C:(ops[j]?).bind (·.dst)=some t)(H:look e t=some (.bool b))(z:b=g)(i:dst=some d)(D:d<n.n)(A:ev e x=some (.func (.func f) #[] cs.toArray))(S:iU e xs vs)
 (h:∀(args:Array Value)(w:World),(callFunc f args).run P w=.ok (.enter f args) w) (s:Ok P w0 f (vs++cs) F L (Is v L))
 (k:br P n w0 ops Q l ((d,v)::e) F L):br P n w0 ops Q (⟨dst,.call ⟨.value x,xs.toArray,m⟩,ty,pos,bo,gd⟩::l) e F L:=
 R1 B C H z i D A S h s λ_ _ _ q⟨o,p⟩=>by subst o p;exact λa w y M=>k a w y (M.weaken q)
theorem aed{f:FuncId}{x:Operand}{xs:List Operand}{vs cs:List Value}{i:Array TypeId}(s:gd=none)(h:dst=some d)(t:d<n.n)(q:ev e x=some (.func (.func f) #[] cs.toArray))(z:iU e xs vs)(g:∀(args:Array Value)(w:World),(callFunc f args).run P w=.ok (.enter f args) w)(p:Ok P w0 f (vs++cs) F L (Is v L))
 (k:Qt P n w0 ops K l ((d,v)::e) F L):Qt P n w0 ops K (⟨dst,.call ⟨.value x,xs.toArray,i⟩,ty,pos,bo,gd⟩::l) e F L:=by
 intro a m;unfold wpQuiet;rw[bE (by simp[Region.wanted,s])];subst h;refine⟨v,λw y=>?_,k _ (m.put t v)⟩;unfold Oper.quietAt;rw[Dv m q z g];refine⟨X,(p w y).mono ?_⟩;rintro _ B ⟨A,L',v,rfl,o,j,rfl,rfl⟩;exact⟨X,j.weaken o⟩
theorem aee{j:Nat}{g:Bool}{t:Nat}{b:Bool}{f:FuncId}{x:Operand}{xs:List Operand}{vs cs:List Value}{m:Array TypeId}(A:gd=some (j,g))(B:(ops[j]?).bind (·.dst)=some t)(D:look e t=some (.bool b))(y:b=g)(i:dst=some d)(C:d<n.n)(z:ev e x=some (.func (.func f) #[] cs.toArray))(M:iU e xs vs)
 (h:∀(args:Array Value)(w:World),(callFunc f args).run P w=.ok (.enter f args) w) (s:Ok P w0 f (vs++cs) F L (Is v L))
 (k:Qt P n w0 ops K l ((d,v)::e) F L):Qt P n w0 ops K (⟨dst,.call ⟨.value x,xs.toArray,m⟩,ty,pos,bo,gd⟩::l) e F L:=by
 intro a o;unfold wpQuiet;rw[bE (by rw[sF o A B D,y];simp)];subst i;refine⟨v,λw H=>?_,k _ (o.put C v)⟩;unfold Oper.quietAt;rw[Dv o z M h];refine⟨X,(s w H).mono ?_⟩;rintro _ T ⟨S,L',v,rfl,q,p,rfl,rfl⟩;exact⟨X,p.weaken q⟩
def lo?(e:List (Nat×Value)):Option Operand->Int->Prop
 |none,i=>i=0
 |some x,i=>ev e x=some (.int .i64 i)
def hi?(e:List (Nat×Value))(n:Nat):Option Operand->Int->Prop
 |none,i=>i=n
 |some x,i=>ev e x=some (.int .i64 i)
theorem run_sliceBound{i:Int}{m:Nat}{c:BoundsCode}{w:World}(a:0<=i)(f:i<=m):(Instr.sliceBound (.int .i64 i) m c).run P w=.ok i.toNat w:=by simp[Instr.sliceBound,asIntOf,a,f]
theorem abr{a:Act}{x y:Option Operand}{b:Bool}{len cap:Nat}{i j:Int}{w:World}(h:fU n a e)(o:lo? e x i)(k:hi? e len y j)(p:0<=i)(q:i<=j)(s:j<=len)(t:len<=cap):
 (Instr.sliceBounds b len cap (x.map a.eval) (y.map a.eval) none).run P w=.ok (i.toNat,j.toNat,cap) w:=by
 have z:(i.toNat:Int)<=j:=by omega
 cases x with
 |none=>
  obtain rfl:i=0:=o
  cases y with
  |none=>obtain rfl:j=len:=k;simp[Instr.sliceBounds]
  |some y=>have f:ev e y=some (.int .i64 j):=k;simp[Instr.sliceBounds,h.eval f,run_sliceBound (P:=P) (w:=w) (i:=j) (m:=cap) O O]
 |some x=>
  have g:ev e x=some (.int .i64 i):=o
  cases y with
  |none=>obtain rfl:j=len:=k;simp[Instr.sliceBounds,h.eval g,run_sliceBound (P:=P) (w:=w) (i:=i) (m:=len) O O]
  |some y=>have f:ev e y=some (.int .i64 j):=k;simp[Instr.sliceBounds,h.eval g,h.eval f,run_sliceBound (P:=P) (w:=w) (i:=j) (m:=cap) O O,run_sliceBound (P:=P) (w:=w) (i:=i) (m:=j.toNat) O O]
theorem Ev.cut{α:Type}[an α]{x:Operand}{a b:Option Operand}{t el:TypeId}{s:Sl}{xs:List α}{i j:Int}{m:Nat}(S:ev e x=some s.v)(z:lo? e a i)(A:hi? e xs.length b j)(H:∀w,(underlying t).run P w=.ok (.slice el) w)(D:∀w,(sizeOf el).run P w=.ok m w)(B:m=sz α)(hp:0<sz α)
 (C:Rd w0 F L s xs) (q:0<=i) (o:i<=j) (y:j<=xs.length):Ev P n w0 e F L ⟨dst,.slice t x a b none,ty,pos,bo,gd⟩ (Sl.v (s.cut i.toNat j.toNat m)):=λac w h M=>by
 subst B;obtain⟨_,_,p⟩:=C w M;have g:=p.len hp;have f:s.len<=s.cap:=by rcases p.2.2 with⟨o,y⟩|⟨_,_,_,_,_,_,_,T,_⟩<;>omega
 have k:=abr (P:=P) (b:=true) (len:=s.len) (cap:=s.cap) (w:=w) h z (by rw[g];exact A) q o O f;simp[execOp,Instr.sliceAt,h.eval S,H,Sl.v,Instr.slice,k,D,Sl.cut]
theorem St.Fu{w:World}{i:Nat}{v:Sl}{t:TypeId}{m lo hi:Nat}{xs:List Value}(h:St w0 F L w)(j:L[i]?=some (.own v t m xs))(k:lo<=hi)(o:hi<=v.len):St w0 F (L.set i (.own (v.cut lo hi m) t m ((xs.drop (lo*m)).take ((hi-lo)*m)))) w:=by
 have x:jj (World.hp w) v t m xs:=h.get j;have q:=x.cut k o;have s:(v.cut lo hi m).df=v.df:=by
  unfold Sl.cut Sl.df;split
  .rfl
  .cases v.a with
   |none=>rfl
   |some a=>simp only[tI,Co];congr 1;unfold Addr.add;split<;>rfl
 have f:gp (L.set i (.own (v.cut lo hi m) t m ((xs.drop (lo*m)).take ((hi-lo)*m))))=gp L:=by
  rw[mw j]
  conv=>rhs;rw[my j]
  rw[pi,gM,pi,gM];simp only[Item.df,s]
 refine⟨h.below,h.kv,λb p=>h.apart b (by rwa[f]at p),λy g=>?_,by rw[f];exact h.nodup⟩;rcases qu g with g|rfl
 .exact h.holds y g
 .exact q
theorem br.Fu{α:Type}[an α]{i:Nat}{s:Sl}{t:TypeId}{m lo hi:Nat}{cs:List Value}{xs:List α}(j:L[i]?=some (.own s t m cs))(g:cs=aa xs)(y:m=sz α)(hp:0<sz α)(p:lo<=hi)(z:hi<=xs.length)
 (f:L.set i (.own (s.cut lo hi m) t m (aa ((xs.drop lo).take (hi-lo))))=L') (h:br P n w0 ops Q l e F L'):br P n w0 ops Q l e F L:=by
 subst f g y;intro a w q o;have x:jj (World.hp w) s t (sz α) (aa xs):=o.get j;have k:=x.len hp;refine h a w q ?_;have:=o.Fu j p O;rwa[<-yh,<-vg]at this
def Item.rows{α:Type}[an α](u:TypeId)(a:List (LR α)):Item:=.gen (a.flatMap (·.h.df)) (λh=>∀x∈a,jj h x.h u (sz α) (aa x.v))
def Item.row{α:Type}[an α](u:TypeId)(x:LR α):Item:=.own x.h u (sz α) (aa x.v)
theorem Du{α:Type}[an α]{h:Nat->Option Obj}{u:TypeId}{f:List (LR α)}:(Item.rows u f).holds h↔∀x∈f,jj h x.h u (sz α) (aa x.v):=by
 constructor
 .intro H x a;refine G4 (λb g=>?_) (H x a);have:b∈f.flatMap (·.h.df):=CA.2 ⟨x,a,g⟩;simp[this]
 .intro H x a;refine G4 (λb g=>?_) (H x a);have:b∈f.flatMap (·.h.df):=CA.2 ⟨x,a,g⟩;simp[this]
theorem abn{α:Type}[an α](u:TypeId)(a:List (LR α))(M:List Item):gp (a.map (Item.row u)++M)=gp (.rows u a::M):=by
 rw[pi,gM];congr 1
 induction a with
 |nil=>rfl
 |cons r a f=>rw[lS,gM,f];simp[Item.row,Item.df,Item.rows]
theorem St.rows{α:Type}[an α]{u:TypeId}{k:List (LR α)}{M:List Item}{w:World}:St w0 F (.rows u k::M) w↔St w0 F (k.map (Item.row u)++M) w:=by
 have f:=abn u k M;constructor
 .intro h;refine⟨h.below,h.kv,λb g=>h.apart b (by rwa[f]at g),λj a=>?_,by rw[f];exact h.nodup⟩;rcases fx.1 a with a|a
  .obtain⟨x,i,rfl⟩:=mS.1 a;exact Du.1 (h.holds _ (mj ..)) x i
  .exact h.holds j (j7 _ a)
 .intro h;refine⟨h.below,h.kv,λb g=>h.apart b (by rwa[<-f]at g),λj a=>?_,by rw[<-f];exact h.nodup⟩;rcases fM.1 a with rfl|a
  .exact Du.2 λx i=>h.holds (Item.row u x) (vE _ (mS.2 ⟨x,i,X⟩))
  .exact h.holds j (List.mem_append_right _ a)
theorem Rd.row{α:Type}[an α]{j k:Nat}{u:TypeId}{a:List (LR α)}{r:LR α}(f:L[j]?=some (.rows u a))(g:a[k]?=some r):Rd w0 F L r.h r.v:=λ_ h=>⟨u,_,Du.1 (h.get f) r (j8 g)⟩
theorem aW.frozen{α:Type}[an α]{a:bM}{u:TypeId}{f:List (LR α)}(h:∀w,St w0 a [] w->(Item.rows u f).holds (World.hp w)):aW LR.rel w0 a [] f:=λx i w g=>⟨u,_,Du.1 (h w g) x i⟩
theorem St.NK{α:Type}[an α]{u:TypeId}{a:List (LR α)}{k:Nat}{r:LR α}{M:List Item}{w:World}(h:St w0 F (.rows u a::M) w)(i:a[k]?=some r):St w0 F (.row u r::.rows u (a.set k ⟨[],Sl.nil⟩)::M) w:=by
 have g:=(eO.1 i).1;have t:=(eO.1 i).2;have o:=St.rows.1 h;have f:=(o.lG u (sz α))
 have s:(Item.own Sl.nil u (sz α) [])=Item.row u (⟨[],Sl.nil⟩:LR α):=X;rw[s]at f;have j:a=a.take k++r::a.drop (k+1):=by rw[<-t,<-jg g,eQ]
 have m:a.set k ⟨[],Sl.nil⟩=a.take k++⟨[],Sl.nil⟩::a.drop (k+1):=by rw[yX,bE g]
 have hp:(Item.row u (⟨[],Sl.nil⟩:LR α)::(a.map (Item.row u)++M)).Perm (Item.row u r::((a.set k ⟨[],Sl.nil⟩).map (Item.row u)++M)):=by
  rw[m]
  conv=>lhs;rw[j]
  simp only[kS,lS,fL,rT];refine(List.Perm.cons _ List.perm_middle).trans ?_;refine(List.Perm.swap _ _ _).trans (List.Perm.cons _ ?_);exact List.perm_middle.symm
 have p:=f.perm hp;have q:St w0 F ((a.set k ⟨[],Sl.nil⟩).map (Item.row u)++(Item.row u r::M)) w:=p.perm List.perm_middle.symm;exact(St.rows.2 q).perm (List.Perm.swap _ _ _)
theorem JD{α:Type}[an α]{u:TypeId}{a:List (LR α)}{k:Nat}{f r:LR α}{M:List Item}{w:World}(h:St w0 F (.row u r::.rows u a::M) w)(i:a[k]?=some f):St w0 F (.rows u (a.set k r)::M) w:=by
 have g:=(eO.1 i).1;have q:=(eO.1 i).2;have o:St w0 F (.rows u a::.row u r::M) w:=h.perm (List.Perm.swap _ _ _);have p:=St.rows.1 o;have j:a=a.take k++f::a.drop (k+1):=by rw[<-q,<-jg g,eQ]
 have m:a.set k r=a.take k++r::a.drop (k+1):=by rw[yX,bE g]
 have hp:(a.map (Item.row u)++Item.row u r::M).Perm (Item.row u f::((a.set k r).map (Item.row u)++M)):=by
  rw[m]
  conv=>lhs;rw[j]
  simp only[kS,lS,fL,rT];refine List.perm_middle.trans (List.Perm.cons _ ?_);refine List.Perm.append_left _ ?_;exact List.perm_middle
 exact St.rows.2 ((p.perm hp).sublist (List.sublist_cons_self _ _))
theorem S5{α:Type}[an α]{u:TypeId}{a:List (LR α)}{r:LR α}{M:List Item}{w:World}(h:St w0 F (.row u r::.rows u a::M) w):St w0 F (.rows u (a++[r])::M) w:=by have f:St w0 F (.rows u a::.row u r::M) w:=h.perm (List.Perm.swap _ _ _);have g:=St.rows.1 f;refine St.rows.2 ?_;simpa using g
theorem St.qT{α:Type}[an α]{u:TypeId}{k:Nat}{M:List Item}{w:World}(h:St w0 F M w):St w0 F (.rows u (List.replicate k (⟨[],Sl.nil⟩:LR α))::M) w:=by
 refine St.rows.2 ?_
 induction k with
 |zero=>simpa using h
 |succ k a=>rw[GL,lS,rT];exact a.lG u (sz α)
theorem Ji{α:Type}[an α]{u:TypeId}{m:Nat}{f:List (LR α)}{k:Nat}{r:LR α}{M:List Item}(j:f[k]?=some r)(i:sz α=m)(h:br P n w0 ops Q l e F (.own r.h u m (aa r.v)::.rows u (f.set k ⟨[],Sl.nil⟩)::M)):br P n w0 ops Q l e F (.rows u f::M):=by subst i;exact λa w g o=>h a w g (o.NK j)
theorem EV{α:Type}[an α]{u:TypeId}{m:Nat}{f:List (LR α)}{k:Nat}{p:LR α}{s:Sl}{xs:List α}{M:List Item}(j:f[k]?=some p)(i:sz α=m)(h:br P n w0 ops Q l e F (.rows u (f.set k ⟨xs,s⟩)::M)):br P n w0 ops Q l e F (.own s u m (aa xs)::.rows u f::M):=by subst i;exact λa w g o=>h a w g (JD (r:=⟨xs,s⟩) o j)
theorem Sc{α:Type}[an α]{u:TypeId}{m:Nat}{f:List (LR α)}{s:Sl}{xs:List α}{M:List Item}(i:sz α=m)(h:br P n w0 ops Q l e F (.rows u (f++[⟨xs,s⟩])::M)):br P n w0 ops Q l e F (.own s u m (aa xs)::.rows u f::M):=by subst i;exact λa w g j=>h a w g (S5 (r:=⟨xs,s⟩) j)
theorem br.qT(α:Type)[an α](u:TypeId)(k:Nat)(h:br P n w0 ops Q l e F (.rows u (List.replicate k (⟨[],Sl.nil⟩:LR α))::L)):br P n w0 ops Q l e F L:=λa w f g=>h a w f g.qT
theorem NX{ρ:Type}{a:List ρ}{k:Nat}{r:ρ}(h:a[k]?=some r):a.set k r=a:=by
 obtain⟨f,g⟩:=eO.1 h;apply pB;intro j;by_cases e:k=j
 .subst e;rw[fY f,<-g];simp[f]
 .rw[iu e]
theorem Sf{α:Type}[an α]{x y:Operand}{t u:TypeId}{k off m:Nat}{g:List (LR α)}{r:LR α}{xs':List α}{vs:List Value}{M:List Item}(s:gd=none)(f:dst=none)(D:ev e x=some (r.h.at off))(H:ev e y=some v)(o:g[k]?=some r)
 (B:∀w,(sizeOf t).run P w=.ok m w) (C:v.cells.toList=vs) (A:vs.length=m) (p:0<m) (q:vs.all qJ=true) (hp:bQ (aa r.v) off vs (aa xs'))
 (S:br P n w0 ops Q l e F (.rows u (g.set k ⟨xs',r.h⟩)::M)):br P n w0 ops Q (⟨dst,.store t x y,ty,pos,bo,gd⟩::l) e F (.rows u g::M):=by
 refine λa w h j=>(?_:br P n w0 ops Q (⟨dst,.store t x y,ty,pos,bo,gd⟩::l) e F (.row u r::.rows u (g.set k ⟨[],Sl.nil⟩)::M)) a w h (j.NK o);refine jm (i:=0) s f D H X B C A p q hp X ?_;intro a w h j;refine S a w h ?_;have z:(g.set k (⟨[],Sl.nil⟩:LR α))[k]?=some ⟨[],Sl.nil⟩:=by rw[fY (eO.1 o).1]
 have:=JD (r:=⟨xs',r.h⟩) j z;rwa[li]at this
theorem UL{α:Type}[an α]{a:List (LR α)}{k:Nat}{r:LR α}{xs:List α}(f:a[k]?=some r):aa (a.set k ⟨xs,r.h⟩)=aa a:=by rw[NY f,(FC f).1];rfl
theorem Cd.hR{c:Code}(a:L=L')(h:Cd P n w0 Q c e F L'):Cd P n w0 Q c e F L:=by subst a;exact h
theorem At.hR{x:Exit}(a:L=L')(h:At n w0 Q x e F L'):At n w0 Q x e F L:=by subst a;exact h
theorem adn{c:Code}(g:L'.Sublist L)(h:Cd P n w0 Q c e F L'):Cd P n w0 Q c e F L:=λa w f i=>h a w f (i.sublist g)
theorem adX(g:L'.Sublist L)(h:br P n w0 ops Q l e F L'):br P n w0 ops Q l e F L:=λa w f i=>h a w f (i.sublist g)
theorem PP{o:Oper}{a b:Nat}(h:a=b)(f:Ev P n w0 e F L o (.int .i64 a)):Ev P n w0 e F L o (.int .i64 b):=by subst h;exact f
section
variable {ρ:Type}{rel:World->bM->List Item->ρ->Prop}
theorem aW.cut{a:List ρ}{i j:Nat}(h:aW rel w0 F L a):aW rel w0 F L ((a.drop i).take j):=λx f=>h x (pE (pF f))
theorem aW.cons{r:ρ}{f:List ρ}(g:rel w0 F L r)(h:aW rel w0 F L f):aW rel w0 F L (r::f):=λx a=>by
 rcases fM.1 a with rfl|a
 .exact g
 .exact h x a
theorem OT{a:ρ}(f:rel w0 F L a):aW rel w0 F L [a]:=aW.cons f aW.nil
theorem OU{a b:ρ}(f:rel w0 F L a)(g:rel w0 F L b):aW rel w0 F L [a,b]:=aW.cons f (OT g)
end
theorem Iv{α:Type}[an α]{x y:Operand}{t el:TypeId}{s:Sl}{xs:List α}{off off' len m:Nat}{i:Int}{ch:List Value}(H:ev e x=some (s.at off))(M:ev e y=some (.int .i64 i))(A:Rd w0 F L s xs)(q:bS (aa xs) off ch)(k:(ch.length==0)=false)
 (C:∀w,(underlying t).run P w=.ok (.array len el) w) (B:∀w,(sizeOf el).run P w=.ok m w) (g:0<=i) (hi:i<len) (z:off+i.toNat*m=off'):Ev P n w0 e F L ⟨dst,.indexAddr t x y,ty,pos,bo,gd⟩ (s.at off'):=λa w h D=>by
 subst z;have p:¬ch.length=0:=by simpa using k
 obtain⟨b,o,cs,T,j,V,W⟩:=(A w D).choose_spec.choose_spec.block q O
 cases f:s.a with
 |none=>simp[Sl.at,f,undef]at j
 |some S=>simp[execOp,h.eval H,h.eval M,Sl.at,f,Instr.indexAt,asIntOf,C,Instr.sureAddr,B,g,hi,kL,yY]
end
abbrev t8:=@Pd
abbrev fF:=@Ev.cut
abbrev ub:=@PP
abbrev kD:=@R0
abbrev vP:=@br.Fu
abbrev nH:=@SM
abbrev nK:=@Rd.row
