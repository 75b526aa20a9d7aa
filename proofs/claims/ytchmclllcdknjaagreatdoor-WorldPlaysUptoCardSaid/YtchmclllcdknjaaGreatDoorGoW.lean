/-
  A small logic for specs: a spec comes to a value of which something holds.
-/
import Derived.Test.YtchmclllcdknjaaGreatDoorGoN
namespace Go.Proofs.YtchmclllcdknjaaGreatDoor
open Enc
def Tot {α:Type} (x:Option α) (Q:α→Prop):Prop:=∃ r,x=some r∧Q r
namespace Tot
variable {α β σ τ:Type}
theorem some_iff {a:α} {Q:α→Prop}:Tot (some a) Q↔Q a:=⟨fun ⟨_,h,q⟩=>by cases h; exact q,fun h=>⟨a,rfl,h⟩⟩
theorem none_iff {Q:α→Prop}:Tot none Q↔False:=⟨fun ⟨_,h,_⟩=>(by cases h),False.elim⟩
theorem bind_iff {x:Option α} {f:α→Option β} {Q:β→Prop}:Tot (x.bind f) Q↔Tot x fun a=>Tot (f a) Q:=by
  cases x with
  | none=>exact ⟨fun ⟨_,h,_⟩=>(by cases h),fun ⟨_,h,_⟩=>(by cases h)⟩
  | some a=>rw [Option.bind_some,some_iff]
theorem ite_iff {c:Bool} {x y:Option α} {Q:α→Prop}:Tot (bif c then x else y) Q↔(c=true→Tot x Q)∧(c=false→Tot y Q):=by cases c <;> simp
theorem let_iff {x:β} {f:β→Option α} {Q:α→Prop}:Tot (Let x f) Q↔Tot (f x) Q:=Iff.rfl
def SumOk (A:σ→Prop) (B:τ→Prop):σ ⊕ τ→Prop
  | .inl s=>A s
  | .inr t=>B t
theorem inl_iff {A:σ→Prop} {B:τ→Prop} {s:σ}:SumOk A B (.inl s)↔A s:=Iff.rfl
theorem andThen_iff {x:Option (σ ⊕ τ)} {f:σ→Option τ} {Q:τ→Prop}:Tot (andThen x f) Q↔Tot x (SumOk (fun s=>Tot (f s) Q) Q):=by
  unfold andThen
  rw [bind_iff]
  constructor <;> rintro ⟨o,h,q⟩ <;> refine ⟨o,h,?_⟩ <;> cases o <;> simp_all [some_iff,SumOk]
theorem mono {x:Option α} {Q Q':α→Prop} (h:Tot x Q) (hq:∀ a,Q a→Q' a):Tot x Q':=h.imp fun _ ⟨e,q⟩=>⟨e,hq _ q⟩
theorem of_eq {x:Option α} {a:α} {Q:α→Prop} (h:x=some a) (q:Q a):Tot x Q:=⟨a,h,q⟩
theorem eq {x:Option α} {a:α} (h:Tot x (·=a)):x=some a:=by obtain ⟨_,h1,rfl⟩:=h; exact h1
theorem cutL_iff {l:List α} {i j:Int} {Q:List α→Prop}:Tot (cutL l i j) Q↔(0≤i∧i≤j∧j≤l.length)∧Q ((l.drop i.toNat).take (j.toNat - i.toNat)):=by
  unfold cutL
  split
  · rename_i h; rw [some_iff]; exact ⟨fun q=>⟨h,q⟩,fun q=>q.2⟩
  · rename_i h; rw [none_iff]; exact ⟨False.elim,fun q=>h q.1⟩
theorem rangeF {body:Nat→σ→Option σ} {Q:σ→Prop} (I:Nat→σ→Prop):∀ {k i:Nat} {s:σ},I i s→(∀ j s,i≤j→j < i+k→I j s→Tot (body j s) (I (j+1)))→(∀ s,I (i+k) s→Q s)→Tot (YtchmclllcdknjaaGreatDoor.rangeF body k i s) Q
  | 0,i,s,h,_,hq=>⟨s,rfl,hq s h⟩
  | k+1,i,s,h,hb,hq=>by
    obtain ⟨s1,h1,h2⟩:=hb i s (by omega) (by omega) h
    unfold YtchmclllcdknjaaGreatDoor.rangeF
    rw [h1]
    exact rangeF I h2 (fun j s a b=>hb j s (by omega) (by omega)) (fun s hs=>hq s (by rwa [show i+(k+1)=i+1+k by omega]))
def CtlOk (G B:σ→Prop) (R:τ→Prop):Ctl σ τ→Prop
  | .go s=>G s
  | .brk s=>B s
  | .ret t=>R t
theorem go_iff {G B:σ→Prop} {R:τ→Prop} {s:σ}:CtlOk G B R (.go s)↔G s:=Iff.rfl
theorem brk_iff {G B:σ→Prop} {R:τ→Prop} {s:σ}:CtlOk G B R (.brk s)↔B s:=Iff.rfl
theorem rangeM {body:Nat→σ→Option (Ctl σ τ)} {Q:σ ⊕ τ→Prop} (I:Nat→σ→Prop):∀ {k i:Nat} {s:σ},I i s →
    (∀ j s,i≤j→j < i+k→I j s→Tot (body j s) (CtlOk (I (j+1)) (fun s=>Q (.inl s)) (fun t=>Q (.inr t))))→(∀ s,I (i+k) s→Q (.inl s))→Tot (YtchmclllcdknjaaGreatDoor.rangeM body k i s) Q
  | 0,i,s,h,_,hq=>⟨_,rfl,hq s h⟩
  | k+1,i,s,h,hb,hq=>by
    obtain ⟨c,h1,h2⟩:=hb i s (by omega) (by omega) h
    unfold YtchmclllcdknjaaGreatDoor.rangeM
    rw [h1]
    cases c with
    | go s1=>exact rangeM I h2 (fun j s a b=>hb j s (by omega) (by omega)) (fun s hs=>hq s (by rwa [show i+(k+1)=i+1+k by omega]))
    | brk s1=>exact ⟨_,rfl,h2⟩
    | ret t=>exact ⟨_,rfl,h2⟩
theorem whileM {body:σ→Option (Ctl σ τ)} {Q:σ ⊕ τ→Prop} (I:σ→Prop) (μ:σ→Nat):∀ {fu:Nat} {s:σ},I s→μ s < fu →
    (∀ s,I s→Tot (body s) (CtlOk (fun s'=>I s'∧μ s' < μ s) (fun s=>Q (.inl s)) (fun t=>Q (.inr t))))→Tot (YtchmclllcdknjaaGreatDoor.whileM body fu s) Q
  | 0,s,_,hf,_=>by omega
  | fu+1,s,h,hf,hb=>by
    obtain ⟨c,h1,h2⟩:=hb s h
    unfold YtchmclllcdknjaaGreatDoor.whileM
    rw [h1]
    cases c with
    | go s1=>exact whileM I μ h2.1 (by have:=h2.2; omega) hb
    | brk s1=>exact ⟨_,rfl,h2⟩
    | ret t=>exact ⟨_,rfl,h2⟩
end Tot
def upd {α:Type} (f:Nat→α) (i:Nat) (x:α):Nat→α:=fun j=>if j=i then x else f j
theorem upd_self {α:Type} {f:Nat→α} {i:Nat} {x:α}:upd f i x i=x:=by simp [upd]
theorem upd_ne {α:Type} {f:Nat→α} {i j:Nat} {x:α} (h:j≠i):upd f i x j=f j:=by simp [upd,h]
def VIs {α:Type} {n:Nat} (v:Vector α n) (f:Nat→α):Prop:=∀ (i:Nat) (h:i < n),v[i]=f i
namespace VIs
variable {α:Type} {n:Nat} {v w:Vector α n} {f g:Nat→α}
theorem rep {x:α}:VIs (Vector.replicate n x) fun _=>x:=fun i h=>by simp
theorem set (h:VIs v f) (i:Nat) (x:α):VIs (v.setIfInBounds i x) (upd f i x):=fun j hj=>by
  by_cases e:j=i
  · subst e; rw [upd_self]; simp
  · rw [upd_ne e,Vector.getElem_setIfInBounds_ne hj (fun e'=>e e'.symm)]; exact h j hj
theorem ext (h:VIs v f) (k:VIs w f):v=w:=by
  apply Vector.ext
  intro i hi
  rw [h i hi,k i hi]
theorem to (h:VIs v f) (e:∀ i,i < n→f i=g i):VIs v g:=fun i hi=>(h i hi).trans (e i hi)
theorem vat (h:VIs v f) {i:Nat} (hi:i < n):YtchmclllcdknjaaGreatDoor.vat v (i:Int)=some (f i):=by rw [vat_lt v hi,h i hi]
end VIs
def LIs {α:Type} (l:List α) (n:Nat) (f:Nat→α):Prop:=l.length=n∧∀ (i:Nat),i < n→l[i]? = some (f i)
namespace LIs
variable {α:Type} {n:Nat} {l m:List α} {f g:Nat→α}
theorem rep {x:α}:LIs (List.replicate n x) n fun _=>x:=⟨by simp,fun i h=>by simp [h]⟩
theorem nil:LIs ([]:List α) 0 f:=⟨rfl,fun i h=>by omega⟩
theorem set (h:LIs l n f) (i:Nat) (x:α):LIs (l.set i x) n (upd f i x):=⟨by simp [h.1],fun j hj=>by
  by_cases e:j=i
  · subst e; rw [upd_self,List.getElem?_set_self (by rw [h.1]; exact hj)]
  · rw [upd_ne e,List.getElem?_set_ne (fun e'=>e e'.symm)]; exact h.2 j hj⟩
theorem ext (h:LIs l n f) (k:LIs m n f):l=m:=by
  apply List.ext_getElem?
  intro i
  by_cases hi:i < n
  · rw [h.2 i hi,k.2 i hi]
  · rw [List.getElem?_eq_none (by rw [h.1]; omega),List.getElem?_eq_none (by rw [k.1]; omega)]
theorem to (h:LIs l n f) (e:∀ i,i < n→f i=g i):LIs l n g:=⟨h.1,fun i hi=>by rw [h.2 i hi,e i hi]⟩
theorem lat (h:LIs l n f) {i:Nat} (hi:i < n):YtchmclllcdknjaaGreatDoor.lat l (i:Int)=some (f i):=by rw [lat_nat,h.2 i hi]
theorem get (h:LIs l n f) {i:Nat} (hi:i < l.length):l[i]=f i:=by
  have:=h.2 i (by rw [← h.1]; exact hi)
  simpa [hi] using this
theorem ofFn (f:Nat→α):LIs ((List.range n).map f) n f:=⟨by simp,fun i hi=>by simp [hi]⟩
theorem mem_iff (h:LIs l n f) {x:α}:x∈l↔∃ i,i < n∧f i=x:=by
  constructor
  · intro hx
    obtain ⟨i,hi⟩:=List.getElem?_of_mem hx
    have hl:=(List.getElem?_eq_some_iff.1 hi).1
    exact ⟨i,by rw [← h.1]; exact hl,by rw [h.2 i (by rw [← h.1]; exact hl)] at hi; exact Option.some.inj hi⟩
  · rintro ⟨i,hi,rfl⟩
    exact List.mem_of_getElem? (h.2 i hi)
end LIs
theorem int_nat {x:Int} (h:0≤x):∃ n:Nat,x=(n:Int):=Int.eq_ofNat_of_zero_le h
theorem Tot.look {α τ:Type} {l:List α} {body:Nat→Unit→Option (Ctl Unit τ)} {Q:Unit ⊕ τ→Prop} (f:α→Option τ) (hb:∀ j (h:j < l.length),body j ()=some (match f l[j] with | none=>.go () | some t=>.ret t))
    (h1:(∀ x∈l,f x=none)→Q (.inl ())) (h2:∀ (j:Nat) x t,l[j]? = some x→f x=some t→(∀ (i:Nat) y,i < j→l[i]? = some y→f y=none)→Q (.inr t)):Tot (YtchmclllcdknjaaGreatDoor.rangeM body l.length 0 ()) Q:=by
  refine Tot.rangeM (fun j _=>∀ (i:Nat) y,i < j→l[i]? = some y→f y=none) (fun i y hi=>by omega) (fun j s _ hj hI=>?_) (fun s hs=>h1 fun x hx=>?_)
  · have hj':j < l.length:=by omega
    rw [hb j hj']
    refine Tot.some_iff.2 ?_
    cases e:f l[j] with
    | none =>
      intro i y hi hy
      by_cases e':i=j
      · subst e'
        have:y=l[i]:=by simpa [hj'] using hy.symm
        rw [this]; exact e
      · exact hI i y (by omega) hy
    | some t=>exact h2 j l[j] t (by simp [hj']) e hI
  · obtain ⟨i,hi⟩:=List.getElem?_of_mem hx
    exact hs i x (by have:=(List.getElem?_eq_some_iff.1 hi).1; omega) hi
theorem equal_loop {α:Type} [DecidableEq α] {l m:List α} {body:Nat→Unit→Option (Ctl Unit Bool)} (c:α→α→Bool) (hc:∀ x y,c x y=!decide (x=y)) (hb:∀ j:Nat,body j ()=(lat l (j:Int)).bind fun x=>(lat m (j:Int)).bind fun y=>bif c x y then some (.ret false) else some (.go ())) :
    (bif (l.length:Int) != (m.length:Int) then some false else andThen (rangeM body l.length 0 ()) fun _=>some true)=some (decide (l=m)):=by
  refine Tot.eq ?_
  rw [Tot.ite_iff]
  refine ⟨fun h=>Tot.some_iff.2 ?_,fun h=>?_⟩
  · have h':l.length≠m.length:=by simpa [Int.natCast_inj] using h
    exact (decide_eq_false fun e=>h' (by rw [e])).symm
  · have h':l.length=m.length:=by simpa [Int.natCast_inj] using h
    rw [Tot.andThen_iff]
    refine Tot.rangeM (fun j _=>∀ i,i < j→l[i]? = m[i]?) (fun i hi=>by omega) ?_ ?_
    · intro j _ _ hj hI
      have h1:j < l.length:=by omega
      have h2:j < m.length:=by omega
      rw [hb,lat_nat,lat_nat,List.getElem?_eq_getElem h1,List.getElem?_eq_getElem h2,Option.bind_some,Option.bind_some,hc,Tot.ite_iff]
      refine ⟨fun k=>Tot.some_iff.2 ?_,fun k=>Tot.some_iff.2 fun i hi=>?_⟩
      · refine (decide_eq_false fun e=>?_).symm
        subst e
        simp at k
      · by_cases e:i=j
        · subst e; rw [List.getElem?_eq_getElem h1,List.getElem?_eq_getElem h2]; simpa using k
        · exact hI i (by omega)
    · intro _ hI
      refine Tot.some_iff.2 ?_
      refine (decide_eq_true (List.ext_getElem? fun i=>?_)).symm
      by_cases hi:i < l.length
      · exact hI i (by omega)
      · rw [List.getElem?_eq_none (by omega),List.getElem?_eq_none (by omega)]
def idxI {α:Type} (p:α→Bool) (l:List α):Int:=match l.findIdx? p with
  | some i=>(i:Int)
  | none=>-1
theorem idxI_none {α:Type} {p:α→Bool} {l:List α}:idxI p l = -1↔∀ x∈l,p x=false:=by
  unfold idxI
  cases h:l.findIdx? p with
  | none=>simpa using h
  | some i =>
    simp only
    constructor
    · intro k; omega
    · intro k
      obtain ⟨h1,h2,_⟩:=List.findIdx?_eq_some_iff_getElem.1 h
      have:=k _ (List.getElem_mem h1)
      rw [this] at h2; cases h2
theorem idxI_some {α:Type} {p:α→Bool} {l:List α} {i:Nat}:idxI p l=(i:Int)↔∃ x,l[i]? = some x∧p x=true∧∀ (j:Nat) y,j < i→l[j]? = some y→p y=false:=by
  unfold idxI
  have e:l.findIdx? p=some i↔∃ x,l[i]? = some x∧p x=true∧∀ (j:Nat) y,j < i→l[j]? = some y→p y=false:=by
    rw [List.findIdx?_eq_some_iff_getElem]
    constructor
    · rintro ⟨h1,h2,h3⟩
      refine ⟨l[i],by simp [h1],h2,fun j y hj hy=>?_⟩
      obtain ⟨h4,rfl⟩:=List.getElem?_eq_some_iff.1 hy
      simpa using h3 j hj
    · rintro ⟨x,hx,h2,h3⟩
      obtain ⟨h1,rfl⟩:=List.getElem?_eq_some_iff.1 hx
      exact ⟨h1,h2,fun j hj=>by simpa using h3 j _ hj (by rw [List.getElem?_eq_getElem (by omega)])⟩
  rw [← e]
  cases l.findIdx? p with
  | none=>simp
  | some k=>simp only [Option.some.injEq]; omega
theorem idxI_cases {α:Type} (p:α→Bool) (l:List α):(idxI p l = -1∧∀ x∈l,p x=false)∨∃ (i:Nat) (x:α),idxI p l=(i:Int)∧l[i]? = some x∧p x=true∧∀ (j:Nat) y,j < i→l[j]? = some y→p y=false:=by
  cases h:l.findIdx? p with
  | none =>
    have:idxI p l = -1:=by unfold idxI; rw [h]
    exact .inl ⟨this,idxI_none.1 this⟩
  | some i =>
    have:idxI p l=(i:Int):=by unfold idxI; rw [h]
    obtain ⟨x,hx⟩:=idxI_some.1 this
    exact .inr ⟨i,x,this,hx⟩
theorem index_loop {α:Type} {l:List α} (p:α→Bool) {body:Nat→Unit→Option (Ctl Unit Int)} (hb:∀ (j:Nat) x,l[j]? = some x→body j ()=some (bif p x then .ret (j:Int) else .go ())) :
    (andThen (rangeM body l.length 0 ()) fun _=>some (-1:Int))=some (idxI p l):=by
  refine Tot.eq ?_
  rw [Tot.andThen_iff]
  refine Tot.rangeM (fun j _=>∀ (i:Nat) y,i < j→l[i]? = some y→p y=false) (fun i y hi=>by omega) ?_ ?_
  · intro j _ _ hj hI
    have h1:j < l.length:=by omega
    have hx:l[j]? = some l[j]:=by simp [h1]
    rw [hb j _ hx,Tot.some_iff]
    cases hp:p l[j] with
    | true=>exact (idxI_some.2 ⟨_,hx,hp,hI⟩).symm
    | false =>
      intro i y hi hy
      by_cases e:i=j
      · subst e; rw [hx] at hy; obtain rfl:=Option.some.inj hy; exact hp
      · exact hI i y (by omega) hy
  · intro _ hI
    refine Tot.some_iff.2 (idxI_none.2 fun x hx=>?_).symm
    obtain ⟨i,hi⟩:=List.getElem?_of_mem hx
    exact hI i x (by have:=(List.getElem?_eq_some_iff.1 hi).1; omega) hi
theorem min_loop {l:List Int} {body:Int×Int→Option (Ctl (Int×Int) Int)} (hl:l.length≤2 ^ 40) (hb:∀ m i,body (m,i)=bif decide (i < (l.length:Int)) then ((lat l i).bind fun x=>some (.go (min m x,w64 (i+1)))) else some (.brk (m,i))) :
    ∀ (fu i:Nat) (m:Int),i≤l.length→l.length - i < fu→∃ r j,whileM body fu (m,(i:Int))=some (.inl (r,j))∧∀ c:Int,c≤r↔c≤m∧∀ x∈l.drop i,c≤x
  | 0,i,m,_,h=>by omega
  | fu+1,i,m,hi,hf=>by
    unfold whileM
    rw [hb]
    by_cases h:i=l.length
    · subst h
      rw [show decide ((l.length:Int) < (l.length:Int))=false from decide_eq_false (by omega),cond_false]
      exact ⟨m,_,rfl,fun c=>by simp⟩
    · have hi':i < l.length:=by omega
      rw [show decide ((i:Int) < (l.length:Int))=true from decide_eq_true (by omega),cond_true,lat_nat,List.getElem?_eq_getElem hi',Option.bind_some,Option.bind_some,w64_id (by omega) (by omega)]
      obtain ⟨r,j,e,h2⟩:=min_loop hl hb fu (i+1) (min m l[i]) (by omega) (by omega)
      refine ⟨r,j,e,fun c=>?_⟩
      rw [h2,List.drop_eq_getElem_cons hi']
      simp only [List.mem_cons,forall_eq_or_imp]
      constructor
      · rintro ⟨a,b⟩; exact ⟨by omega,by omega,b⟩
      · rintro ⟨a,b,c⟩; exact ⟨by omega,c⟩
theorem max_loop {l:List Int} {body:Int×Int→Option (Ctl (Int×Int) Int)} (hl:l.length≤2 ^ 40) (hb:∀ m i,body (m,i)=bif decide (i < (l.length:Int)) then ((lat l i).bind fun x=>some (.go (max m x,w64 (i+1)))) else some (.brk (m,i))) :
    ∀ (fu i:Nat) (m:Int),i≤l.length→l.length - i < fu→∃ r j,whileM body fu (m,(i:Int))=some (.inl (r,j))∧(∀ c:Int,r≤c↔m≤c∧∀ x∈l.drop i,x≤c)∧(r=m∨r∈l.drop i)
  | 0,i,m,_,h=>by omega
  | fu+1,i,m,hi,hf=>by
    unfold whileM
    rw [hb]
    by_cases h:i=l.length
    · subst h
      rw [show decide ((l.length:Int) < (l.length:Int))=false from decide_eq_false (by omega),cond_false]
      exact ⟨m,_,rfl,fun c=>by simp,.inl rfl⟩
    · have hi':i < l.length:=by omega
      rw [show decide ((i:Int) < (l.length:Int))=true from decide_eq_true (by omega),cond_true,lat_nat,List.getElem?_eq_getElem hi',Option.bind_some,Option.bind_some,w64_id (by omega) (by omega)]
      obtain ⟨r,j,e,h2,h3⟩:=max_loop hl hb fu (i+1) (max m l[i]) (by omega) (by omega)
      refine ⟨r,j,e,fun c=>?_,?_⟩
      · rw [h2,List.drop_eq_getElem_cons hi']
        simp only [List.mem_cons,forall_eq_or_imp]
        constructor
        · rintro ⟨a,b⟩; exact ⟨by omega,by omega,b⟩
        · rintro ⟨a,b,c⟩; exact ⟨by omega,c⟩
      · rw [List.drop_eq_getElem_cons hi',List.mem_cons]
        rcases h3 with h3 | h3
        · by_cases k:m≤l[i]
          · right; left; omega
          · left; omega
        · exact .inr (.inr h3)
theorem u_beq {n:Nat} (a b:BitVec n):((a.toNat:Int)==(b.toNat:Int))=(a==b):=by
  rw [Bool.eq_iff_iff,beq_iff_eq,beq_iff_eq,Int.natCast_inj,BitVec.toNat_inj]
theorem u_bne {n:Nat} (a b:BitVec n):((a.toNat:Int) != (b.toNat:Int))=(a != b):=by
  unfold bne; rw [u_beq]
end Go.Proofs.YtchmclllcdknjaaGreatDoor
