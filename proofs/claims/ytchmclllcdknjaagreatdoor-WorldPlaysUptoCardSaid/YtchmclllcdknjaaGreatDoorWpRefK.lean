/-
  What a process has said and not yet heard: no saying is lost, none is told before it is said.
-/
import Derived.Test.YtchmclllcdknjaaGreatDoorWpWorldS
namespace Go.Proofs.YtchmclllcdknjaaGreatDoor
open Enc
def frE (f:From):Int:=f.Base+f.Late.length
def own (i:Nat) (l:List (Int×Int×Str)):List Int:=(l.filter fun m=>m.1==(i:Int)).map (·.2.1)
def irng (n:Int):List Int:=(List.range n.toNat).map fun (k:Nat)=>(k:Int)
theorem own_app (i:Nat) (l m:List (Int×Int×Str)):own i (l++m)=own i l++own i m:=by unfold own; rw [List.filter_append,List.map_append]
theorem own_one (i:Nat) (m:Int×Int×Str):own i [m]=if m.1=(i:Int) then [m.2.1] else []:=by
  unfold own
  by_cases c:m.1=(i:Int)
  · rw [if_pos c,List.filter_cons_of_pos (by simpa using c)]; rfl
  · rw [if_neg c,List.filter_cons_of_neg (by simpa using c)]; rfl
theorem irng_succ {n:Int} (h:0≤n):irng (n+1)=irng n++[n]:=by
  obtain ⟨k,rfl⟩:=int_nat h
  unfold irng
  rw [show ((k:Int)+1).toNat=k+1 by omega,tnc,List.range_succ,List.map_append]; rfl
structure OS (D:Nat) (a:AW):Prop where
  frm:∀ n∈a.way,knw a n.From=true
  cap:∀ x∈a.ps,frE x.from_≤D
  lim:∀ (i:Nat) x,a.ps[i]? = some x→x.orders.Next≤frE x.from_∧∀ p∈x.orders.Early,p.Seq < frE x.from_
  note:∀ n∈a.way,n.Kind=1→n.View=a.view.Num→∀ x,a.ps[n.From.toNat]? = some x→n.Seq < frE x.from_
  seqs:∀ (i:Nat) x,a.ps[i]? = some x→own i a.ord=irng x.orders.Next
  ordk:∀ m∈a.ord,knw a m.1=true
  base:∀ (i:Nat) x,a.ps[i]? = some x→act a (i:Int)=true→x.from_.Base≤(own i (a.ord.take x.to.Next.toNat)).length
theorem OS.mono {D E:Nat} {a:AW} (h:OS D a) (he:D≤E):OS E a:=⟨h.frm,fun x hx=>by have:=h.cap x hx; omega,h.lim,h.note,h.seqs,h.ordk,h.base⟩
theorem knw_len {a b:AW} (h:b.ps.length=a.ps.length) (p:Int):knw b p=knw a p:=by unfold knw; rw [h]
theorem knw_sq {B:Nat} {a:AW} (h:GA B a) (hm:Mb a):knw a (sq a.view)=true:=by
  rw [sq_tz h.num (hm.lt h)]
  have h1:=h.n.1
  have key:∀ k:Nat,isIn a.view.Members k=true→k < a.ps.length:=fun k hk=>by
    rcases Nat.lt_or_ge k a.ps.length with c | c
    · exact c
    · rw [isIn_out hm c] at hk; cases hk
  unfold tzI
  cases h0:isIn a.view.Members 0 with
  | true=>exact knw_iff.2 ⟨0,rfl,key 0 h0⟩
  | false =>
  cases h1:isIn a.view.Members 1 with
  | true=>exact knw_iff.2 ⟨1,rfl,key 1 h1⟩
  | false =>
  cases h2:isIn a.view.Members 2 with
  | true=>exact knw_iff.2 ⟨2,rfl,key 2 h2⟩
  | false =>
  cases h3:isIn a.view.Members 3 with
  | true=>exact knw_iff.2 ⟨3,rfl,key 3 h3⟩
  | false =>
  cases h4:isIn a.view.Members 4 with
  | true=>exact knw_iff.2 ⟨4,rfl,key 4 h4⟩
  | false =>
  cases h5:isIn a.view.Members 5 with
  | true=>exact knw_iff.2 ⟨5,rfl,key 5 h5⟩
  | false=>exact knw_iff.2 ⟨0,rfl,by omega⟩
theorem OS.seq {D:Nat} {a:AW} (h:OS D a) {m:Int×Int×Str} (hm:m∈a.ord) {i:Nat} {x:Procs} (hi:m.1=(i:Int)) (hx:a.ps[i]? = some x):m.2.1 < frE x.from_:=by
  have h1:m.2.1∈own i a.ord:=List.mem_map.2 ⟨m,List.mem_filter.2 ⟨hm,by simpa using hi⟩,rfl⟩
  rw [h.seqs i x hx] at h1
  obtain ⟨k,hk,e⟩:=List.mem_map.1 h1
  have:=List.mem_range.1 hk
  have:=(h.lim i x hx).1
  omega
theorem own_sum:∀ l:List (Int×Int×Str),(∀ m∈l,0≤m.1∧m.1≤5)→l.length=(own 0 l).length+(own 1 l).length+(own 2 l).length+(own 3 l).length+(own 4 l).length+(own 5 l).length
  | [],_=>rfl
  | m::l,h=>by
    have ih:=own_sum l fun x hx=>h x (List.mem_cons_of_mem _ hx)
    have hm:=h m (by simp)
    have e:∀ i,(own i (m::l)).length=(if m.1=(i:Int) then 1 else 0)+(own i l).length:=fun i=>by
      rw [show m::l=[m]++l from rfl,own_app,own_one,List.length_append]
      by_cases c:m.1=(i:Int)
      · rw [if_pos c,if_pos c]; rfl
      · rw [if_neg c,if_neg c]; rfl
    rw [List.length_cons,e,e,e,e,e,e,ih]
    have:m.1=0∨m.1=1∨m.1=2∨m.1=3∨m.1=4∨m.1=5:=by omega
    rcases this with q | q | q | q | q | q <;> rw [q] <;> simp <;> omega
theorem OS.len {D B:Nat} {a:AW} (h:OS D a) (hG:GA B a):a.ord.length≤6 * D:=by
  have hs:=own_sum a.ord fun m hm=>(hG.ord.2 m hm).1
  have key:∀ i,(own i a.ord).length≤D:=fun i=>by
    by_cases hi:i < a.ps.length
    · have hx:a.ps[i]? = some a.ps[i]:=by simp [hi]
      rw [h.seqs i _ hx]
      have h1:=(h.lim i _ hx).1
      have h2:=h.cap _ (mog hx)
      unfold irng
      simp only [List.length_map,List.length_range]
      omega
    · have:own i a.ord=[]:=by
        unfold own
        rw [List.map_eq_nil_iff,List.filter_eq_nil_iff]
        intro m hm q
        obtain ⟨j,e,hj⟩:=knw_iff.1 (h.ordk m hm)
        have:m.1=(i:Int):=by simpa using q
        omega
      rw [this]; exact Nat.zero_le _
  have:=key 0
  have:=key 1
  have:=key 2
  have:=key 3
  have:=key 4
  have:=key 5
  omega
theorem OS.send {D:Nat} {a:AW} (h:OS D a) {k f t s:Int} {x:Str} (hf:knw a f=true) (h1:k=1→∀ y,a.ps[f.toNat]? = some y→s < frE y.from_):OS D (sendM a k f t s x):=by
  unfold sendM
  cases hc:(okN (noteM a.view k f t s x)&&decide (a.way.length < 60)) with
  | false=>exact h
  | true =>
    refine ⟨fun n hn=>?_,h.cap,h.lim,fun n hn hk hv=>?_,h.seqs,h.ordk,h.base⟩
    · rcases List.mem_append.1 hn with q | q
      · exact h.frm n q
      · rw [List.mem_singleton.1 q]; exact hf
    · rcases List.mem_append.1 hn with q | q
      · exact h.note n q hk hv
      · rw [List.mem_singleton.1 q] at hk ⊢
        exact h1 hk
theorem OS.sub {D:Nat} {a:AW} (h:OS D a) {l:List Note} (hl:∀ n∈l,n∈a.way):OS D {a with way:=l}:=⟨fun n hn=>h.frm n (hl n hn),h.cap,h.lim,fun n hn=>h.note n (hl n hn),h.seqs,h.ordk,h.base⟩
theorem OS.set {D E:Nat} {a:AW} (h:OS D a) {i:Nat} {x y:Procs} (hx:a.ps[i]? = some x) (hD:D≤E) (hc:frE y.from_≤E) (hf:frE x.from_≤frE y.from_) (ho:y.orders=x.orders) (hfa:y.fallen=false→x.fallen=false)
    (hb:(act a (i:Int)=true→x.from_.Base≤(own i (a.ord.take x.to.Next.toNat)).length)→act a (i:Int)=true→y.from_.Base≤(own i (a.ord.take y.to.Next.toNat)).length):OS E {a with ps:=a.ps.set i y}:=by
  have hi:=(gsi hx).1
  have key:∀ (j:Nat) z,(a.ps.set i y)[j]? = some z→(j=i∧z=y)∨(j≠i∧a.ps[j]? = some z):=fun j z hz=>by
    by_cases c:j=i
    · subst c
      rw [List.getElem?_set_self hi] at hz
      exact .inl ⟨rfl,(Option.some.inj hz).symm⟩
    · rw [List.getElem?_set_ne (fun e=>c e.symm)] at hz
      exact .inr ⟨c,hz⟩
  have hkn:∀ p,knw ({a with ps:=a.ps.set i y}:AW) p=knw a p:=fun p=>knw_len (by simp) p
  refine ⟨fun n hn=>by rw [hkn]; exact h.frm n hn,fun z hz=>?_,fun j z hz=>?_,fun n hn hk hv z hz=>?_,fun j z hz=>?_,fun m hm=>by rw [hkn]; exact h.ordk m hm,fun j z hz ha=>?_⟩
  · rcases List.mem_or_eq_of_mem_set hz with q | q
    · have:=h.cap z q; omega
    · rw [q]; exact hc
  · rcases key j z hz with ⟨rfl,rfl⟩|⟨c,q⟩
    · obtain ⟨l1,l2⟩:=h.lim j x hx
      rw [ho]
      exact ⟨by omega,fun p hp=>by have:=l2 p hp; omega⟩
    · exact h.lim j z q
  · rcases key _ z hz with ⟨c,rfl⟩|⟨c,q⟩
    · have:=h.note n hn hk hv x (by rw [c]; exact hx); omega
    · exact h.note n hn hk hv z q
  · rcases key j z hz with ⟨rfl,rfl⟩|⟨c,q⟩
    · rw [ho]; exact h.seqs j x hx
    · exact h.seqs j z q
  · have ea:act ({a with ps:=a.ps.set i y}:AW) (j:Int)=(isIn a.view.Members j&&!z.fallen):=act_get hz
    rw [ea,Bool.and_eq_true] at ha
    rcases key j z hz with ⟨rfl,rfl⟩|⟨c,q⟩
    · have hax:act a (j:Int)=true:=by
        rw [act_get hx,ha.1,hfa (by simpa using ha.2)]; rfl
      exact hb (fun q=>h.base j x hx q) hax
    · exact h.base j z q (by rw [act_get q,ha.1,ha.2]; rfl)
theorem OS.say {D:Nat} {a:AW} (h:OS D a) (p:Int) (t:Str):OS (D+1) (sayM a p t).1:=by
  unfold sayM
  cases hw:(who a p != 0) with
  | true=>exact h.mono (by omega)
  | false =>
    obtain ⟨i,x,rfl,hx,ha⟩:=who_zero hw
    rw [cff]
    cases decide (t.length > 150) with
    | true=>exact h.mono (by omega)
    | false =>
    cases decide (a.way.length=60) with
    | true=>exact h.mono (by omega)
    | false =>
      rw [cff,cff,tnc,hx]
      simp only
      cases fullF x.from_ with
      | true=>exact h.mono (by omega)
      | false =>
        rw [cff]
        have hc:=h.cap x (mog hx)
        have e:frE (⟨x.from_.Base,x.from_.Late++[t]⟩:From)=frE x.from_+1:=by unfold frE; simp; omega
        have hi:=(gsi hx).1
        have h1:=h.set (E:=D+1) (y:={x with from_:=⟨x.from_.Base,x.from_.Late++[t]⟩}) hx (by omega) (by simp only; rw [e]; omega) (by simp only; rw [e]; omega) rfl (fun q=>q) (fun q=>q)
        refine h1.send (k:=1) ?_ (fun _ y hy=>?_)
        · exact knw_iff.2 ⟨i,rfl,by simpa using hi⟩
        · have hy':(a.ps.set i ({x with from_:=⟨x.from_.Base,x.from_.Late++[t]⟩}:Procs))[i]? = some y:=hy
          rw [List.getElem?_set_self hi] at hy'
          rw [← Option.some.inj hy']
          simp only
          rw [e]; unfold frE; omega
theorem OS.again {D B:Nat} {a:AW} (h:OS D a) (hG:GA B a) (p:Int):OS D (againM a p).1:=by
  unfold againM
  cases hw:(who a p != 0) with
  | true=>exact h
  | false =>
    obtain ⟨i,x,rfl,hx,ha⟩:=who_zero hw
    have hk:knw a (i:Int)=true:=knw_iff.2 ⟨i,rfl,(gsi hx).1⟩
    rw [cff,tnc,hx]
    simp only
    have hsn:∀ (b:Int) (j:Nat) (l:List Str) (q:Parcel),q∈sndM b j l→q.Seq < b+j+l.length:=by
      intro b j l
      induction l generalizing j with
      | nil=>intro q hq; simp [sndM] at hq
      | cons t l ih =>
        intro q hq
        unfold sndM at hq
        simp only [List.length_cons]
        split at hq
        · rcases List.mem_cons.1 hq with e | e
          · rw [e]; simp only; omega
          · have:=ih (j+1) q e; omega
        · have:=ih (j+1) q hq; omega
    have hfo:OS D (foldI (fun b _ (q:Parcel)=>sendM b 1 (i:Int) (sq a.view) q.Seq q.Text) 0 (sndM x.from_.Base 0 x.from_.Late) a)∧Like a (foldI (fun b _ (q:Parcel)=>sendM b 1 (i:Int) (sq a.view) q.Seq q.Text) 0 (sndM x.from_.Base 0 x.from_.Late) a) :=
      foldI_inv (fun b=>OS D b∧Like a b) _ 0 a (fun b j q hq hb=>by
        refine ⟨hb.1.send ((knw_len (by rw [hb.2.ps]) _).trans hk) (fun _ y hy=>?_),hb.2.send ..⟩
        rw [hb.2.ps,tnc,hx] at hy
        rw [← Option.some.inj hy]
        have:=hsn _ _ _ _ hq
        unfold frE; omega) ⟨h,rfl,rfl,rfl⟩
    refine hfo.1.send ((knw_len (by rw [hfo.2.ps]) _).trans hk) (fun e=>absurd e (by decide))
theorem OS.fall {D:Nat} {a:AW} (h:OS D a) (p:Int):OS D (fallM a p).1:=by
  unfold fallM
  cases hk:knw a p with
  | false=>exact h
  | true =>
    obtain ⟨i,rfl,hi⟩:=knw_iff.1 hk
    have hx:a.ps[i]? = some a.ps[i]:=by simp [hi]
    generalize a.ps[i]=x at hx
    rw [tnc,hx]
    exact h.set (y:={x with fallen:=true}) hx (Nat.le_refl _) (h.cap x (mog hx)) (Int.le_refl _) rfl (fun q=>by cases q) (fun q=>q)
end Go.Proofs.YtchmclllcdknjaaGreatDoor
namespace Go.Proofs.YtchmclllcdknjaaGreatDoor
open Enc
theorem irng_add {n:Int} (h:0≤n):∀ k:Nat,irng (n+k)=irng n++(List.range k).map fun (j:Nat)=>n+(j:Int)
  | 0=>by simp
  | k+1=>by
    rw [show n+((k+1:Nat):Int)=(n+(k:Int))+1 by omega,irng_succ (by omega),irng_add h k,List.range_succ,List.map_append,List.append_assoc]; rfl
theorem set_key {α:Type} {l:List α} {i:Nat} {y:α} (hi:i < l.length):∀ (j:Nat) z,(l.set i y)[j]? = some z→(j=i∧z=y)∨(j≠i∧l[j]? = some z):=fun j z hz=>by
  by_cases c:j=i
  · subst c
    rw [List.getElem?_set_self hi] at hz
    exact .inl ⟨rfl,(Option.some.inj hz).symm⟩
  · rw [List.getElem?_set_ne (fun e=>c e.symm)] at hz
    exact .inr ⟨c,hz⟩
theorem ordOne_way (b:AW) (p q:Int) (t:Str):∀ n∈(ordOne b p q t).way,n∈b.way∨(n.Kind=2∧n.From=sq b.view):=by
  unfold ordOne
  refine foldI_inv (fun c:AW=>∀ n∈c.way,n∈b.way∨(n.Kind=2∧n.From=sq b.view)) _ 0 _ (fun c j x _ hc=>?_) (fun n hn=>.inl hn)
  cases act c (j:Int) with
  | false=>exact hc
  | true =>
    rw [ctt]
    intro n hn
    rcases sendM_way _ _ _ _ _ _ n hn with q | q
    · exact hc n q
    · rw [q]; exact .inr ⟨rfl,rfl⟩
theorem OS.order {D B fu:Nat} {base:List Saying} {a:AW} {n:Note} (h:OS D a) (hP:PV base a) (hG:GA B a) (hm:Mb a) (hfu:200 < fu) (hn:GN n) (hk:n.Kind=1) (hkn:knw a n.From=true) (hlt:∀ x,a.ps[n.From.toNat]? = some x→n.Seq < frE x.from_):OS D (orderM fu a n):=by
  obtain ⟨i,hi,hil⟩:=knw_iff.1 hkn
  have hx:a.ps[i]? = some a.ps[i]:=by simp [hil]
  generalize a.ps[i]=x at hx
  have hp:=hG.ps x (mog hx)
  have hsq:=hn.1.seq
  have ht:=hn.2.1 hk
  have hs:=hlt x (by rw [hi]; exact hx)
  have hpb:=hp.base
  have hs':n.Seq≤16777214:=by unfold frE at hs; omega
  obtain ⟨lim1,lim2⟩:=h.lim i x hx
  unfold orderM
  rw [hi,tnc,hx]
  simp only
  obtain ⟨_,t2,_,t4⟩:=take_v (r:=x.orders) (p:=⟨n.Seq,n.Text⟩) hfu hp.ords.1 ⟨hsq.1,hs'⟩ (by simp only; omega)
  rw [dff (show ¬ n.Seq > 16777214 by omega),cff]
  generalize takeV fu x.orders ⟨n.Seq,n.Text⟩=r at t2 t4
  obtain ⟨o,ts⟩:=r
  simp only at t2 t4 ⊢
  have hnx:=t2.next
  have hlo:=hp.ords.1.lo
  have hts:∀ (j:Nat) t,ts[j]? = some t→x.orders.Next+(j:Int) < frE x.from_:=fun j t hj=>by
    rcases t2.from_ j t hj with q | q
    · exact lim2 _ q
    · have:x.orders.Next+(j:Int)=n.Seq:=by injection q
      omega
  have hon:o.Next≤frE x.from_:=by
    rcases Nat.eq_zero_or_pos ts.length with e | e
    · omega
    · have hg:ts[ts.length - 1]? = some (ts[ts.length - 1]'(by omega)):=by simp
      have:=hts _ _ hg
      omega
  have fin:=foldI_at (f:=fun (b:AW) j t=>ordOne b (i:Int) (x.orders.Next+(j:Int)) t) (fun j b=>b.ps=a.ps.set i {x with orders:=o}∧b.view=a.view∧(∃ more:List (Int×Int×Str),b.ord=a.ord++more∧own i more=((List.range j).map fun (k:Nat)=>x.orders.Next+(k:Int))∧∀ m∈more,m.1=(i:Int))∧∀ n∈b.way,n∈a.way∨(n.Kind=2∧n.From=sq a.view)) (l:=ts) (fun j t b hj hb=>by
    obtain ⟨b1,b2,⟨more,b3,b4,b5⟩,b6⟩:=hb
    refine ⟨by rw [(ordOne_like ..).ps]; exact b1,by rw [(ordOne_like ..).view]; exact b2,⟨more++[((i:Int),x.orders.Next+(j:Int),t)],?_,?_,fun m hm=>?_⟩,fun n hn=>?_⟩
    · rw [(ordOne_like ..).ord]
      show b.ord++_=_
      rw [b3,List.append_assoc]
    · rw [own_app,b4,own_one,if_pos rfl,List.range_succ,List.map_append]; rfl
    · rcases List.mem_append.1 hm with q | q
      · exact b5 m q
      · rw [List.mem_singleton.1 q]
    · rcases ordOne_way _ _ _ _ n hn with q | q
      · exact b6 n q
      · rw [b2] at q; exact .inr q) ts.length 0 {a with ps:=a.ps.set i {x with orders:=o}} (by omega) ⟨rfl,rfl,⟨[],by simp,by simp [own],fun m hm=>by cases hm⟩,fun n hn=>.inl hn⟩
  rw [List.drop_zero] at fin
  generalize foldI (fun (b:AW) j t=>ordOne b (i:Int) (x.orders.Next+(j:Int)) t) 0 ts {a with ps:=a.ps.set i {x with orders:=o}}=d at fin
  obtain ⟨b1,b2,⟨more,b3,b4,b5⟩,b6⟩:=fin
  have hkd:∀ p,knw d p=knw a p:=fun p=>knw_len (by rw [b1]; simp) p
  have hx2:∀ (j:Nat) z,d.ps[j]? = some z→(j=i∧z={x with orders:=o})∨(j≠i∧a.ps[j]? = some z):=fun j z hz=>by rw [b1] at hz; exact set_key hil j z hz
  refine ⟨fun n hn=>?_,fun z hz=>?_,fun j z hz=>?_,fun n hn hk1 hv z hz=>?_,fun j z hz=>?_,fun m hm'=>?_,fun j z hz ha=>?_⟩
  · rw [hkd]
    rcases b6 n hn with q | q
    · exact h.frm n q
    · rw [q.2]; exact knw_sq hG hm
  · rw [b1] at hz
    rcases List.mem_or_eq_of_mem_set hz with q | q
    · exact h.cap z q
    · rw [q]; exact h.cap x (mog hx)
  · rcases hx2 j z hz with ⟨rfl,rfl⟩|⟨c,q⟩
    · refine ⟨hon,fun p hp'=>?_⟩
      rcases (t2.rng p hp').2.2 with q | q
      · exact lim2 p q
      · rw [q]; exact hs
    · exact h.lim j z q
  · rcases b6 n hn with q | q
    · rw [b2] at hv
      rcases hx2 _ z hz with ⟨c,rfl⟩|⟨c,q2⟩
      · exact h.note n q hk1 hv x (by rw [c]; exact hx)
      · exact h.note n q hk1 hv z q2
    · rw [q.1] at hk1; exact absurd hk1 (by decide)
  · rw [b3,own_app]
    rcases hx2 j z hz with ⟨rfl,rfl⟩|⟨c,q⟩
    · rw [h.seqs j x hx,b4]
      simp only
      rw [hnx,irng_add hlo]
    · have e:own j more=[]:=by
        unfold own
        rw [List.map_eq_nil_iff,List.filter_eq_nil_iff]
        intro m hm' q'
        have h1:=b5 m hm'
        have h2:m.1=(j:Int):=by simpa using q'
        omega
      rw [h.seqs j z q,e,List.append_nil]
  · rw [hkd]
    rw [b3] at hm'
    rcases List.mem_append.1 hm' with q | q
    · exact h.ordk m q
    · rw [b5 m q]; exact knw_iff.2 ⟨i,rfl,hil⟩
  · rw [b3]
    rw [act_get hz,b2] at ha
    have key:∀ y,a.ps[j]? = some y→y.fallen=z.fallen→y.from_=z.from_→y.to=z.to→z.from_.Base≤(own j ((a.ord++more).take z.to.Next.toNat)).length:=fun y hy e1 e2 e3=>by
      have hay:act a (j:Int)=true:=by rw [act_get hy,e1]; exact ha
      obtain ⟨tt,_,_⟩:=hP.log j y hy hay
      rw [List.take_append_of_le_length (by rw [← e3]; omega),← e2,← e3]
      exact h.base j y hy hay
    rcases hx2 j z hz with ⟨rfl,rfl⟩|⟨c,q⟩
    · exact key x hx rfl rfl rfl
    · exact key z q rfl rfl rfl
theorem OS.askGo {D B:Nat} {a:AW} (hG:GA B a) (hm:Mb a) (f:Int):∀ (k i:Nat) (b:AW),OS D b→Like a b→OS D (askGo (sq a.view) f k i b)
  | 0,_,_,h,_=>h
  | k+1,i,b,h,hl=>by
    unfold Go.Proofs.YtchmclllcdknjaaGreatDoor.askGo
    cases hb:b.ord[i]? with
    | none=>exact h
    | some m=>exact OS.askGo hG hm f k (i+1) _ (h.send ((knw_len (by rw [hl.ps]) _).trans (knw_sq hG hm)) (fun e=>absurd e (by decide))) (hl.send ..)
theorem frE_heard (f:From) (k:Int):frE (heardV f k)=frE f∧(heardV f k).Base≤max f.Base k:=by
  unfold heardV frE
  by_cases c:k > f.Base+f.Late.length
  · rw [dtt c,ctt]; omega
  · rw [dff c,cff]
    simp only [List.length_drop]
    omega
theorem own_take {i:Nat} {l:List (Int×Int×Str)} {n:Int} {k:Nat} {m:Int×Int×Str} (h:own i l=irng n) (hm:l[k]? = some m) (hi:m.1=(i:Int)):m.2.1=((own i (l.take k)).length:Int)∧own i (l.take (k+1))=own i (l.take k)++[m.2.1]:=by
  have e2:own i (l.take (k+1))=own i (l.take k)++[m.2.1]:=by
    rw [List.take_add_one,hm,Option.toList_some,own_app,own_one,if_pos hi]
  have hl:l=l.take (k+1)++l.drop (k+1):=(List.take_append_drop _ _).symm
  have e3:own i l=own i (l.take k)++[m.2.1]++own i (l.drop (k+1)):=by rw [← e2,← own_app,← hl]
  refine ⟨?_,e2⟩
  have hg:(irng n)[(own i (l.take k)).length]? = some m.2.1:=by rw [← h,e3,List.append_assoc,List.getElem?_append_right (Nat.le_refl _),Nat.sub_self]; rfl
  unfold irng at hg
  rw [List.getElem?_map] at hg
  obtain ⟨q,hq,e⟩:=Option.map_eq_some_iff.1 hg
  obtain ⟨hlt,hq2⟩:=gsi hq
  rw [List.getElem_range] at hq2
  omega
theorem own_mono (i:Nat) (l:List (Int×Int×Str)) (k:Nat):(own i (l.take k)).length≤(own i (l.take (k+1))).length:=by
  rw [List.take_add_one,own_app,List.length_append]; omega
theorem take_told {B fu:Nat} {base:List Saying} {a:AW} {n:Note} {x:Procs} {i:Nat} (hP:PV base a) (hG:GA B a) (hfu:200 < fu) (hn:GN n) (hk:n.Kind=2) (hv:n.View=a.view.Num) (hnv:NV a.view.Num a.ord n) (hx:a.ps[i]? = some x) (ha:act a (i:Int)=true) (hs:n.Seq≤16777214) :
    ∃ (N:Nat) (o:To) (ts:List Str),x.to.Next=(N:Int)∧takeV fu x.to ⟨n.Seq,n.Text⟩=(o,ts)∧o.Next=((N+ts.length:Nat):Int)∧GoodT o∧(∀ y∈o.Early,y∈x.to.Early∨y=⟨n.Seq,n.Text⟩)∧ts.length≤17∧∀ (j:Nat) t,ts[j]? = some t→∃ m,a.ord[N+j]? = some m∧t=enc3 m∧G3 m:=by
  have hp:=hG.ps x (mog hx)
  obtain ⟨⟨t1,t2⟩,t3,t4⟩:=hP.log i x hx ha
  obtain ⟨mn,hmn,htn⟩:=hnv.2 hk hv
  have hsq:=hn.1.seq
  have hml:=enc3_len (hG.ord.2 mn (mog hmn))
  obtain ⟨_,k2,_,k4⟩:=take_v (r:=x.to) (p:=⟨n.Seq,n.Text⟩) hfu hp.to.1 ⟨hsq.1,hs⟩ (by simp only; rw [htn]; omega)
  have hog:=took_good hp.to.1 (fun y hy=>(hp.to.2 y hy).1) hs k2
  generalize takeV fu x.to ⟨n.Seq,n.Text⟩=r at k2 k4 hog
  obtain ⟨o,ts⟩:=r
  simp only at k2 k4 hog
  obtain ⟨N,hN⟩:=int_nat t1
  have hnx:=k2.next
  refine ⟨N,o,ts,hN,rfl,by omega,hog,fun y hy=>(k2.rng y hy).2.2,k4,fun j t hj=>?_⟩
  rcases k2.from_ j t hj with q | q
  · obtain ⟨m,e1,e2⟩:=t4 _ q
    refine ⟨m,?_,e2,hG.ord.2 m (mog e1)⟩
    have:((x.to.Next+(j:Int))).toNat=N+j:=by omega
    simp only at e1; rw [this] at e1; exact e1
  · have q1:x.to.Next+(j:Int)=n.Seq:=by injection q
    have q2:t=n.Text:=by injection q
    refine ⟨mn,?_,q2.trans htn,hG.ord.2 mn (mog hmn)⟩
    have:n.Seq.toNat=N+j:=by omega
    rw [this] at hmn; exact hmn
theorem OS.take {D B fu:Nat} {base:List Saying} {a:AW} {n:Note} (h:OS D a) (hP:PV base a) (hG:GA B a) (hfu:200 < fu) (hn:GN n) (hk:n.Kind=2) (hv:n.View=a.view.Num) (hnv:NV a.view.Num a.ord n) (ha:act a n.To=true):OS D (takeM fu a n):=by
  have hkn:knw a n.To=true:=by unfold act at ha; rw [Bool.and_eq_true,Bool.and_eq_true] at ha; exact ha.1.1
  obtain ⟨i,hi,hil⟩:=knw_iff.1 hkn
  have hx:a.ps[i]? = some a.ps[i]:=by simp [hil]
  generalize a.ps[i]=x at hx
  rw [hi] at ha
  unfold takeM
  rw [hi,tnc,hx]
  simp only
  by_cases hs:n.Seq > 16777214
  · rw [dtt hs]; exact h
  · obtain ⟨N,o,ts,hN,et,ho,_,_,_,hts⟩:=take_told hP hG hfu hn hk hv hnv hx ha (by omega)
    have hb0:=h.base i x hx ha
    rw [dff hs,cff,et]
    simp only
    have fin:=foldI_at (f:=fun (b:AW) (_:Nat) t=>hearM b (i:Int) t) (fun j b=>∃ y:Procs,b={a with ps:=a.ps.set i y}∧y.fallen=x.fallen∧y.to=o∧y.orders=x.orders∧frE y.from_=frE x.from_∧y.from_.Base≤(own i (a.ord.take (N+j))).length) (l:=ts) (fun j t b hj hb=>by
      obtain ⟨y,rfl,b5,b6,b7,b8,b9⟩:=hb
      obtain ⟨m,e1,rfl,e3⟩:=hts j t hj
      refine ⟨{y with log:=y.log++[⟨m.1,m.2.2⟩],from_:=bif m.1==(i:Int) then heardV y.from_ (m.2.1+1) else y.from_},?_,b5,b6,b7,?_,?_⟩
      · unfold hearM
        simp only
        rw [tnc,List.getElem?_set_self hil,prs_enc e3]
        simp only [List.set_set]
      · simp only
        cases (m.1==(i:Int)) with
        | true=>rw [ctt,(frE_heard ..).1]; exact b8
        | false=>exact b8
      · have hmo:=own_mono i a.ord (N+j)
        simp only
        rw [show N+(j+1)=N+j+1 by omega]
        cases hc:(m.1==(i:Int)) with
        | true =>
          obtain ⟨q1,q2⟩:=own_take (h.seqs i x hx) e1 (by simpa using hc)
          have:=(frE_heard y.from_ (m.2.1+1)).2
          rw [ctt,q2,List.length_append]
          simp only [List.length_cons,List.length_nil]
          omega
        | false=>rw [cff]; omega) ts.length 0 {a with ps:=a.ps.set i {x with to:=o}} (by omega) ⟨{x with to:=o},rfl,rfl,rfl,rfl,rfl,by
          rw [Nat.add_zero]
          have:x.to.Next.toNat=N:=by omega
          rw [this] at hb0; exact hb0⟩
    rw [List.drop_zero] at fin
    obtain ⟨y,e,b5,b6,b7,b8,b9⟩:=fin
    rw [e]
    refine h.set hx (Nat.le_refl _) (by rw [b8]; exact h.cap x (mog hx)) (by rw [b8]; exact Int.le_refl _) b7 (by rw [b5]; exact fun q=>q) (fun _ _=>?_)
    rw [b6,ho,tnc]; exact b9
theorem OS.deliv {D B fu:Nat} {base:List Saying} {a:AW} {n:Note} (h:OS D a) (hP:PV base a) (hG:GA B a) (hm:Mb a) (hfu:200 < fu) (hn:GN n) (hv:n.View=a.view.Num) (hnv:NV a.view.Num a.ord n) (ha:act a n.To=true) (hlt:n.Kind=1→∀ x,a.ps[n.From.toNat]? = some x→n.Seq < frE x.from_):OS D (delivM fu a n):=by
  unfold delivM
  cases hkf:knw a n.From with
  | false=>exact h
  | true =>
  simp only [Bool.not_true,cff]
  cases h1:n.Kind==1 with
  | true =>
    have h1':n.Kind=1:=by simpa using h1
    exact h.order hP hG hm hfu hn h1' hkf (hlt h1')
  | false =>
  cases n.Kind==3 with
  | true=>exact OS.askGo hG hm _ _ _ _ h ⟨rfl,rfl,rfl⟩
  | false =>
  cases hk:n.Kind==2 with
  | true=>exact h.take hP hG hfu hn (by simpa using hk) hv hnv ha
  | false=>exact h
theorem OS.move {D B fu:Nat} {base:List Saying} {a:AW} (h:OS D a) (hP:PV base a) (hG:GA B a) (hm:Mb a) (hfu:200 < fu) (k how:Int):OS D (moveM fu a k how).1:=by
  unfold moveM
  cases !(decide (how≥1)&&decide (how≤3)) with
  | true=>exact h
  | false =>
  cases !(decide (k≥0)&&decide (k≤(a.way.length:Int) - 1)) with
  | true=>exact h
  | false =>
  cases (how==3)&&decide (a.way.length=60) with
  | true=>exact h
  | false =>
  cases hx:a.way[k.toNat]? with
  | none=>exact h
  | some n =>
    have hmn:=mog hx
    simp only [cff]
    cases how==3 with
    | true =>
      refine h.sub fun m hm'=>?_
      rcases List.mem_append.1 hm' with q | q
      · exact q
      · rw [List.mem_singleton.1 q]; exact hmn
    | false =>
      rw [cff]
      have hsub:∀ m∈a.way.take k.toNat++a.way.drop (k.toNat+1),m∈a.way:=fun m hm'=>by
        rcases List.mem_append.1 hm' with q | q
        · exact List.mem_of_mem_take q
        · exact List.mem_of_mem_drop q
      have hb:OS D {a with way:=a.way.take k.toNat++a.way.drop (k.toNat+1)}:=h.sub hsub
      cases hq:((how==1)&&(n.View==a.view.Num))&&act a n.To with
      | false=>exact hb
      | true =>
        rw [Bool.and_eq_true,Bool.and_eq_true] at hq
        have hv:n.View=a.view.Num:=by simpa using hq.1.2
        exact hb.deliv (hP.way_sub hsub) (hG.lose k.toNat) hm hfu (hG.way.2 n hmn) hv (hP.way n hmn) hq.2 (fun h1=>h.note n hmn h1 hv)
end Go.Proofs.YtchmclllcdknjaaGreatDoor
namespace Go.Proofs.YtchmclllcdknjaaGreatDoor
open Enc
theorem ask_loop_r {B fu:Nat} {a:AW} {g:List (Int×Int)} {n:Note} (hfu:20≤fu) (hm:Mb a) (hs:0≤n.Seq∧n.Seq≤16777215) (ha:GA B a) (hB:B≤2 ^ 40):∀ (k i:Nat) (b:AW) (fu2:Nat),k < fu2→(i:Int)+k=n.Seq+4→Like a b→GA B b →
    ∃ j,whileM (partref_World_comes_B5 fu (a.r g) n) fu2 ((i:Int),b.r g,b.way)=some (.inl (j,(askGo (sq a.view) n.From k i b).r g,(askGo (sq a.view) n.From k i b).way))∧Like a (askGo (sq a.view) n.From k i b)∧GA B (askGo (sq a.view) n.From k i b):=by
  have hol:((a.r g).order.length:Int)=a.ord.length:=by show ((a.ord.map _).length:Int)=_; rw [List.length_map]
  have w4:w64 (n.Seq+4)=n.Seq+4:=w64_id (by omega) (by omega)
  have hbr:∀ b:AW,Like a b→({b.r g with gone:=(a.r g).gone,order:=(a.r g).order,marks:=(a.r g).marks,WayNotes:=b.way}:RWld)=b.r g:=fun b hl=>r_same (g:=g) hl.ord
  have stop:∀ (i:Nat) (b:AW) (fu2:Nat),0 < fu2→Like a b→¬ ((i:Int) < a.ord.length∧(i:Int) < n.Seq+4)→∃ j,whileM (partref_World_comes_B5 fu (a.r g) n) fu2 ((i:Int),b.r g,b.way)=some (.inl (j,b.r g,b.way)):=fun i b fu2 hf hl hc=>by
    obtain ⟨fu2,rfl⟩:∃ q,fu2=q+1:=⟨fu2 - 1,by omega⟩
    refine ⟨i,?_⟩
    have hb:=hbr b hl
    dsimp only at hb
    unfold whileM partref_World_comes_B5
    simp only
    rw [hol,w4,dff (show ¬ (i:Int) < min (a.ord.length:Int) (n.Seq+4) by omega),hb]
    rfl
  intro k
  induction k with
  | zero =>
    intro i b fu2 hf hi hl hg
    obtain ⟨j,hj⟩:=stop i b fu2 hf hl (by omega)
    exact ⟨j,hj,hl,hg⟩
  | succ k ih =>
    intro i b fu2 hf hi hl hg
    cases hmm:b.ord[i]? with
    | none =>
      have hlen:b.ord.length≤i:=List.getElem?_eq_none_iff.1 hmm
      obtain ⟨j,hj⟩:=stop i b fu2 (by omega) hl (by rw [hl.ord] at hlen; omega)
      unfold askGo
      rw [hmm]
      exact ⟨j,hj,hl,hg⟩
    | some m =>
      have hil:i < b.ord.length:=(gsi hmm).1
      have hil2:i < a.ord.length:=by rw [← hl.ord]; exact hil
      have hgm:=hg.ord.2 m (mog hmm)
      have hol2:=hg.ord.1
      obtain ⟨fu2,rfl⟩:∃ q,fu2=q+1:=⟨fu2 - 1,by omega⟩
      have hl2:=hl.send 2 (sq a.view) n.From (i:Int) (enc3 m)
      have hg2:GA B (sendM b 2 (sq a.view) n.From (i:Int) (enc3 m)):=hg.send (fun e=>absurd e (by decide)) (fun _=>⟨m,hgm,rfl⟩)
      obtain ⟨j,h1,h2,h3⟩:=ih (i+1) _ fu2 (by omega) (by push_cast; omega) hl2 hg2
      unfold askGo
      rw [hmm]
      refine ⟨j,?_,h2,h3⟩
      have hb:=hbr b hl
      have hb2:=hbr _ hl2
      dsimp only at hb hb2
      have hbd:partref_World_comes_B5 fu (a.r g) n ((i:Int),b.r g,b.way)=some (.go (((i+1:Nat):Int),(sendM b 2 (sq a.view) n.From (i:Int) (enc3 m)).r g,(sendM b 2 (sq a.view) n.From (i:Int) (enc3 m)).way)):=by
        unfold partref_World_comes_B5
        simp only
        rw [hol,w4,dtt (show (i:Int) < min (a.ord.length:Int) (n.Seq+4) by omega),ctt,hb,tell_r hfu hg (hm.same hl.view (by rw [hl.ps])) n.From hmm hgm,Obs,hl.view]
        simp only
        rw [hb2,w64_id (by omega) (by omega)]
        rfl
      unfold whileM
      rw [hbd,Obs]
      exact h1
theorem ask_r {B fu:Nat} {a:AW} {g:List (Int×Int)} {n:Note} (hfu:20≤fu) (h:GA B a) (hB:B≤2 ^ 40) (hm:Mb a) (hn:GN n) (hk:n.Kind=3) :
    partref_World_comes fu (a.r g) n=some ((askM a n).ord.map (·.2.2),(askM a n).ord.map (fun m=>(⟨m.1,m.2.1⟩:Mark)),(askM a n).way,(askM a n).r g):=by
  have hs:=hn.1.seq
  obtain ⟨s,hs1⟩:=int_nat hs.1
  obtain ⟨j,l1,l2,l3⟩:=ask_loop_r (g:=g) (n:=n) hfu hm hs h hB 4 s a fu (by omega) (by omega) ⟨rfl,rfl,rfl⟩ h
  have ea:askM a n=askGo (sq a.view) n.From 4 s a:=by unfold askM; rw [hs1]; rfl
  unfold partref_World_comes
  rw [hk,ea]
  have e1:((3:Int)==1)=false:=rfl
  simp only [e1,beq_self_eq_true,ctt,cff]
  have l1':whileM (partref_World_comes_B5 fu (a.r g) n) fu (n.Seq,a.r g,(a.r g).WayNotes)=some (.inl (j,(askGo (sq a.view) n.From 4 s a).r g,(askGo (sq a.view) n.From 4 s a).way)):=by rw [hs1]; exact l1
  rw [l1',andThen_inl]
  generalize askGo (sq a.view) n.From 4 s a=d at l2
  have:=r_same (g:=g) l2.ord
  have e2:(a.r g).order=d.ord.map (·.2.2):=by rw [l2.ord]; rfl
  have e3:(a.r g).marks=d.ord.map (fun m=>(⟨m.1,m.2.1⟩:Mark)):=by rw [l2.ord]; rfl
  dsimp only at this ⊢
  rw [e2,e3]
  rfl
theorem hear_r {a:AW} {g:List (Int×Int)} {n:Note} {i N j:Nat} {o x9:To} {y:Procs} {m:Int×Int×Str} (hi:n.To=(i:Int)) (hil:i < a.ps.length) (h6:i < 6) (hN:x9.Next=(N:Int)) (hNl:N+j≤2 ^ 40) (hm:a.ord[N+j]? = some m) (hg3:G3 m) (hlog:y.log.length≤2 ^ 39) (hf:GF y.from_)
    (hlt:m.1=(i:Int)→m.2.1 < frE y.from_) :
    partref_World_comes_B7 (a.r g) n x9 j (({a with ps:=a.ps.set i y}:AW).r g)=some ((hearM {a with ps:=a.ps.set i y} (i:Int) (enc3 m)).r g):=by
  have hb:=hf.base
  have hl:=hf.late
  have g2:=hg3.2.1
  have hw:w64 (x9.Next+(j:Int))=((N+j:Nat):Int):=by rw [hN,w64_id (by omega) (by omega)]; omega
  have hil':i < (a.ps.set i y).length:=by simpa using hil
  have hy:(a.ps.set i y)[i]? = some y:=List.getElem?_set_self hil
  have e1:(a.r g).marks[N+j]? = some ⟨m.1,m.2.1⟩:=by show (a.ord.map _)[N+j]? = _; rw [List.getElem?_map,hm]; rfl
  have e2:(a.r g).order[N+j]? = some m.2.2:=by show (a.ord.map _)[N+j]? = _; rw [List.getElem?_map,hm]; rfl
  have hear:∀ f:From,({({a with ps:=a.ps.set i y}:AW).r g with Logs:=RV [] (·.log) (a.ps.set i ({y with log:=y.log++[⟨m.1,m.2.2⟩],from_:=f}:Procs)),Late:=RV From.zero (·.from_) (a.ps.set i ({y with log:=y.log++[⟨m.1,m.2.2⟩],from_:=f}:Procs))}:RWld)=({a with ps:=a.ps.set i ({y with log:=y.log++[⟨m.1,m.2.2⟩],from_:=f}:Procs)}:AW).r g:=fun f=>by
    unfold AW.r
    simp only [List.length_set]
    have e:=RV.same (f:=(·.to)) (d:=To.zero) (y:=({y with log:=y.log++[⟨m.1,m.2.2⟩],from_:=f}:Procs)) hy rfl
    have e':=RV.same (f:=(·.orders)) (d:=To.zero) (y:=({y with log:=y.log++[⟨m.1,m.2.2⟩],from_:=f}:Procs)) hy rfl
    rw [List.set_set] at e e'
    rw [e,e']
  have hM:hearM {a with ps:=a.ps.set i y} (i:Int) (enc3 m)={a with ps:=a.ps.set i ({y with log:=y.log++[⟨m.1,m.2.2⟩],from_:=bif m.1==(i:Int) then heardV y.from_ (m.2.1+1) else y.from_}:Procs)}:=by
    unfold hearM
    simp only
    rw [tnc,hy,prs_enc hg3]
    simp only [List.set_set]
  have hLogs:∀ f:From,(RV [] (·.log) (a.ps.set i y)).setIfInBounds i (y.log++([(⟨m.1,m.2.2⟩:Saying)]:List Saying))=RV [] (·.log) (a.ps.set i ({y with log:=y.log++[⟨m.1,m.2.2⟩],from_:=f}:Procs)):=fun f=>by
    rw [RV.set (y:=({y with log:=y.log++[⟨m.1,m.2.2⟩],from_:=f}:Procs)) hil' rfl,List.set_set]
  rw [hM]
  unfold partref_World_comes_B7
  rw [hw,lat_nat,e1,Obs,hi,show (({a with ps:=a.ps.set i y}:AW).r g).Logs=RV [] (·.log) (a.ps.set i y) from rfl,RV.get h6 hy,Obs,clone_says (by omega),Obs,lat_nat,e2,Obs,room_ok (by simp; omega),Obs,Let_eq,Obs,Let_eq,
    show (({a with ps:=a.ps.set i y}:AW).r g).Late=RV From.zero (·.from_) (a.ps.set i y) from rfl,RV.get h6 hy,Obs,tnc]
  simp only
  have es:({Saying.zero with From:=m.1,Text:=m.2.2}:Saying)=⟨m.1,m.2.2⟩:=rfl
  dsimp only at es
  rw [es,and_some,Obs]
  cases hc:((m.1==(i:Int))&&decide (m.2.1≥y.from_.Base)) with
  | false =>
    have hv:(bif m.1==(i:Int) then heardV y.from_ (m.2.1+1) else y.from_)=y.from_:=by
      cases hq:(m.1==(i:Int)) with
      | false=>rfl
      | true =>
        rw [hq,Bool.true_and,decide_eq_false_iff_not] at hc
        rw [ctt]
        unfold heardV
        rw [dff (by omega),cff,show max (m.2.1+1 - y.from_.Base) 0=0 by omega]
        simp
    rw [hv,cff,hLogs y.from_]
    have hfin:=hear y.from_
    have hsame:RV From.zero (·.from_) (a.ps.set i ({y with log:=y.log++[⟨m.1,m.2.2⟩],from_:=y.from_}:Procs))=RV From.zero (·.from_) (a.ps.set i y):=by
      have e:=RV.same (f:=(·.from_)) (d:=From.zero) (y:=({y with log:=y.log++[⟨m.1,m.2.2⟩],from_:=y.from_}:Procs)) hy rfl
      rw [List.set_set] at e
      exact e
    rw [hsame] at hfin
    exact congrArg some hfin
  | true =>
    rw [Bool.and_eq_true,decide_eq_true_eq] at hc
    have hmi:m.1=(i:Int):=by simpa using hc.1
    have hl1:=hlt hmi
    unfold frE at hl1
    obtain ⟨d,hd⟩:∃ d:Nat,m.2.1+1 - y.from_.Base=(d:Int):=int_nat (by omega)
    have hv:(bif m.1==(i:Int) then heardV y.from_ (m.2.1+1) else y.from_)=⟨m.2.1+1,y.from_.Late.drop d⟩:=by
      rw [hc.1,ctt]
      unfold heardV
      rw [dff (by omega),cff,show max (m.2.1+1 - y.from_.Base) 0=(d:Int) by omega,tnc,show y.from_.Base+(d:Int)=m.2.1+1 by omega]
    have hcut:cutL y.from_.Late (w64 (w64 (m.2.1+1) - y.from_.Base)) (y.from_.Late.length:Int)=some (y.from_.Late.drop d):=by
      rw [w64_id (x:=m.2.1+1) (by omega) (by omega),hd,w64_id (by omega) (by omega)]
      unfold cutL
      rw [if_pos (by omega)]
      simp only [tnc]
      rw [List.take_of_length_le (by simp)]
    rw [hv,ctt,hcut,Obs,Let_eq]
    have hs1:(RV From.zero (·.from_) (a.ps.set i y)).setIfInBounds i (⟨y.from_.Base,y.from_.Late.drop d⟩:From)=RV From.zero (·.from_) (a.ps.set i ({y with from_:=⟨y.from_.Base,y.from_.Late.drop d⟩}:Procs)):=by
      rw [RV.set (y:=({y with from_:=⟨y.from_.Base,y.from_.Late.drop d⟩}:Procs)) hil' rfl,List.set_set]
    have hs2:(RV From.zero (·.from_) (a.ps.set i ({y with from_:=⟨y.from_.Base,y.from_.Late.drop d⟩}:Procs))).setIfInBounds i (⟨m.2.1+1,y.from_.Late.drop d⟩:From)=RV From.zero (·.from_) (a.ps.set i ({y with log:=y.log++[⟨m.1,m.2.2⟩],from_:=⟨m.2.1+1,y.from_.Late.drop d⟩}:Procs)):=by
      rw [RV.set (y:=({y with log:=y.log++[⟨m.1,m.2.2⟩],from_:=⟨m.2.1+1,y.from_.Late.drop d⟩}:Procs)) (by simpa using hil) rfl,List.set_set]
    rw [hs1,RV.get h6 (List.getElem?_set_self hil),Obs,Let_eq,w64_id (x:=m.2.1+1) (by omega) (by omega)]
    simp only
    rw [hs2,hLogs ⟨m.2.1+1,y.from_.Late.drop d⟩]
    exact congrArg some (hear ⟨m.2.1+1,y.from_.Late.drop d⟩)
theorem take_r {D B fu:Nat} {base:List Saying} {a:AW} {g:List (Int×Int)} {n:Note} (hfu:200 < fu) (h:OS D a) (hP:PV base a) (hG:GA B a) (hB:B≤2 ^ 34) (hn:GN n) (hk:n.Kind=2) (hv:n.View=a.view.Num) (hnv:NV a.view.Num a.ord n) (ha:act a n.To=true) (hs:n.Seq≤16777214) :
    partref_World_comes fu (a.r g) n=some ((takeM fu a n).ord.map (·.2.2),(takeM fu a n).ord.map (fun m=>(⟨m.1,m.2.1⟩:Mark)),(takeM fu a n).way,(takeM fu a n).r g):=by
  have hkn:knw a n.To=true:=by unfold act at ha; rw [Bool.and_eq_true,Bool.and_eq_true] at ha; exact ha.1.1
  obtain ⟨i,hi,hil⟩:=knw_iff.1 hkn
  have hx:a.ps[i]? = some a.ps[i]:=by simp [hil]
  generalize a.ps[i]=x at hx
  have h6:i < 6:=by have:=hG.n.2; omega
  have hp:=hG.ps x (mog hx)
  rw [hi] at ha
  have hsq:=hn.1.seq
  obtain ⟨N,o,ts,hN,et,ho,_,_,htl,hts⟩:=take_told hP hG hfu hn hk hv hnv hx ha hs
  obtain ⟨mn,hmn,htn⟩:=hnv.2 hk hv
  have hml:=enc3_len (hG.ord.2 mn (mog hmn))
  have hol:=hG.ord.1
  unfold partref_World_comes takeM
  have e1:((2:Int)==1)=false:=rfl
  have e2:((2:Int)==3)=false:=rfl
  rw [hk,hi,tnc,hx]
  simp only [e1,e2,beq_self_eq_true,ctt,cff]
  rw [show (a.r g).want=RV To.zero (·.to) a.ps from rfl,RV.get h6 hx,Obs,Obs]
  have ep:({Parcel.zero with Seq:=n.Seq,Text:=n.Text}:Parcel)=⟨n.Seq,n.Text⟩:=rfl
  dsimp only at ep
  rw [ep,parcel_r hfu hp.to.1 ⟨hsq.1,hs⟩ (by simp only; rw [htn]; omega),et,Obs,Let_eq,dff (show ¬ n.Seq > 16777214 by omega),cff]
  simp only [Obs,Let_eq]
  have hset:(RV To.zero (·.to) a.ps).setIfInBounds i (⟨o.Next,o.Early⟩:To)=RV To.zero (·.to) (a.ps.set i {x with to:=o}):=RV.set hil rfl
  have hw1:({a.r g with want:=RV To.zero (·.to) (a.ps.set i {x with to:=o})}:RWld)=({a with ps:=a.ps.set i {x with to:=o}}:AW).r g:=by
    unfold AW.r
    simp only [List.length_set]
    rw [RV.same (f:=(·.log)) (y:=({x with to:=o}:Procs)) hx rfl,RV.same (f:=(·.orders)) (y:=({x with to:=o}:Procs)) hx rfl,RV.same (f:=(·.from_)) (y:=({x with to:=o}:Procs)) hx rfl]
  dsimp only at hw1
  rw [hset,hw1]
  obtain ⟨l1,y,l2,_⟩:=rangeF_emb (body:=partref_World_comes_B7 (a.r g) n x.to) (fun b:AW=>b.r g) (fun b _ t=>hearM b (i:Int) t)
    (fun j b=>∃ y:Procs,b={a with ps:=a.ps.set i y}∧frE y.from_=frE x.from_∧GF y.from_∧y.log.length≤B+j) (l:=ts) (fun j t b hj hb=>by
      obtain ⟨y,rfl,b8,bf,bl⟩:=hb
      obtain ⟨m,m1,rfl,m3⟩:=hts j t hj
      have hjl:=(gsi hj).1
      have hNj:=(gsi m1).1
      refine ⟨hear_r (o:=o) hi hil h6 hN (by omega) m1 m3 (by omega) bf (fun q=>by rw [b8]; exact h.seq (mog m1) q hx),{y with log:=y.log++[⟨m.1,m.2.2⟩],from_:=bif m.1==(i:Int) then heardV y.from_ (m.2.1+1) else y.from_},?_,?_,?_,?_⟩
      · unfold hearM
        simp only
        rw [tnc,List.getElem?_set_self hil,prs_enc m3]
        simp only [List.set_set]
      · simp only
        cases (m.1==(i:Int)) with
        | true=>rw [ctt,(frE_heard ..).1]; exact b8
        | false=>exact b8
      · simp only
        cases (m.1==(i:Int)) with
        | true=>exact heardV_gf bf
        | false=>exact bf
      · simp only [List.length_append,List.length_cons,List.length_nil]; omega) ts.length 0 {a with ps:=a.ps.set i {x with to:=o}} (by omega) ⟨{x with to:=o},rfl,rfl,hp.gf,by have:=hp.log; simp only; omega⟩
  rw [List.drop_zero] at l1 l2
  generalize foldI (fun (b:AW) (_:Nat) t=>hearM b (i:Int) t) 0 ts {a with ps:=a.ps.set i {x with to:=o}}=d at l1 l2
  rw [l1,Obs,l2]
  rfl
theorem comes_r {D B fu:Nat} {base:List Saying} {a:AW} {g:List (Int×Int)} {n:Note} (hfu:200 < fu) (h:OS D a) (hP:PV base a) (hG:GA B a) (hB:B≤2 ^ 34) (hD:D≤2000000) (hm:Mb a) (hgo:GoneOk g a) (hn:GN n) (hv:n.View=a.view.Num) (hnv:NV a.view.Num a.ord n) (ha:act a n.To=true) (hkf:knw a n.From=true) (hlt:n.Kind=1→∀ x,a.ps[n.From.toNat]? = some x→n.Seq < frE x.from_) :
    partref_World_comes fu (a.r g) n=some ((delivM fu a n).ord.map (·.2.2),(delivM fu a n).ord.map (fun m=>(⟨m.1,m.2.1⟩:Mark)),(delivM fu a n).way,(delivM fu a n).r g):=by
  unfold delivM
  rw [hkf]
  simp only [Bool.not_true,cff]
  cases h1:n.Kind==1 with
  | true =>
    have h1':n.Kind=1:=by simpa using h1
    rw [ctt]
    obtain ⟨i,hi,hil⟩:=knw_iff.1 hkf
    have hx:a.ps[i]? = some a.ps[i]:=by simp [hil]
    have hl:=hlt h1' a.ps[i] (by rw [hi]; exact hx)
    have hb:=(hG.ps _ (mog hx)).base
    exact order_r hfu hG hB hm hgo hn h1' hkf (by unfold frE at hl; omega)
  | false =>
  cases h3:n.Kind==3 with
  | true=>exact ask_r (by omega) hG (by omega) hm hn (by simpa using h3)
  | false =>
  cases hk:n.Kind==2 with
  | true =>
    have hk':n.Kind=2:=by simpa using hk
    obtain ⟨mn,hmn,_⟩:=hnv.2 hk' hv
    have h4:=(gsi hmn).1
    have h5:=h.len hG
    exact take_r hfu h hP hG hB hn hk' hv hnv ha (by omega)
  | false =>
    unfold partref_World_comes
    rw [h1,h3,hk]
    rfl
theorem move_r {D B fu:Nat} {base:List Saying} {a:AW} {g:List (Int×Int)} (hfu:200 < fu) (h:OS D a) (hP:PV base a) (hG:GA B a) (hB:B≤2 ^ 34) (hD:D≤2000000) (hm:Mb a) (hgo:GoneOk g a) (k how:Int) :
    partref_World_Move fu (a.r g) k how=some ((moveM fu a k how).1.ord.map (·.2.2),(moveM fu a k how).1.ord.map (fun m=>(⟨m.1,m.2.1⟩:Mark)),(moveM fu a k how).1.r g,(moveM fu a k how).2):=by
  unfold partref_World_Move moveM
  have hw60:=hG.way.1
  rw [or_some,Obs,show (a.r g).WayNotes=a.way from rfl]
  have hh:(decide (how < 1)||decide (how > 3))=!(decide (how≥1)&&decide (how≤3)):=by
    rw [Bool.eq_iff_iff]; simp only [Bool.or_eq_true,decide_eq_true_eq,Bool.not_eq_true',Bool.and_eq_false_iff,decide_eq_false_iff_not]; omega
  rw [hh]
  cases hhw:(decide (how≥1)&&decide (how≤3)) with
  | false=>rfl
  | true =>
  have hkk:(decide (k < 0)||decide (k≥(a.way.length:Int)))=!(decide (k≥0)&&decide (k≤(a.way.length:Int) - 1)):=by
    rw [Bool.eq_iff_iff]; simp only [Bool.or_eq_true,decide_eq_true_eq,Bool.not_eq_true',Bool.and_eq_false_iff,decide_eq_false_iff_not]; omega
  rw [Bool.not_true,cff,cff,or_some,Obs,hkk]
  cases hkb:(decide (k≥0)&&decide (k≤(a.way.length:Int) - 1)) with
  | false=>rfl
  | true =>
  rw [Bool.and_eq_true,decide_eq_true_eq,decide_eq_true_eq] at hkb
  obtain ⟨i,rfl⟩:=int_nat hkb.1
  have hil:i < a.way.length:=by omega
  have e6:((a.way.length:Int)==60)=decide (a.way.length=60):=by rw [Bool.eq_iff_iff]; simp; omega
  rw [Bool.not_true,cff,cff,e6,and_some,Obs]
  cases h6:((how==3)&&decide (a.way.length=60)) with
  | true=>rfl
  | false =>
  have hx:a.way[i]? = some a.way[i]:=by simp [hil]
  generalize a.way[i]=n at hx
  have hmn:=mog hx
  rw [cff,cff,lat_nat,hx,Obs,tnc,hx]
  simp only
  cases h3:(how==3) with
  | true =>
    rw [ctt,ctt,room_ok (by simp; omega),Obs,Let_eq]
    rfl
  | false =>
    have c1:cutL a.way 0 (i:Int)=some (a.way.take i):=by
      unfold cutL; rw [if_pos (by omega)]; simp
    have c2:cutL a.way ((i+1:Nat):Int) (a.way.length:Int)=some (a.way.drop (i+1)):=by
      unfold cutL; rw [if_pos (by omega)]
      simp only [tnc]
      rw [List.take_of_length_le (by simp)]
    have hsub:∀ m∈a.way.take i++a.way.drop (i+1),m∈a.way:=fun m hm'=>by
      rcases List.mem_append.1 hm' with q | q
      · exact List.mem_of_mem_take q
      · exact List.mem_of_mem_drop q
    rw [cff,cff,c1,Obs,w64_id (show -9223372036854775808≤(i:Int)+1 by omega) (by omega),show (i:Int)+1=((i+1:Nat):Int) by rfl,c2,Obs,eq_slices_Concat_api_Note_api_Note (by simp; omega),Obs,Let_eq,and_some,Obs]
    obtain ⟨b,hb⟩:∃ b:AW,b={a with way:=a.way.take i++a.way.drop (i+1)}:=⟨_,rfl⟩
    have hbr:({a.r g with WayNotes:=a.way.take i++a.way.drop (i+1)}:RWld)=b.r g:=by rw [hb]; rfl
    dsimp only at hbr
    have hbw:b.way=a.way.take i++a.way.drop (i+1):=by rw [hb]
    have hbo:b.ord=a.ord:=by rw [hb]
    have hbv:b.view=a.view:=by rw [hb]
    have hGb:GA B b:=by rw [hb]; exact hG.lose i
    have hmb:Mb b:=by rw [hb]; exact hm
    have hgb:GoneOk g b:=by rw [hb]; exact hgo
    have hPb:PV base b:=by rw [hb]; exact hP.way_sub hsub
    have hOb:OS D b:=by rw [hb]; exact h.sub hsub
    have hact:act b n.To=act a n.To:=by rw [hb]; rfl
    have hkb2:∀ p,knw b p=knw a p:=fun p=>by rw [hb]; rfl
    have hpsb:b.ps=a.ps:=by rw [hb]
    rw [hbr,← hb,show (a.r g).V=a.view from rfl]
    have hto:∃ q:Nat,n.To=(q:Int):=int_nat (hG.way.2 n hmn).1.to.1
    obtain ⟨q,hq⟩:=hto
    rw [hq] at hact
    cases hc:((how==1)&&(n.View==a.view.Num)) with
    | false =>
      rw [Bool.false_and]
      simp only [cff,Obs]
      rw [← hbw]
      exact congrArg some (Prod.ext (by rw [hbo]; rfl) (Prod.ext (by rw [hbo]; rfl) (Prod.ext (r_same (g:=g) hbo) rfl)))
    | true =>
      rw [Bool.and_eq_true] at hc
      have hv:n.View=b.view.Num:=by rw [hbv]; simpa using hc.2
      simp only [ctt,Bool.true_and]
      rw [hq,here_r hmb hgb,Obs,Obs,hact]
      cases hca:act a (q:Int) with
      | false =>
        simp only [cff,Obs]
        rw [← hbw]
        exact congrArg some (Prod.ext (by rw [hbo]; rfl) (Prod.ext (by rw [hbo]; rfl) (Prod.ext (r_same (g:=g) hbo) rfl)))
      | true =>
        have hfm:=h.frm n hmn
        have hcr:=comes_r (g:=g) (n:=n) hfu hOb hPb hGb hB hD hmb hgb (hG.way.2 n hmn) hv (by have:=hP.way n hmn; rw [hbv,hbo]; exact this) (by rw [hq,hact]; exact hca) (by rw [hkb2]; exact hfm) (fun h1 x hxx=>h.note n hmn h1 (by rw [← hbv]; exact hv) x (by rw [← hpsb]; exact hxx))
        simp only [ctt]
        rw [hcr,Obs]
        rfl
end Go.Proofs.YtchmclllcdknjaaGreatDoor
namespace Go.Proofs.YtchmclllcdknjaaGreatDoor
open Enc
theorem change_shape (L:List Saying) (a:AW):(foldI (fun b i (_:Procs)=>chgOne L b i) 0 a.ps a).view=a.view∧(foldI (fun b i (_:Procs)=>chgOne L b i) 0 a.ps a).way=a.way∧(foldI (fun b i (_:Procs)=>chgOne L b i) 0 a.ps a).ps.length=a.ps.length ∧
    ∀ (k:Nat) x,a.ps[k]? = some x→(foldI (fun b i (_:Procs)=>chgOne L b i) 0 a.ps a).ps[k]? = some (bif act a (k:Int) then freshM L k x else {x with orders:=⟨0,[]⟩}):=by
  have fin:=foldI_at (f:=fun (b:AW) i (_:Procs)=>chgOne L b i) (fun j b=>b.view=a.view∧b.way=a.way∧b.ps.length=a.ps.length∧(∀ k:Nat,j≤k→b.ps[k]? = a.ps[k]?)∧∀ (k:Nat) x,k < j→a.ps[k]? = some x→b.ps[k]? = some (bif act a (k:Int) then freshM L k x else {x with orders:=⟨0,[]⟩})) (l:=a.ps) (fun i x b hx hb=>by
    obtain ⟨b1,b2,b3,b4,b5⟩:=hb
    have hx':b.ps[i]? = some x:=by rw [b4 i (Nat.le_refl _)]; exact hx
    have hil:=(gsi hx').1
    have hact:act b (i:Int)=act a (i:Int):=act_same b1 b3 (b4 i (Nat.le_refl _))
    have one:chgOne L b i={b with ps:=b.ps.set i (bif act a (i:Int) then freshM L i x else {x with orders:=⟨0,[]⟩})}:=by unfold chgOne; rw [hx',hact]
    rw [one]
    refine ⟨b1,b2,by simp [b3],fun k hk=>?_,fun k y hk hy=>?_⟩
    · show (b.ps.set i _)[k]? = _
      rw [List.getElem?_set_ne (by omega)]; exact b4 k (by omega)
    · show (b.ps.set i _)[k]? = _
      by_cases c:k=i
      · subst c
        rw [hx] at hy
        rw [← Option.some.inj hy,List.getElem?_set_self hil]
      · rw [List.getElem?_set_ne (fun e=>c e.symm)]; exact b5 k y (by omega) hy) a.ps.length 0 a (by omega) ⟨rfl,rfl,rfl,fun k _=>rfl,fun k x hk=>by omega⟩
  rw [List.drop_zero] at fin
  exact ⟨fin.1,fin.2.1,fin.2.2.1,fun k x hx=>fin.2.2.2.2 k x (gsi hx).1 hx⟩
theorem OS.change {D B:Nat} {base:List Saying} {a:AW} (h:OS D a) (hP:PV base a) (hG:GA B a):OS D (changeM a).1:=by
  obtain ⟨n1,n2⟩:=next_law a.view (glM a).1 hG.num
  unfold changeM
  generalize glM a=z at n1 n2
  obtain ⟨g,L⟩:=z
  simp only at n1 n2 ⊢
  cases hn:((nextV a.view g).2 != 0) with
  | true=>exact h
  | false =>
    have hn0:(nextV a.view g).2=0:=by simpa using hn
    obtain ⟨m1,m2,m3⟩:=n2 hn0
    rw [cff]
    obtain ⟨b1,b2,b3,b5⟩:=change_shape L a
    generalize foldI (fun (b:AW) i (_:Procs)=>chgOne L b i) 0 a.ps a=d at b1 b2 b3 b5
    have hkn:∀ p,knw ({d with view:=(nextV a.view g).1,ord:=[]}:AW) p=knw a p:=fun p=>knw_len b3 p
    have get:∀ (i:Nat) y,d.ps[i]? = some y→∃ x,a.ps[i]? = some x∧y=(bif act a (i:Int) then freshM L i x else {x with orders:=⟨0,[]⟩}):=fun i y hy=>by
      have hil:i < a.ps.length:=by rw [← b3]; exact (gsi hy).1
      have hx:a.ps[i]? = some a.ps[i]:=by simp [hil]
      have:=b5 i _ hx
      rw [hy] at this
      exact ⟨_,hx,Option.some.inj this⟩
    have hfr:∀ (i:Nat) y,d.ps[i]? = some y→0≤frE y.from_∧frE y.from_≤D∧y.orders=⟨0,[]⟩:=fun i y hy=>by
      obtain ⟨x,hx,e⟩:=get i y hy
      have hp:=(hG.ps x (mog hx)).base
      have hc:=h.cap x (mog hx)
      rw [e]
      cases act a (i:Int) with
      | true =>
        rw [ctt]
        refine ⟨?_,?_,rfl⟩
        · unfold freshM frE at *
          simp only [List.length_drop]; omega
        · unfold freshM frE at *
          simp only [List.length_drop]; omega
      | false =>
        rw [cff]
        unfold frE at *
        exact ⟨by simp only; omega,hc,rfl⟩
    refine ⟨fun n hn'=>?_,fun y hy=>?_,fun i y hy=>?_,fun n hn' _ hv=>?_,fun i y hy=>?_,fun m hm=>?_,fun i y hy ha=>?_⟩
    · rw [hkn]
      exact h.frm n (by rw [← b2]; exact hn')
    · obtain ⟨i,hi⟩:=List.getElem?_of_mem hy
      exact (hfr i y hi).2.1
    · obtain ⟨q1,_,q3⟩:=hfr i y hy
      rw [q3]
      exact ⟨q1,fun p hp=>by cases hp⟩
    · have hle:=(hP.way n (by rw [← b2]; exact hn')).1
      have hv':n.View=(nextV a.view g).1.Num:=hv
      omega
    · obtain ⟨_,_,q3⟩:=hfr i y hy
      rw [q3]; rfl
    · cases hm
    · obtain ⟨x,hx,e⟩:=get i y hy
      rw [act_get hy,Bool.and_eq_true] at ha
      have hin:isIn a.view.Members i=true:=by
        have:isIn (nextV a.view g).1.Members i=true:=ha.1
        rw [m3] at this
        exact isIn_sub this
      cases hax:act a (i:Int) with
      | false =>
        rw [hax,cff] at e
        rw [act_get hx,hin,Bool.true_and] at hax
        have:=ha.2
        rw [e] at this
        simp only at this
        rw [this] at hax; cases hax
      | true =>
        rw [hax,ctt] at e
        rw [e]
        exact Int.natCast_nonneg _
theorem Mb.change {B:Nat} {a:AW} (h:Mb a) (hG:GA B a):Mb (changeM a).1:=by
  obtain ⟨n1,n2⟩:=next_law a.view (glM a).1 hG.num
  unfold changeM
  generalize glM a=z at n1 n2
  obtain ⟨g,L⟩:=z
  simp only at n1 n2 ⊢
  cases hn:((nextV a.view g).2 != 0) with
  | true=>exact h
  | false =>
    have hn0:(nextV a.view g).2=0:=by simpa using hn
    obtain ⟨m1,m2,m3⟩:=n2 hn0
    rw [cff]
    obtain ⟨b1,b2,b3,b5⟩:=change_shape L a
    unfold Mb at *
    simp only
    rw [m3,b3,BitVec.toNat_and]
    have:=Nat.and_le_left (n:=a.view.Members.toNat) (m:=(~~~g).toNat)
    omega
theorem GoneOk.change {g:List (Int×Int)} {a:AW} (h:GoneOk g a):GoneOk g (changeM a).1:=by
  unfold changeM
  cases hn:((nextV a.view (glM a).1).2 != 0) with
  | true=>exact h
  | false =>
    rw [cff]
    obtain ⟨b1,b2,b3,b5⟩:=change_shape (glM a).2 a
    intro i y hy
    have hil:i < a.ps.length:=by rw [← b3]; exact (gsi hy).1
    have hx:a.ps[i]? = some a.ps[i]:=by simp [hil]
    have:=b5 i _ hx
    have hy':(foldI (fun b i (_:Procs)=>chgOne (glM a).2 b i) 0 a.ps a).ps[i]? = some y:=hy
    rw [hy'] at this
    rw [Option.some.inj this]
    have hh:=h i _ hx
    cases act a (i:Int)
    · exact hh
    · exact hh
theorem cntM_cons (i:Nat) (s:Saying) (l:List Saying):cntM i (s::l)=(bif s.From==(i:Int) then 1 else 0)+cntM i l:=rfl
theorem cnt_own (i:Nat):∀ l:List (Int×Int×Str),cntM i (readL l)=(own i l).length
  | []=>rfl
  | m::l=>by
    have ih:=cnt_own i l
    rw [show m::l=[m]++l from rfl,own_app,own_one,List.length_append,← ih]
    show cntM i ((⟨m.1,m.2.2⟩:Saying)::readL l)=_
    rw [cntM_cons]
    by_cases c:m.1=(i:Int)
    · rw [if_pos c,show ((⟨m.1,m.2.2⟩:Saying).From==(i:Int))=true by simpa using c]; rfl
    · rw [if_neg c,show ((⟨m.1,m.2.2⟩:Saying).From==(i:Int))=false by simpa using c]; rfl
theorem late_ok {D B:Nat} {base:List Saying} {a:AW} (h:OS D a) (hP:PV base a) (hG:GA B a) {i j:Nat} {x y:Procs} (hx:a.ps[i]? = some x) (ha:act a (i:Int)=true) (hy:a.ps[j]? = some y) (hb:act a (j:Int)=true) (hle:x.log.length≤y.log.length) :
    cntM i (y.log.drop x.log.length)≤x.from_.Late.length:=by
  obtain ⟨x1,x2,_⟩:=hP.log i x hx ha
  obtain ⟨y1,y2,_⟩:=hP.log j y hy hb
  have hb0:=h.base i x hx ha
  have hl:=(h.lim i x hx).1
  have hsq:=h.seqs i x hx
  have hlo:=(hG.ps x (mog hx)).ords.1.lo
  have hbp:=(hG.ps x (mog hx)).base
  have rl:∀ l,(readL l).length=l.length:=fun l=>by unfold readL; simp
  have lx:x.log.length=base.length+x.to.Next.toNat:=by
    rw [x2,List.length_append,rl,List.length_take]; omega
  have ly:y.log.length=base.length+y.to.Next.toNat:=by
    rw [y2,List.length_append,rl,List.length_take]; omega
  have hd:y.log.drop x.log.length=readL ((a.ord.take y.to.Next.toNat).drop x.to.Next.toNat):=by
    rw [lx,y2,List.drop_append,List.drop_of_length_le (by omega)]
    unfold readL
    rw [List.nil_append,List.map_drop,show base.length+x.to.Next.toNat - base.length=x.to.Next.toNat by omega]
  rw [hd,cnt_own,List.drop_take]
  have e1:own i a.ord=own i (a.ord.take x.to.Next.toNat)++own i (a.ord.drop x.to.Next.toNat):=by rw [← own_app,List.take_append_drop]
  have e2:own i (a.ord.drop x.to.Next.toNat)=own i ((a.ord.drop x.to.Next.toNat).take (y.to.Next.toNat - x.to.Next.toNat))++own i ((a.ord.drop x.to.Next.toNat).drop (y.to.Next.toNat - x.to.Next.toNat)):=by rw [← own_app,List.take_append_drop]
  have l1:=congrArg List.length e1
  have l2:=congrArg List.length e2
  rw [hsq,List.length_append] at l1
  rw [List.length_append] at l2
  have l3:(irng x.orders.Next).length=x.orders.Next.toNat:=by unfold irng; simp
  unfold frE at hl
  omega
theorem minus_and (m x:BitVec 8):m - (m &&& x)=m &&& ~~~(m &&& x):=by
  have h0:(m &&& ~~~(m &&& x)) &&& (m &&& x)=0:=by
    apply BitVec.eq_of_getLsbD_eq
    intro i hi
    simp only [BitVec.getLsbD_and,BitVec.getLsbD_not,hi,decide_true,Bool.true_and]
    cases m.getLsbD i <;> cases x.getLsbD i <;> simp
  have h1:(m &&& ~~~(m &&& x)) ||| (m &&& x)=m:=by
    apply BitVec.eq_of_getLsbD_eq
    intro i hi
    simp only [BitVec.getLsbD_or,BitVec.getLsbD_and,BitVec.getLsbD_not,hi,decide_true,Bool.true_and]
    cases m.getLsbD i <;> cases x.getLsbD i <;> simp
  have h2:(m &&& ~~~(m &&& x))+(m &&& x)=m:=by rw [BitVec.add_eq_or_of_and_eq_zero _ _ h0,h1]
  generalize m &&& ~~~(m &&& x)=p at h2
  generalize m &&& x=q at h2
  rw [← h2]
  exact BitVec.add_sub_cancel p q
theorem and_self_not (m y:BitVec 8):(m &&& ~~~y) &&& m=m &&& ~~~y:=by
  apply BitVec.eq_of_getLsbD_eq
  intro i hi
  simp only [BitVec.getLsbD_and,BitVec.getLsbD_not,hi,decide_true,Bool.true_and]
  cases m.getLsbD i <;> cases y.getLsbD i <;> simp
theorem next_r {v:View} {x:BitVec 8} {fu:Nat} (hfu:2 ^ 16 < fu) (hn:0≤v.Num∧v.Num≤16777215) (hm:v.Members.toNat < 64) (hx:x.toNat < 64):partref_NextView fu v x 0=some (nextV v (v.Members &&& x)):=by
  rw [← (next_law v (v.Members &&& x) hn).1]
  have h6:∀ y:BitVec 8,y.toNat < 64→(((y >>> 6).toNat:Int) != ((0:BitVec 8).toNat:Int))=false:=fun y hy=>by
    have:(y >>> 6).toNat=0:=by rw [BitVec.toNat_ushiftRight,Nat.shiftRight_eq_div_pow]; omega
    rw [this]; rfl
  have hy:(v.Members &&& x).toNat < 64:=by
    rw [BitVec.toNat_and]
    have:=Nat.and_le_left (n:=v.Members.toNat) (m:=x.toNat)
    omega
  have z0:((0:BitVec 8).toNat:Int)=0:=rfl
  have z1:((1:BitVec 8).toNat:Int)=1:=rfl
  have z63:((63:BitVec 8).toNat:Int)=63:=rfl
  have o0:∀ y:BitVec 8,y ||| 0=y:=fun y=>by simp
  have a0:∀ y:BitVec 8,y &&& 0=0:=fun y=>by simp
  unfold partref_NextView view_Next partref_ViewErr view_Check view_outside view_half
  simp only [o0,a0,h6 _ hm,h6 _ hy]
  rw [size8 hfu,size8 hfu,count8,count8,and_self_not,minus_and]
  simp only [or_some,Obs,z0,z1,z63]
  rw [dff (show ¬ v.Num < 0 by omega),dff (show ¬ v.Num > 16777215 by omega),dff (show ¬ (v.Members.toNat:Int) > 63 by omega),dff (show ¬ (x.toNat:Int) > 63 by omega)]
  have hz:decide ((v.Members.toNat:Int) < 1)=((v.Members.toNat:Int)==0):=by
    rw [Bool.eq_iff_iff,decide_eq_true_eq,beq_iff_eq]; omega
  rw [hz]
  simp only [Bool.or_false,Bool.false_or]
  cases ((v.Members.toNat:Int)==0) with
  | true=>rfl
  | false =>
    simp only [bne_self_eq_false,cff]
    have e0:¬ ((0:Int) > 63):=by omega
    have e1:¬ ((0:Int) > 0):=by omega
    simp only [e0,e1,decide_false,Bool.or_self,cff]
    cases v.Num==16777215 with
    | true=>rfl
    | false =>
      rw [cff,cff]
      cases decide (w64 (2 * (one8 (v.Members &&& ~~~(v.Members &&& x)):Int)) > (one8 v.Members:Int)) <;> rfl
def glR (a:AW):BitVec 8×List Saying :=
  foldI (fun (z:BitVec 8×List Saying) i (x:Procs)=>bif act a (i:Int) then (bif decide (x.log.length > z.2.length) then (z.1,x.log) else z) else (z.1 ||| ((1:BitVec 8) <<< i),z.2)) 0 a.ps ((0:BitVec 8),([]:List Saying))
theorem and_or_one (m z y:BitVec 8):m &&& (z ||| y)=(m &&& z) ||| (m &&& y):=by
  apply BitVec.eq_of_getLsbD_eq
  intro i hi
  simp only [BitVec.getLsbD_and,BitVec.getLsbD_or]
  cases m.getLsbD i <;> cases z.getLsbD i <;> cases y.getLsbD i <;> simp
theorem glR_gl (a:AW):∀ (l:List Procs) (i:Nat) (z w:BitVec 8×List Saying),w.1=a.view.Members &&& z.1→w.2=z.2 →
    (foldI (fun (z:BitVec 8×List Saying) i (x:Procs)=>bif act a (i:Int) then (bif decide (x.log.length > z.2.length) then (z.1,x.log) else z) else (z.1 ||| (a.view.Members &&& ((1:BitVec 8) <<< i)),z.2)) i l w).1=a.view.Members &&& (foldI (fun (z:BitVec 8×List Saying) i (x:Procs)=>bif act a (i:Int) then (bif decide (x.log.length > z.2.length) then (z.1,x.log) else z) else (z.1 ||| ((1:BitVec 8) <<< i),z.2)) i l z).1 ∧
    (foldI (fun (z:BitVec 8×List Saying) i (x:Procs)=>bif act a (i:Int) then (bif decide (x.log.length > z.2.length) then (z.1,x.log) else z) else (z.1 ||| (a.view.Members &&& ((1:BitVec 8) <<< i)),z.2)) i l w).2=(foldI (fun (z:BitVec 8×List Saying) i (x:Procs)=>bif act a (i:Int) then (bif decide (x.log.length > z.2.length) then (z.1,x.log) else z) else (z.1 ||| ((1:BitVec 8) <<< i),z.2)) i l z).2
  | [],_,_,_,h1,h2=>⟨h1,h2⟩
  | x::l,i,z,w,h1,h2=>by
    refine glR_gl a l (i+1) _ _ ?_ ?_
    · dsimp only
      cases act a (i:Int) with
      | true =>
        rw [ctt,ctt,h2]
        cases decide (x.log.length > z.2.length) <;> exact h1
      | false =>
        show w.1 ||| _=a.view.Members &&& (z.1 ||| _)
        rw [and_or_one,h1]
    · dsimp only
      cases act a (i:Int) with
      | true =>
        rw [ctt,ctt,h2]
        cases decide (x.log.length > z.2.length) <;> simp [h2]
      | false=>exact h2
theorem glR_lt (a:AW) (hn:a.ps.length≤6):(glR a).1.toNat < 64:=by
  unfold glR
  have:=foldI_at (f:=fun (z:BitVec 8×List Saying) i (x:Procs)=>bif act a (i:Int) then (bif decide (x.log.length > z.2.length) then (z.1,x.log) else z) else (z.1 ||| ((1:BitVec 8) <<< i),z.2)) (fun _ z=>z.1.toNat < 64) (l:=a.ps) (fun i x z hx hz=>by
    have hi:i < 6:=by have:=(gsi hx).1; omega
    cases act a (i:Int) with
    | true =>
      rw [ctt]
      cases decide (x.log.length > z.2.length) <;> exact hz
    | false =>
      show (z.1 ||| ((1:BitVec 8) <<< i)).toNat < 64
      have h1:((1:BitVec 8) <<< i).toNat < 2 ^ 6:=by
        have:∀ i:Fin 6,((1:BitVec 8) <<< i.val).toNat < 2 ^ 6:=by decide
        exact this ⟨i,hi⟩
      rw [BitVec.toNat_or]
      exact Nat.or_lt_two_pow hz h1) a.ps.length 0 ((0:BitVec 8),([]:List Saying)) (by omega) (by decide)
  rwa [List.drop_zero] at this
theorem late_loop (i:Nat):∀ (l:List Saying) (k j:Nat) (z:List Str),j+k=l.length→cntM i (l.drop j)≤z.length→rangeF (partref_World_Change_B4 i l) k j z=some (z.drop (cntM i (l.drop j)))
  | l,0,j,z,hk,_=>by
    have e:l.drop j=[]:=List.drop_of_length_le (by omega)
    rw [e]; rfl
  | l,k+1,j,z,hk,hz=>by
    have hj:j < l.length:=by omega
    have hx:l[j]? = some l[j]:=by simp [hj]
    rw [List.drop_eq_getElem_cons hj] at hz ⊢
    generalize l[j]=s at hx hz
    unfold rangeF partref_World_Change_B4
    rw [lat_nat,hx,Obs]
    rw [cntM_cons] at hz ⊢
    cases hs:(s.From==(i:Int)) with
    | true =>
      rw [hs,ctt] at hz
      have hc:cutL z 1 (z.length:Int)=some (z.drop 1):=by
        unfold cutL; rw [if_pos (by omega)]
        rw [List.take_of_length_le (by simp)]; rfl
      rw [ctt,ctt,hc,Obs,Obs]
      have:=late_loop i l k (j+1) (z.drop 1) (by omega) (by rw [List.length_drop]; omega)
      unfold partref_World_Change_B4 at this
      rw [this,List.drop_drop]
    | false =>
      rw [hs,cff] at hz
      rw [cff,cff,Obs,Nat.zero_add]
      have:=late_loop i l k (j+1) z (by omega) (by omega)
      unfold partref_World_Change_B4 at this
      exact this
theorem change_r {D B fu:Nat} {base:List Saying} {a:AW} {g:List (Int×Int)} (hfu:2 ^ 16 < fu) (h:OS D a) (hP:PV base a) (hG:GA B a) (hB:B≤2 ^ 34) (hm:Mb a) (hgo:GoneOk g a) :
    partref_World_Change fu (a.r g)=some ((changeM a).1.r g,(changeM a).2):=by
  have hn:=hG.n
  have hup:upTo (a.r g).n=some a.ps.length:=by rw [show (a.r g).n=(a.ps.length:Int) from rfl,upTo_ok (by omega),tnc]
  obtain ⟨l1,_⟩:=rangeF_emb (body:=partref_World_Change_B0 (a.r g)) (fun z:BitVec 8×List Saying=>z) (fun (z:BitVec 8×List Saying) i (x:Procs)=>bif act a (i:Int) then (bif decide (x.log.length > z.2.length) then (z.1,x.log) else z) else (z.1 ||| ((1:BitVec 8) <<< i),z.2)) (fun _ _=>True) (l:=a.ps) (fun i x z hx _=>by
    have h6:i < 6:=by have:=(gsi hx).1; omega
    refine ⟨?_,trivial⟩
    unfold partref_World_Change_B0
    rw [here_r hm hgo,Obs]
    cases act a (i:Int) with
    | false =>
      rw [Bool.not_false,ctt,cnt_nat,Obs]; rfl
    | true =>
      rw [Bool.not_true,cff,ctt,show (a.r g).Logs=RV [] (·.log) a.ps from rfl,RV.get h6 hx,Obs,Obs]
      by_cases c:x.log.length > z.2.length
      · rw [dtt c,dtt (show (x.log.length:Int) > (z.2.length:Int) by omega)]; rfl
      · rw [dff c,dff (show ¬ (x.log.length:Int) > (z.2.length:Int) by omega)]; rfl) a.ps.length 0 ((0:BitVec 8),([]:List Saying)) (by omega) trivial
  rw [List.drop_zero] at l1
  have l1':rangeF (partref_World_Change_B0 (a.r g)) a.ps.length 0 ((0:BitVec 8),([]:List Saying))=some (glR a):=l1
  obtain ⟨r1,r2⟩:=glR_gl a a.ps 0 ((0:BitVec 8),([]:List Saying)) ((0:BitVec 8),([]:List Saying)) (by simp) rfl
  have r1':(glM a).1=a.view.Members &&& (glR a).1:=r1
  have r2':(glM a).2=(glR a).2:=r2
  obtain ⟨_,g2,g3⟩:=gl_law hG
  have hlt:=glR_lt a hn.2
  unfold partref_World_Change changeM
  rw [hup,Obs,l1',Obs]
  simp only
  rw [show (a.r g).V=a.view from rfl,next_r hfu hG.num (hm.lt hG) hlt,Obs,← r1',← r2']
  cases hq:((nextV a.view (glM a).1).2 != 0) with
  | true=>rfl
  | false =>
    rw [cff,cff,Obs]
    have hlate:∀ (i:Nat) x,a.ps[i]? = some x→act a (i:Int)=true→cntM i ((glM a).2.drop x.log.length)≤x.from_.Late.length:=fun i x hx hax=>by
      have hle:=g2 i x hx hax
      rcases g3 with q | ⟨j,y,hy,hay,q⟩
      · rw [q]; simp [cntM]
      · rw [q] at hle ⊢
        exact late_ok h hP hG hx hax hy hay hle
    have hg2:=g2
    have hLB:(glM a).2.length≤B:=by
      rcases g3 with q | ⟨j,x,hx,_,q⟩
      · rw [q]; exact Nat.zero_le _
      · rw [q]; exact (hG.ps x (mog hx)).log
    generalize (glM a).2=L at hlate hg2 hLB
    obtain ⟨l2,l3,l4,l5⟩:=rangeF_emb (body:=partref_World_Change_B2 (a.r g) L) (fun b:AW=>(⟨a.ps.length,a.view,g,RV [] (·.log) b.ps,RV To.zero (·.to) b.ps,RV From.zero (·.from_) b.ps,RV To.zero (·.orders) a.ps,a.ord.map (·.2.2),a.ord.map (fun m=>(⟨m.1,m.2.1⟩:Mark)),a.way⟩:RWld)) (fun b i (_:Procs)=>chgOne L b i) (fun i b=>b.view=a.view∧b.ps.length=a.ps.length∧∀ j:Nat,i≤j→b.ps[j]? = a.ps[j]?) (l:=a.ps) (fun i x b hx hb=>by
      obtain ⟨b1,b2,b3⟩:=hb
      have h6:i < 6:=by have:=(gsi hx).1; omega
      have hx':b.ps[i]? = some x:=by rw [b3 i (Nat.le_refl _)]; exact hx
      have hil:=(gsi hx').1
      have hact:act b (i:Int)=act a (i:Int):=act_same b1 b2 (b3 i (Nat.le_refl _))
      have one:chgOne L b i={b with ps:=b.ps.set i (bif act a (i:Int) then freshM L i x else {x with orders:=⟨0,[]⟩})}:=by unfold chgOne; rw [hx',hact]
      have hrest:(chgOne L b i).view=a.view∧(chgOne L b i).ps.length=a.ps.length∧∀ j:Nat,i+1≤j→(chgOne L b i).ps[j]? = a.ps[j]?:=by
        rw [one]
        exact ⟨b1,by simp only [List.length_set]; exact b2,fun j hj=>by show (b.ps.set i _)[j]? = _; rw [List.getElem?_set_ne (by omega)]; exact b3 j (by omega)⟩
      refine ⟨?_,hrest⟩
      rw [one]
      have hhere:partref_World_Here (⟨a.ps.length,a.view,g,RV [] (·.log) b.ps,RV To.zero (·.to) b.ps,RV From.zero (·.from_) b.ps,RV To.zero (·.orders) a.ps,a.ord.map (·.2.2),a.ord.map (fun m=>(⟨m.1,m.2.1⟩:Mark)),a.way⟩:RWld) (i:Int)=some (act a (i:Int)):=by
        have:=here_r (a:=a) hm hgo i
        unfold partref_World_Here at this ⊢
        exact this
      have hLl:=hg2 i x hx
      have hll:=(hG.ps x (mog hx)).log
      have hlt2:=(hG.ps x (mog hx)).late
      unfold partref_World_Change_B2
      simp only
      rw [show (a.r g).gone=g from rfl,show (a.r g).order=a.ord.map (·.2.2) from rfl,show (a.r g).marks=a.ord.map (fun m=>(⟨m.1,m.2.1⟩:Mark)) from rfl,show (a.r g).WayNotes=a.way from rfl,hhere,Obs]
      cases hax:act a (i:Int) with
      | false =>
        rw [Bool.not_false,ctt,cff]
        have q1:=RV.same (f:=(·.log)) (d:=[]) (y:=({x with orders:=⟨0,[]⟩}:Procs)) hx' rfl
        have q2:=RV.same (f:=(·.to)) (d:=To.zero) (y:=({x with orders:=⟨0,[]⟩}:Procs)) hx' rfl
        have q3:=RV.same (f:=(·.from_)) (d:=From.zero) (y:=({x with orders:=⟨0,[]⟩}:Procs)) hx' rfl
        rw [q1,q2,q3]
      | true =>
        have hLl:=hLl hax
        have hlc:=hlate i x hx hax
        have ec:cutL L (x.log.length:Int) (L.length:Int)=some (L.drop x.log.length):=by
          unfold cutL; rw [if_pos (by omega)]
          simp only [tnc]
          rw [List.take_of_length_le (by simp)]
        have hlp:=late_loop i (L.drop x.log.length) (L.drop x.log.length).length 0 x.from_.Late (by omega) (by rw [List.drop_zero]; exact hlc)
        rw [List.drop_zero] at hlp
        rw [Bool.not_true,cff,ctt,RV.get h6 hx',Obs,RV.get h6 hx',Obs,ec,Obs,hlp,Obs,Obs,Let_eq,Obs,Let_eq,Let_eq,RV.get h6 hx',Obs,Let_eq,tnc]
        have emin:min (cntM i (L.drop x.log.length)) x.from_.Late.length=cntM i (L.drop x.log.length):=Nat.min_eq_left hlc
        have s1:(RV [] (·.log) b.ps).setIfInBounds i L=RV [] (·.log) (b.ps.set i (freshM L i x)):=RV.set hil rfl
        have s2:(RV From.zero (·.from_) b.ps).setIfInBounds i (⟨0,x.from_.Late.drop (cntM i (L.drop x.log.length))⟩:From)=RV From.zero (·.from_) (b.ps.set i (freshM L i x)):=RV.set hil (by unfold freshM; rw [emin])
        have s3:(RV To.zero (·.to) b.ps).setIfInBounds i To.zero=RV To.zero (·.to) (b.ps.set i (freshM L i x)):=RV.set hil rfl
        have ez:({From.zero with Late:=x.from_.Late.drop (cntM i (L.drop x.log.length))}:From)=⟨0,x.from_.Late.drop (cntM i (L.drop x.log.length))⟩:=rfl
        dsimp only at ez
        rw [s1,ez,s2,s3]) a.ps.length 0 a (by omega) ⟨rfl,rfl,fun j _=>rfl⟩
    rw [List.drop_zero] at l2 l3 l4 l5
    obtain ⟨c1,c2,c3,c5⟩:=change_shape L a
    generalize foldI (fun (b:AW) i (_:Procs)=>chgOne L b i) 0 a.ps a=d at l2 l3 l4 l5 c1 c2 c3 c5
    have l2':rangeF (partref_World_Change_B2 (a.r g) L) a.ps.length 0 (a.r g)=some (⟨a.ps.length,a.view,g,RV [] (·.log) d.ps,RV To.zero (·.to) d.ps,RV From.zero (·.from_) d.ps,RV To.zero (·.orders) a.ps,a.ord.map (·.2.2),a.ord.map (fun m=>(⟨m.1,m.2.1⟩:Mark)),a.way⟩:RWld):=l2
    rw [l2',Obs]
    refine congrArg some (Prod.ext ?_ rfl)
    have hrep:(Vector.replicate 6 To.zero:Vector To 6)=RV To.zero (·.orders) d.ps:=by
      apply Vector.ext
      intro j hj
      simp only [RV,Vector.getElem_replicate,Vector.getElem_ofFn]
      cases hd:d.ps[j]? with
      | none=>rfl
      | some y =>
        have hjl:j < a.ps.length:=by rw [← c3]; exact (gsi hd).1
        have hx:a.ps[j]? = some a.ps[j]:=by simp [hjl]
        have:=c5 j _ hx
        rw [hd] at this
        rw [Option.some.inj this]
        cases act a (j:Int) <;> rfl
    unfold AW.r
    simp only
    rw [hrep,c2,c3]
    rfl
theorem foldI_view {α:Type} {f:AW→Nat→α→AW} (h:∀ b j x,(f b j x).view=b.view):∀ (l:List α) (i:Nat) (b:AW),(foldI f i l b).view=b.view
  | [],_,_=>rfl
  | x::l,i,b=>(foldI_view h l (i+1) _).trans (h b i x)
theorem ask_view (s f:Int):∀ (k i:Nat) (b:AW),(askGo s f k i b).view=b.view
  | 0,_,_=>rfl
  | k+1,i,b=>by
    unfold askGo
    cases b.ord[i]? with
    | none=>rfl
    | some m=>exact (ask_view s f k (i+1) _).trans (sendM_view ..)
theorem deliv_view (fu:Nat) (a:AW) (n:Note):(delivM fu a n).view=a.view:=by
  unfold delivM
  cases (!knw a n.From) with
  | true=>rfl
  | false =>
  cases n.Kind==1 with
  | true =>
    simp only [ctt,cff]
    unfold orderM
    cases a.ps[n.From.toNat]? with
    | none=>rfl
    | some x =>
      simp only
      cases decide (n.Seq > 16777214) with
      | true=>rfl
      | false=>rw [cff,foldI_view fun b j t=>by rw [(ordOne_like ..).view]]
  | false =>
  cases n.Kind==3 with
  | true=>exact ask_view ..
  | false =>
  cases n.Kind==2 with
  | true =>
    simp only [ctt,cff]
    unfold takeM
    cases a.ps[n.To.toNat]? with
    | none=>rfl
    | some x =>
      simp only
      cases decide (n.Seq > 16777214) with
      | true=>rfl
      | false =>
        rw [cff,foldI_view fun b j t=>by unfold hearM; cases b.ps[n.To.toNat]? <;> rfl]
  | false=>rfl
theorem do_r {D B fu:Nat} {base:List Saying} {a:AW} {g:List (Int×Int)} (hfu:2 ^ 16 < fu) (h:OS D a) (hP:PV base a) (hG:GA B a) (hB:B≤2 ^ 34) (hD:D≤2000000) (hm:Mb a) (hgo:GoneOk g a) (d:Deed) :
    ∃ g',partref_World_Do fu (a.r g) d=some (g',(doM fu a d).1.r g',(doM fu a d).2)∧GoneOk g' (doM fu a d).1∧Mb (doM fu a d).1∧OS (D+1) (doM fu a d).1:=by
  have hfu2:200 < fu:=by omega
  have hfu3:20≤fu:=by omega
  have hln:=len_do fu a d
  unfold partref_World_Do
  unfold doM at hln ⊢
  cases k1:d.Kind==1 with
  | true =>
    rw [k1] at hln
    simp only [ctt] at hln ⊢
    rw [say_r hfu3 hG hm hgo,Obs]
    have ho:=say_ord a d.Who d.Text
    have hos:=h.say d.Who d.Text
    refine ⟨g,congrArg some (Prod.ext rfl (Prod.ext (r_same (g:=g) ho) rfl)),?_,?_,hos⟩
    · intro i y hy
      unfold sayM at hy
      revert hy
      cases hw:(who a d.Who != 0) with
      | true=>exact hgo i y
      | false =>
        obtain ⟨j,x,hj,hx,ha⟩:=who_zero hw
        rw [cff]
        cases decide (d.Text.length > 150) with
        | true=>exact hgo i y
        | false =>
        cases decide (a.way.length=60) with
        | true=>exact hgo i y
        | false =>
          rw [cff,cff,hj,tnc,hx]
          simp only
          cases fullF x.from_ with
          | true=>exact hgo i y
          | false =>
            rw [cff]
            simp only
            rw [sendM_ps]
            exact hgo.set (y:={x with from_:=⟨x.from_.Base,x.from_.Late++[d.Text]⟩}) hx rfl i y
    · refine hm.same ?_ hln
      unfold sayM
      cases (who a d.Who != 0) with
      | true=>rfl
      | false =>
      cases decide (d.Text.length > 150) with
      | true=>rfl
      | false =>
      cases decide (a.way.length=60) with
      | true=>rfl
      | false =>
      cases a.ps[d.Who.toNat]? with
      | none=>rfl
      | some x =>
        simp only [cff]
        cases fullF x.from_ with
        | true=>rfl
        | false=>rw [cff]; simp only; rw [sendM_view]
  | false =>
  cases k2:d.Kind==2 with
  | true =>
    simp only [ctt,cff]
    rw [again_r hfu3 hG hm hgo,Obs]
    have hl:=again_like a d.Who
    exact ⟨g,congrArg some (Prod.ext rfl (Prod.ext (r_same (g:=g) hl.ord) rfl)),hgo.ps hl.ps,hm.same hl.view (by rw [hl.ps]),(h.again hG d.Who).mono (by omega)⟩
  | false =>
  cases k3:d.Kind==3 with
  | true =>
    simp only [ctt,cff]
    rw [move_r hfu2 h hP hG hB hD hm hgo,Obs]
    have hf:=fl_do fu a d
    have hv:(moveM fu a d.Who d.How).1.view=a.view:=by
      unfold moveM
      cases !(decide (d.How≥1)&&decide (d.How≤3)) with
      | true=>rfl
      | false =>
      cases !(decide (d.Who≥0)&&decide (d.Who≤(a.way.length:Int) - 1)) with
      | true=>rfl
      | false =>
      cases (d.How==3)&&decide (a.way.length=60) with
      | true=>rfl
      | false =>
      cases a.way[d.Who.toNat]? with
      | none=>rfl
      | some n =>
        simp only [cff]
        cases d.How==3 with
        | true=>rfl
        | false =>
          rw [cff]
          simp only
          cases ((d.How==1)&&(n.View==a.view.Num))&&act a n.To with
          | true=>rw [ctt,deliv_view]
          | false=>rfl
    have hln2:(moveM fu a d.Who d.How).1.ps.length=a.ps.length:=by
      have:=len_do fu a d
      unfold doM at this
      rw [k1,k2,k3] at this
      exact this
    have hfln:fln (moveM fu a d.Who d.How).1=fln a:=by
      unfold doM at hf
      rw [k1,k2,k3] at hf
      have k4:(d.Kind==4)=false:=by
        have:d.Kind=3:=by simpa using k3
        rw [this]; rfl
      rw [k4] at hf
      exact hf
    refine ⟨g,rfl,fun i y hy=>?_,hm.same hv hln2,(h.move hP hG hm hfu2 d.Who d.How).mono (by omega)⟩
    have hyl:i < a.ps.length:=by rw [← hln2]; exact (gsi hy).1
    have hx:a.ps[i]? = some a.ps[i]:=by simp [hyl]
    have e:=congrArg (fun l:List Bool=>l[i]?) hfln
    simp only [fln,List.getElem?_map] at e
    rw [hy,hx] at e
    have e':y.fallen=a.ps[i].fallen:=by simpa using e
    rw [e']
    exact hgo i _ hx
  | false =>
  cases k4:d.Kind==4 with
  | true =>
    simp only [ctt,cff]
    obtain ⟨g',e1,e2⟩:=fall_r hG hgo d.Who
    obtain ⟨q1,q2⟩:=fall_same a d.Who
    rw [e1,Obs]
    have hv:(fallM a d.Who).1.view=a.view:=by
      unfold fallM
      cases !knw a d.Who with
      | true=>rfl
      | false=>cases a.ps[d.Who.toNat]? <;> rfl
    have hln2:(fallM a d.Who).1.ps.length=a.ps.length:=by
      have:=len_do fu a d
      unfold doM at this
      rw [k1,k2,k3,k4] at this
      exact this
    have hrr:({(fallM a d.Who).1.r g' with gone:=g',order:=a.ord.map (·.2.2),marks:=a.ord.map (fun m=>(⟨m.1,m.2.1⟩:Mark)),WayNotes:=a.way}:RWld)=(fallM a d.Who).1.r g':=by
      rw [← q2]; exact r_same (g:=g') q1
    exact ⟨g',congrArg some (Prod.ext rfl (Prod.ext hrr rfl)),e2,hm.same hv hln2,(h.fall d.Who).mono (by omega)⟩
  | false =>
  cases k5:d.Kind==5 with
  | true =>
    simp only [ctt,cff]
    rw [change_r hfu h hP hG hB hm hgo,Obs]
    obtain ⟨_,_,c3⟩:=change_law hG hB
    refine ⟨g,?_,hgo.change,hm.change hG,(h.change hP hG).mono (by omega)⟩
    have:({(changeM a).1.r g with gone:=g,WayNotes:=a.way}:RWld)=(changeM a).1.r g:=by
      rw [← c3]; rfl
    exact congrArg some (Prod.ext rfl (Prod.ext this rfl))
  | false=>exact ⟨g,rfl,hgo,hm,h.mono (by omega)⟩
end Go.Proofs.YtchmclllcdknjaaGreatDoor
