/-
  The document's receiver after a parcel, as the code's.
-/
import Derived.Test.YtchmclllcdknjaaGreatDoorWpWorldA
import Derived.Test.YtchmclllcdknjaaGreatDoorWpSp
import Derived.Test.YtchmclllcdknjaaGreatDoorGoW
import Derived.Test.YtchmclllcdknjaaGreatDoorWpWireRef
namespace Go.Proofs.YtchmclllcdknjaaGreatDoor
open Enc
theorem build_map {r:To} (h:r.Early.Pairwise SLt):∃ m,rangeF (partref_TakeParcel_B0 r) r.Early.length 0 []=some m∧∀ s t,mget m s=some t↔(⟨s,t⟩:Parcel)∈r.Early:=by
  have key:Tot (rangeF (partref_TakeParcel_B0 r) r.Early.length 0 []) fun z=>∀ s t,mget z s=some t↔(⟨s,t⟩:Parcel)∈r.Early:=by
    refine Tot.rangeF (fun i z=>∀ s t,mget z s=some t↔(⟨s,t⟩:Parcel)∈r.Early.take i) (fun s t=>by simp [mget_nil]) ?_ (fun z hz=>by rwa [Nat.zero_add,List.take_length] at hz)
    intro i z _ hi hz
    have hi:i < r.Early.length:=by omega
    have hx:r.Early[i]? = some r.Early[i]:=by simp [hi]
    generalize r.Early[i]=x at hx
    unfold partref_TakeParcel_B0
    rw [lat_nat,hx,Obs,Tot.let_iff,Tot.some_iff]
    intro s t
    rw [mget_mset,take_snoc hx,List.mem_append,List.mem_singleton]
    by_cases e:s=x.Seq
    · rw [if_pos e]
      constructor
      · intro q
        refine .inr ?_
        cases x
        simp only at e q
        rw [e,Option.some.inj q]
      · rintro (q | q)
        · obtain ⟨j,hj⟩:=List.getElem?_of_mem q
          have hji:j < i:=by have:=(gsi hj).1; simp at this; omega
          rw [List.getElem?_take,if_pos hji] at hj
          have:=inc_at h hji hj hx
          simp only at this
          omega
        · rw [← q]
    · rw [if_neg e,hz s t]
      constructor
      · exact .inl
      · rintro (q | q)
        · exact q
        · rw [← q] at e; exact absurd rfl e
  obtain ⟨m,e,h1⟩:=key
  exact ⟨m,e,h1⟩
theorem ref_told {f:List (Int×Str)} {N:Int} {fu:Nat} (hN:0≤N∧N≤1000000000) (hs:∀ s t,mget f s=some t→s < N+16) (hf:40 < fu) :
    ∃ k:Nat,k≤16∧whileM (partref_TakeParcel_B2 f) fu ((⟨N,[]⟩:To),[])=some (.inl ((⟨N+k,[]⟩:To),tl (mget f) N k))∧(∀ j:Nat,j < k→(mget f (N+j)).isSome=true)∧mget f (N+k)=none:=by
  have key:Tot (whileM (partref_TakeParcel_B2 f) fu ((⟨N,[]⟩:To),[])) fun o=>∃ k:Nat,k≤16∧o=.inl ((⟨N+k,[]⟩:To),tl (mget f) N k)∧(∀ j:Nat,j < k→(mget f (N+j)).isSome=true)∧mget f (N+k)=none:=by
    refine Tot.whileM (fun z=>∃ k:Nat,k≤16∧z=((⟨N+k,[]⟩:To),tl (mget f) N k)∧∀ j:Nat,j < k→(mget f (N+j)).isSome=true) (fun z=>20 - z.2.length) ⟨0,by omega,by simp [tl],fun j h=>by omega⟩ (by simp; omega) ?_
    rintro _ ⟨k,hk,rfl,h1⟩
    unfold partref_TakeParcel_B2
    simp only
    cases hq:mget f (N+k) with
    | none =>
      simp only [Option.isSome_none,Bool.not_false,ctt]
      exact Tot.some_iff.2 (Tot.brk_iff.2 ⟨k,hk,rfl,h1,hq⟩)
    | some t =>
      have hk':=hs _ _ hq
      simp only [Option.isSome_some,Bool.not_true,cff,Option.getD_some]
      rw [room_ok (by rw [tl_len]; simp; omega),Obs,Tot.let_iff,Tot.some_iff,w64_id (show -9223372036854775808≤N+(k:Int)+1 by omega) (by omega)]
      refine Tot.go_iff.2 ⟨⟨k+1,by omega,?_,fun j hj=>?_⟩,?_⟩
      · rw [tl_succ,hq]; simp; omega
      · by_cases e:j=k
        · subst e; rw [hq]; rfl
        · exact h1 j (by omega)
      · simp only [List.length_append,tl_len,List.length_singleton]; omega
  obtain ⟨o,e,k,h1,rfl,h2,h3⟩:=key
  exact ⟨k,h1,e,h2,h3⟩
theorem ref_early {r:To} {f:List (Int×Str)} {q:Int} {fu:Nat} (hN:0≤r.Next∧r.Next≤1000000000) (hq:r.Next≤q∧q≤r.Next+16) (hs:∀ s t,mget f s=some t→s < r.Next+16) (hf:40 < fu) :
    ∃ k e,whileM (partref_TakeParcel_B4x r f) fu (q+1,(⟨q,[]⟩:To))=some (.inl (k,(⟨q,e⟩:To)))∧e.Pairwise SLt∧Rep (mget f) (q+1) e∧e.length≤16:=by
  have w16:w64 (r.Next+16)=r.Next+16:=w64_id (by omega) (by omega)
  have key:Tot (whileM (partref_TakeParcel_B4x r f) fu (q+1,(⟨q,[]⟩:To))) fun o=>∃ k e,o=.inl (k,(⟨q,e⟩:To))∧e.Pairwise SLt∧Rep (mget f) (q+1) e∧e.length≤16:=by
    refine Tot.whileM (fun z=>∃ k e,z=(k,(⟨q,e⟩:To))∧q+1≤k∧k≤q+17∧e.Pairwise SLt∧(∀ s t,(⟨s,t⟩:Parcel)∈e↔q+1≤s∧s < k∧mget f s=some t)∧(e.length:Int)≤k - (q+1)) (fun z=>(r.Next+20 - z.1).toNat)
      ⟨q+1,[],rfl,Int.le_refl _,by omega,.nil,fun s t=>by simp; omega,by simp⟩ (by simp only; omega) ?_
    rintro _ ⟨k,e,rfl,h1,h2,h3,h4,h5⟩
    unfold partref_TakeParcel_B4x
    simp only [w16]
    rw [Tot.ite_iff]
    refine ⟨fun c=>?_,fun c=>?_⟩
    · have c:k < r.Next+16:=by simpa using c
      have wk:w64 (k+1)=k+1:=w64_id (by omega) (by omega)
      cases hg:mget f k with
      | none =>
        simp only [Option.isSome_none,cff]
        rw [wk,Tot.some_iff]
        refine Tot.go_iff.2 ⟨⟨k+1,e,rfl,by omega,by omega,h3,fun s t=>?_,by omega⟩,by simp only; omega⟩
        rw [h4 s t]
        constructor
        · rintro ⟨a,b,d⟩; exact ⟨a,by omega,d⟩
        · rintro ⟨a,b,d⟩
          have:s≠k:=fun e=>by subst e; rw [hg] at d; cases d
          exact ⟨a,by omega,d⟩
      | some t0 =>
        simp only [Option.isSome_some,ctt,Option.getD_some]
        rw [room_ok (by simp; omega),Obs,wk,Tot.some_iff]
        refine Tot.go_iff.2 ⟨⟨k+1,e++[⟨k,t0⟩],rfl,by omega,by omega,?_,fun s t=>?_,by simp; omega⟩,by simp only; omega⟩
        · rw [List.pairwise_append]
          refine ⟨h3,by simp,fun a ha b hb=>?_⟩
          rw [List.mem_singleton.1 hb]
          have:=((h4 a.Seq a.Text).1 ha).2.1
          exact this
        · rw [List.mem_append,List.mem_singleton,h4 s t]
          constructor
          · rintro (⟨a,b,d⟩ | d)
            · exact ⟨a,by omega,d⟩
            · cases d; exact ⟨h1,by omega,hg⟩
          · rintro ⟨a,b,d⟩
            by_cases e:s=k
            · subst e; rw [hg] at d; right; rw [Option.some.inj d]
            · exact .inl ⟨a,by omega,d⟩
    · have c:¬ k < r.Next+16:=by simpa using c
      rw [Tot.some_iff]
      refine Tot.brk_iff.2 ⟨k,e,rfl,h3,fun s t=>?_,by omega⟩
      rw [h4 s t]
      constructor
      · rintro ⟨a,_,b⟩; exact ⟨a,b⟩
      · rintro ⟨a,b⟩; exact ⟨a,by have:=hs s t b; omega,b⟩
  obtain ⟨o,e,k,l,rfl,h1,h2,h3⟩:=key
  exact ⟨k,l,e,h1,h2,h3⟩
theorem parcel_law {r:To} {p:Parcel} {fu:Nat} (hfu:200 < fu) (h:GoodT r) (hp:0≤p.Seq∧p.Seq≤16777214) (ht:p.Text.length≤200) :
    ∃ o ts,lane_Take fu r p=some (o,ts,0)∧partref_TakeParcel fu r p=some (o,ts)∧Took r p o ts:=by
  have hN:0≤r.Next∧r.Next≤1000000000:=by have:=h.lo; have:=h.hi; omega
  have hN2:=h.hi
  have w16:w64 (r.Next+16)=r.Next+16:=w64_id (by omega) (by omega)
  have hlen:=h.len
  obtain ⟨m,em,hm⟩:=build_map h.inc
  obtain ⟨k,b,eb,hk,hk1,hk2,hb⟩:=lbs_law (t:=p.Seq) (fu:=fu) h.inc (by omega) (fun x hx=>by have:=h.rng x hx; omega) (by omega) (by omega)
  have hsup:∀ s t,mget m s=some t→r.Next < s∧s≤r.Next+15:=fun s t q=>h.rng _ ((hm s t).1 q)
  have hknown:(mget m p.Seq).isSome=b:=by
    rw [Bool.eq_iff_iff,hb]
    constructor
    · intro q
      obtain ⟨t,e⟩:=Option.isSome_iff_exists.1 q
      exact ⟨_,(hm _ _).1 e,rfl⟩
    · rintro ⟨x,hx,q⟩
      have:=(hm x.Seq x.Text).2 hx
      rw [q] at this; rw [this]; rfl
  have ref:∀ f:List (Int×Str),(∀ s t,mget f s=some t→r.Next≤s∧s < r.Next+16)→∃ (q:Nat) (e:List Parcel),q≤16∧(andThen (whileM (partref_TakeParcel_B2 f) fu (({To.zero with Next:=r.Next}:To),([]:List Str))) fun (y44,l46) =>
      andThen (whileM (partref_TakeParcel_B4x r f) fu (w64 (y44.Next+(1:Int)),({y44 with Early:=([]:List Parcel)}:To))) fun (_,y75)=>some (y75,l46))=some ((⟨r.Next+q,e⟩:To),tl (mget f) r.Next q) ∧
      (∀ j:Nat,j < q→(mget f (r.Next+j)).isSome=true)∧mget f (r.Next+q)=none∧e.Pairwise SLt∧Rep (mget f) (r.Next+q+1) e∧e.length≤16:=fun f hf=>by
    obtain ⟨q,q1,q2,q3,q4⟩:=ref_told (f:=f) (fu:=fu) hN (fun s t x=>(hf s t x).2) (by omega)
    obtain ⟨k',e,p1,p2,p3,p4⟩:=ref_early (r:=r) (f:=f) (q:=r.Next+q) (fu:=fu) hN (by omega) (fun s t x=>(hf s t x).2) (by omega)
    refine ⟨q,e,q1,?_,q3,q4,p2,p3,p4⟩
    have q2':whileM (partref_TakeParcel_B2 f) fu (({To.zero with Next:=r.Next}:To),([]:List Str))=some (.inl ((⟨r.Next+q,[]⟩:To),tl (mget f) r.Next q)):=q2
    rw [q2',andThen_inl]
    simp only
    rw [w64_id (show -9223372036854775808≤r.Next+(q:Int)+1 by omega) (by omega),p1,andThen_inl]
  unfold lane_Take partref_TakeParcel
  rw [to_ok h,Obs]
  simp only [bne_self_eq_false,cff]
  rw [lin_eq,Obs,dtt (show p.Seq≥0 by omega),dtt (show p.Seq≤16777214 by omega)]
  unfold lane_long
  simp only [Bool.and_self,Bool.not_true,cff,Obs]
  rw [dff (show ¬ (p.Text.length:Int) > 200 by omega),cff,clone_parcels (by omega),Obs]
  simp only [Let]
  rw [eb,Obs,or_some,Obs,or_some,Obs,w16,em,Obs,and_some,Obs,and_some,Obs,hknown]
  by_cases hin:r.Next≤p.Seq∧p.Seq < r.Next+16∧b=false
  · obtain ⟨i1,i2,rfl⟩:=hin
    rw [dff (show ¬ p.Seq < r.Next by omega),dff (show ¬ p.Seq≥r.Next+16 by omega),dtt (show p.Seq≥r.Next by omega),dtt (show p.Seq < r.Next+16 by omega)]
    simp only [Bool.or_self,Bool.not_false,Bool.and_self,ctt,cff,Obs]
    have hmm:∀ s t,mget (mset m p.Seq p.Text) s=some t↔(⟨s,t⟩:Parcel)∈r.Early∨(⟨s,t⟩:Parcel)=p:=fun s t=>by
      have hno:∀ t,(⟨p.Seq,t⟩:Parcel) ∉ r.Early:=fun t q=>by
        have:=(hm _ _).2 q
        rw [this] at hknown; cases hknown
      rw [mget_mset]
      by_cases e:s=p.Seq
      · subst e
        rw [if_pos rfl]
        constructor
        · intro q; right; rw [← Option.some.inj q]
        · rintro (q | q)
          · exact absurd q (hno t)
          · rw [← q]
      · rw [if_neg e,hm s t]
        constructor
        · exact .inl
        · rintro (q | q)
          · exact q
          · rw [← q] at e; exact absurd rfl e
    obtain ⟨q,e,hq,er,r1,r2,r3,r4,r5⟩:=ref (mset m p.Seq p.Text) (fun s t x=>by
      rcases (hmm s t).1 x with x | x
      · have:=h.rng _ x; simp only at this; omega
      · rw [← x] at i1 i2; exact ⟨i1,i2⟩)
    have took:∀ o ts,o=(⟨r.Next+q,e⟩:To)→ts=tl (mget (mset m p.Seq p.Text)) r.Next q→Took r p o ts:=by
      rintro o ts rfl rfl
      refine ⟨by rw [tl_len],r3,fun x hx=>?_,fun x hx=>?_,r5,fun i t hi=>?_⟩
      · have hx':=(r4 x.Seq x.Text).1 hx
        have hxx:=(hmm _ _).1 hx'.2
        refine ⟨by simp only; omega,?_,hxx⟩
        rcases hxx with y | y
        · have:=h.rng _ y; simp only at this; omega
        · rw [← y] at i2; simp only at i2; omega
      · rcases (hmm _ _).1 ((r4 x.Seq x.Text).1 hx).2 with y | y
        · exact h.txt _ y
        · rw [← y] at ht; exact ht
      · exact (hmm _ _).1 (tl_get hi r1)
    by_cases c:p.Seq > r.Next
    · rw [dtt c,ctt]
      have ei:slices_Insert_api_Parcel_api_Parcel r.Early (k:Int) [p]=some (r.Early.take k++[p]++r.Early.drop k):=by
        unfold slices_Insert_api_Parcel_api_Parcel
        have ec:∃ x,cutL r.Early (k:Int) (r.Early.length:Int)=some x:=⟨_,by unfold cutL; rw [if_pos (by omega)]⟩
        obtain ⟨x,ec⟩:=ec
        rw [ec,Obs,room_ok (by simp; omega),Obs,tnc]
      obtain ⟨n1,n2⟩:=insert_inc (p:=p) h.inc hk hk1 (fun j x hj hx=>by
        have:=hk2 j x hj hx
        have hne:x.Seq≠p.Seq:=fun e=>by
          have:=hb.2 ⟨x,mog hx,e⟩; cases this
        omega)
      have hq0:q=0:=by
        refine first_none r1 r2 (k':=0) (fun j hj=>by omega) ?_
        cases e:mget (mset m p.Seq p.Text) (r.Next+((0:Nat):Int)) with
        | none=>rfl
        | some t =>
          rcases (hmm _ _).1 e with y | y
          · have:=h.rng _ y; simp only at this; omega
          · rw [← y] at c; simp at c
      subst hq0
      have ee:e=r.Early.take k++[p]++r.Early.drop k:=inc_ext r3 n1 fun s t=>by
        rw [r4 s t,n2,hmm s t]
        constructor
        · exact fun x=>x.2
        · intro x
          refine ⟨?_,x⟩
          rcases x with y | y
          · have:=h.rng _ y; simp only at this; push_cast; omega
          · rw [← y] at c; simp only at c; push_cast; omega
      rw [ei,Obs]
      refine ⟨⟨r.Next,e⟩,[],?_,?_,took _ _ (by simp) (by simp [tl])⟩
      · rw [ee]
      · refine er.trans ?_
        simp [tl]
    · have hpN:p.Seq=r.Next:=by omega
      rw [dff c,cff,w64_id (show -9223372036854775808≤r.Next+1 by omega) (by omega)]
      have hf0:mget (mset m p.Seq p.Text) r.Next=some p.Text:=by rw [mget_mset,if_pos hpN.symm]
      obtain ⟨q',E',c1,c2,c3,c4,c5,c6,c7,c8⟩:=code_told (f:=mget (mset m p.Seq p.Text)) (N:=r.Next) (E:=r.Early) (fu:=fu) hN h.inc (fun s t=>by
        rw [hmm s t]
        constructor
        · intro x; have:=h.rng _ x; simp only at this; exact ⟨by omega,.inl x⟩
        · rintro ⟨a,x | x⟩
          · exact x
          · rw [← x] at hpN; simp only at hpN; omega) hlen (by rw [hf0]; rfl) (by omega)
      have e1:tl (mget (mset m p.Seq p.Text)) r.Next 1=[p.Text]:=by
        simp [tl,hf0]
      rw [e1] at c1
      obtain rfl:q'=q:=first_none c2 c3 r1 r2
      have ee:E'=e:=inc_ext c4 r3 fun s t=>by
        rw [c5 s t,r4 s t]
        constructor
        · rintro ⟨a,x⟩
          have:s≠r.Next+q':=fun y=>by rw [y,c3] at x; cases x
          exact ⟨by omega,x⟩
        · rintro ⟨a,x⟩; exact ⟨by omega,x⟩
      subst ee
      have c1':whileM lane_Take_B1 fu (({To.zero with Next:=r.Next+1,Early:=r.Early}:To),([p.Text]:List Str),r.Early)=some (.inl ((⟨r.Next+q',E'⟩:To),tl (mget (mset m p.Seq p.Text)) r.Next q',E')):=c1
      rw [c1',andThen_inl]
      simp only
      rw [clone_parcels (by omega),Obs]
      exact ⟨_,_,rfl,er,took _ _ rfl rfl⟩
  · have e1:((decide (p.Seq < r.Next)||decide (p.Seq≥r.Next+16))||b)=true:=by
      cases b
      · simp only [Bool.or_false,Bool.or_eq_true,decide_eq_true_eq]
        have:¬ (r.Next≤p.Seq∧p.Seq < r.Next+16):=fun x=>hin ⟨x.1,x.2,rfl⟩
        omega
      · simp
    have e2:((!b&&decide (p.Seq≥r.Next))&&decide (p.Seq < r.Next+16))=false:=by
      cases b
      · rw [Bool.eq_false_iff]
        simp only [Bool.not_false,Bool.true_and,ne_eq,Bool.and_eq_true,decide_eq_true_eq]
        exact fun x=>hin ⟨by omega,by omega,rfl⟩
      · simp
    rw [e1,ctt,e2,cff,Obs]
    obtain ⟨q,e,hq,er,r1,r2,r3,r4,r5⟩:=ref m (fun s t x=>by have:=hsup s t x; omega)
    have hq0:q=0:=by
      refine first_none r1 r2 (k':=0) (fun j hj=>by omega) ?_
      cases e:mget m (r.Next+((0:Nat):Int)) with
      | none=>rfl
      | some t=>have:=hsup _ _ e; omega
    subst hq0
    have ee:e=r.Early:=inc_ext r3 h.inc fun s t=>by
      rw [r4 s t,← hm s t]
      constructor
      · exact fun x=>x.2
      · intro x; have:=hsup _ _ x; exact ⟨by push_cast; omega,x⟩
    subst ee
    refine ⟨⟨r.Next,r.Early⟩,[],rfl,er.trans (by simp [tl]),⟨by simp,h.inc,fun x hx=>?_,h.txt,hlen,fun i t hi=>by simp at hi⟩⟩
    have:=h.rng x hx
    exact ⟨this.1,by omega,.inl hx⟩
end Go.Proofs.YtchmclllcdknjaaGreatDoor
namespace Go.Proofs.YtchmclllcdknjaaGreatDoor
open Enc
def pcF:Nat→Nat→Nat
  | 0,_=>0
  | f+1,m=>m % 2+pcF f (m / 2)
theorem pcF_add:∀ (a b m:Nat),pcF (a+b) m=pcF a (m % 2 ^ a)+pcF b (m / 2 ^ a)
  | 0,b,m=>by simp [pcF]
  | a+1,b,m=>by
    rw [show a+1+b=(a+b)+1 by omega]
    show m % 2+pcF (a+b) (m / 2)=(m % 2 ^ (a+1)) % 2+pcF a (m % 2 ^ (a+1) / 2)+pcF b (m / 2 ^ (a+1))
    rw [pcF_add a b (m / 2)]
    have e1:m % 2 ^ (a+1) % 2=m % 2:=by
      rw [Nat.pow_succ,Nat.mul_comm,Nat.mod_mul_right_mod]
    have e2:m % 2 ^ (a+1) / 2=m / 2 % 2 ^ a:=by
      rw [Nat.pow_succ,Nat.mul_comm,Nat.mod_mul_right_div_self]
    have e3:m / 2 / 2 ^ a=m / 2 ^ (a+1):=by
      rw [Nat.div_div_eq_div_mul,Nat.pow_succ,Nat.mul_comm]
    rw [e1,e2,e3]; omega
theorem pcF_le:∀ (a m:Nat),pcF a m≤a
  | 0,_=>Nat.le_refl _
  | a+1,m=>by
    have:=pcF_le a (m / 2)
    show m % 2+pcF a (m / 2)≤a+1
    omega
def pc (x:BitVec 16):Nat:=pcF 16 x.toNat
theorem pc_le (x:BitVec 16):pc x≤16:=pcF_le _ _
theorem ones_at {tbl:Str} (ht:(List.range 256).all (fun k=>match tbl[k]? with
    | none=>false
    | some v=>decide (v.toNat=pcF 8 k))=true) {k:Nat} (hk:k < 256):∃ v:UInt8,lat tbl (k:Int)=some v∧v.toNat=pcF 8 k:=by
  have:=List.all_eq_true.1 ht k (List.mem_range.2 hk)
  rw [lat_nat]
  cases h:tbl[k]? with
  | none=>rw [h] at this; cases this
  | some v=>rw [h] at this; exact ⟨v,rfl,by simpa using this⟩
theorem size_law {fu:Nat} (hfu:2 ^ 16 < fu) (x:BitVec 16):partref_size fu x=some (pc x:Int):=by
  refine Tot.eq ?_
  unfold partref_size
  rw [Tot.andThen_iff]
  have hx:=x.isLt
  refine Tot.whileM (fun z:(BitVec 16)×Int=>∃ f:Nat,f≤16∧z.1.toNat < 2 ^ f∧z.2+pcF f z.1.toNat=pc x∧0≤z.2) (fun z=>z.1.toNat) ⟨16,by omega,hx,by unfold pc; simp,by simp only; omega⟩ (by simp only; omega) ?_
  rintro ⟨y,n⟩ ⟨f,hf,h1,h2,h0⟩
  simp only at h1 h2 h0
  unfold partref_size_B0
  simp only
  rw [Tot.ite_iff]
  refine ⟨fun k=>?_,fun k=>?_⟩
  · have k:0 < y.toNat:=by have:=of_decide_eq_true k; simp at this; omega
    obtain ⟨f,rfl⟩:∃ g,f=g+1:=⟨f - 1,by
      rcases Nat.eq_zero_or_pos f with rfl | q
      · simp at h1; omega
      · omega⟩
    have e1:(y / (2:BitVec 16)).toNat=y.toNat / 2:=by rw [BitVec.toNat_udiv]; rfl
    have e2:(y % (2:BitVec 16)).toNat=y.toNat % 2:=by rw [BitVec.toNat_umod]; rfl
    have hp:pcF (f+1) y.toNat=y.toNat % 2+pcF f (y.toNat / 2):=rfl
    have hle:=pc_le x
    rw [Tot.some_iff,e2,w64_id (by omega) (by omega)]
    refine ⟨⟨f,by omega,?_,?_,by simp only; omega⟩,?_⟩
    · simp only [e1]; rw [Nat.pow_succ] at h1; omega
    · simp only [e1]; rw [hp] at h2; push_cast at h2 ⊢; omega
    · simp only [e1]; omega
  · have k:y.toNat=0:=by have:=of_decide_eq_false k; simp at this; omega
    rw [Tot.some_iff]
    show Tot (some n) _
    rw [Tot.some_iff]
    rw [k] at h2
    have hz:∀ f,pcF f 0=0:=by
      intro f
      induction f with
      | zero=>rfl
      | succ f ih=>show 0 % 2+pcF f (0 / 2)=0; simpa using ih
    rw [hz] at h2
    omega
theorem pcF_small {m:Nat} (h:m < 256):pcF 16 m=pcF 8 m:=by
  have:=pcF_add 8 8 m
  rw [show m / 2 ^ 8=0 by omega,Nat.mod_eq_of_lt (by omega)] at this
  rw [this]; simp [pcF]
def one8 (x:BitVec 8):Nat:=pcF 8 x.toNat
theorem size8 {fu:Nat} (hfu:2 ^ 16 < fu) (x:BitVec 8):partref_size fu (BitVec.ofInt 16 (x.toNat:Int))=some (one8 x:Int):=by
  rw [size_law hfu]
  have hx:=x.isLt
  congr 2
  unfold pc one8
  have:(BitVec.ofInt 16 (x.toNat:Int)).toNat=x.toNat:=by rw [BitVec.toNat_ofInt]; omega
  rw [this,pcF_small (by omega)]
theorem count8 (x:BitVec 8):math_bits_OnesCount8 x=some (one8 x:Int):=by
  unfold math_bits_OnesCount8
  obtain ⟨v,h1,h2⟩:=ones_at (by kernel_rfl) (k:=x.toNat) (by have:=x.isLt; omega)
  rw [h1,Obs]
  congr 2
end Go.Proofs.YtchmclllcdknjaaGreatDoor
namespace Go.Proofs.YtchmclllcdknjaaGreatDoor
open Enc
def RV {α:Type} (d:α) (f:Procs→α) (ps:List Procs):Vector α 6:=Vector.ofFn fun i:Fin 6=>match ps[i.val]? with | some x=>f x | none=>d
theorem RV.get {α:Type} {d:α} {f:Procs→α} {ps:List Procs} {i:Nat} {x:Procs} (hi:i < 6) (hx:ps[i]? = some x):vat (RV d f ps) (i:Int)=some (f x):=by
  rw [vat_lt _ hi]
  simp [RV,hx]
theorem RV.set {α:Type} {d:α} {f:Procs→α} {ps:List Procs} {i:Nat} {v:α} {y:Procs} (hi:i < ps.length) (hv:v=f y):(RV d f ps).setIfInBounds i v=RV d f (ps.set i y):=by
  apply Vector.ext
  intro j hj
  by_cases c:j=i
  · subst c
    simp [RV,hi,hv]
  · rw [Vector.getElem_setIfInBounds_ne hj (fun e=>c e.symm)]
    simp only [RV,Vector.getElem_ofFn]
    rw [List.getElem?_set_ne (fun e=>c e.symm)]
theorem RV.same {α:Type} {d:α} {f:Procs→α} {ps:List Procs} {i:Nat} {x y:Procs} (hx:ps[i]? = some x) (h:f y=f x):RV d f (ps.set i y)=RV d f ps:=by
  have hi:=(gsi hx).1
  apply Vector.ext
  intro j hj
  simp only [RV,Vector.getElem_ofFn]
  by_cases c:j=i
  · subst c
    rw [List.getElem?_set_self hi,hx]
    exact h
  · rw [List.getElem?_set_ne (fun e=>c e.symm)]
def AW.r (a:AW) (g:List (Int×Int)):RWld:=⟨a.ps.length,a.view,g,RV [] (·.log) a.ps,RV To.zero (·.to) a.ps,RV From.zero (·.from_) a.ps,RV To.zero (·.orders) a.ps,a.ord.map (·.2.2),a.ord.map (fun m=>(⟨m.1,m.2.1⟩:Mark)),a.way⟩
theorem r_same {a b:AW} {g:List (Int×Int)} (h:b.ord=a.ord):({b.r g with gone:=g,order:=a.ord.map (·.2.2),marks:=a.ord.map (fun m=>(⟨m.1,m.2.1⟩:Mark)),WayNotes:=b.way}:RWld)=b.r g:=by
  unfold AW.r; simp only; rw [h]
def GoneOk (g:List (Int×Int)) (a:AW):Prop:=∀ (i:Nat) x,a.ps[i]? = some x→(((mget g (i:Int)).getD (0:Int))==(0:Int))=!x.fallen
def Mb (a:AW):Prop:=a.view.Members.toNat < 2 ^ a.ps.length
theorem and_two (x:BitVec 8):x % 2=x &&& 1:=by
  apply BitVec.eq_of_toNat_eq
  rw [BitVec.toNat_umod,BitVec.toNat_and]
  show x.toNat % 2=x.toNat &&& 1
  rw [Nat.and_one_is_mod]
theorem isIn_mod (m:BitVec 8) (i:Nat):((((m >>> i) % (2:BitVec 8)).toNat:Int)==((1:BitVec 8).toNat:Int))=isIn m i:=by rw [and_two]; rfl
theorem isIn_out {m:BitVec 8} {n i:Nat} (h:m.toNat < 2 ^ n) (hi:n≤i):isIn m i=false:=by
  unfold isIn
  have:m >>> i=0:=by
    apply BitVec.eq_of_toNat_eq
    rw [BitVec.toNat_ushiftRight,Nat.shiftRight_eq_div_pow]
    have h2:2 ^ n≤2 ^ i:=Nat.pow_le_pow_right (by omega) hi
    rw [Nat.div_eq_of_lt (by omega)]; rfl
  rw [this]; rfl
theorem here_r {a:AW} {g:List (Int×Int)} (hm:Mb a) (hg:GoneOk g a) (i:Nat):partref_World_Here (a.r g) (i:Int)=some (act a (i:Int)):=by
  unfold partref_World_Here
  rw [cnt_nat,Obs,show (a.r g).V=a.view from rfl,isIn_mod,show (a.r g).gone=g from rfl]
  by_cases hi:i < a.ps.length
  · have hx:a.ps[i]? = some a.ps[i]:=by simp [hi]
    have hk:knw a (i:Int)=true:=knw_iff.2 ⟨i,rfl,hi⟩
    unfold act
    rw [hk,tnc,hx,hg i _ hx]
    cases isIn a.view.Members i <;> rfl
  · have hk:knw a (i:Int)=false:=by
      rw [Bool.eq_false_iff]; intro q
      obtain ⟨j,e,hj⟩:=knw_iff.1 q
      omega
    unfold act
    rw [hk,isIn_out hm (by omega)]; rfl
theorem who_r {a:AW} {g:List (Int×Int)} (hm:Mb a) (hg:GoneOk g a) (p:Int):partref_World_whoErr (a.r g) p=some (who a p):=by
  unfold partref_World_whoErr who
  rw [or_some,Obs,show (a.r g).n=(a.ps.length:Int) from rfl]
  cases hk:knw a p with
  | false =>
    have:(decide (p < 0)||decide (p≥(a.ps.length:Int)))=true:=by
      unfold knw at hk
      simp only [Bool.and_eq_false_iff,decide_eq_false_iff_not] at hk
      simp only [Bool.or_eq_true,decide_eq_true_eq]
      omega
    rw [this]; rfl
  | true =>
    obtain ⟨i,rfl,hi⟩:=knw_iff.1 hk
    rw [dff (by omega),dff (by omega),here_r hm hg]
    cases act a (i:Int) <;> rfl
def tzI (m:BitVec 8):Int:=bif isIn m 0 then 0 else bif isIn m 1 then 1 else bif isIn m 2 then 2 else bif isIn m 3 then 3 else bif isIn m 4 then 4 else bif isIn m 5 then 5 else 0
theorem tz_tab:((List.range 64).all fun m=>m==0||(match math_bits_TrailingZeros8 (BitVec.ofNat 8 m) with | some x=>x==tzI (BitVec.ofNat 8 m) | none=>false))=true:=by kernel_rfl
theorem sq_tz {v:View} (hn:0≤v.Num∧v.Num≤16777215) (hm:v.Members.toNat < 64):sq v=tzI v.Members:=by
  have key:view_First v=some (tzI v.Members,0)∨(v.Members=0∧∃ e,view_First v=some ((0:Int),e)):=by
    unfold view_First view_Check view_outside
    have h6:(((v.Members >>> 6).toNat:Int) != ((0:BitVec 8).toNat:Int))=false:=by
      have:(v.Members >>> 6).toNat=0:=by rw [BitVec.toNat_ushiftRight,Nat.shiftRight_eq_div_pow]; omega
      rw [this]; rfl
    rw [or_some,Obs,or_some,Obs,h6,Obs,or_some,Obs,dff (by omega),dff (by omega)]
    by_cases h0:v.Members=0
    · right
      rw [h0]
      exact ⟨rfl,_,rfl⟩
    · left
      have hne:((v.Members.toNat:Int)==((0:BitVec 8).toNat:Int))=false:=by
        rw [beq_eq_false_iff_ne]
        intro e
        refine h0 (BitVec.eq_of_toNat_eq ?_)
        have:((0:BitVec 8).toNat:Int)=0:=rfl
        show v.Members.toNat=0
        omega
      rw [hne]
      have ht:=List.all_eq_true.1 tz_tab v.Members.toNat (List.mem_range.2 hm)
      rw [BitVec.ofNat_toNat] at ht
      have hz:(v.Members.toNat==0)=false:=by
        rw [beq_eq_false_iff_ne]; intro e
        exact h0 (BitVec.eq_of_toNat_eq e)
      rw [hz,Bool.false_or,BitVec.setWidth_eq] at ht
      cases hc:math_bits_TrailingZeros8 v.Members with
      | none=>rw [hc] at ht; cases ht
      | some x =>
        rw [hc] at ht
        have ht:x=tzI v.Members:=by simpa using ht
        rw [ht]; rfl
  unfold sq
  rcases key with e | ⟨h0,e,q⟩
  · rw [e]; rfl
  · rw [q,h0]; rfl
theorem lead_r {w:RWld} (hn:0≤w.V.Num∧w.V.Num≤16777215) (hm:w.V.Members.toNat < 64):partref_World_lead w=some (sq w.V):=by
  rw [sq_tz hn hm]
  have hb:∀ i:Nat,partref_World_lead_B0 w i ()=some (bif isIn w.V.Members i then .ret (i:Int) else .go ()):=fun i=>by
    unfold partref_World_lead_B0
    rw [cnt_nat,Obs,isIn_mod]
    cases isIn w.V.Members i <;> rfl
  unfold partref_World_lead tzI
  cases h0:isIn w.V.Members 0 with
  | true=>unfold rangeM; rw [hb,h0]; rfl
  | false =>
  cases h1:isIn w.V.Members 1 with
  | true=>unfold rangeM; rw [hb,h0]; unfold rangeM; simp only [cff,Obs]; rw [hb,h1]; rfl
  | false =>
  cases h2:isIn w.V.Members 2 with
  | true=>simp [rangeM,hb,h0,h1,h2,andThen]
  | false =>
  cases h3:isIn w.V.Members 3 with
  | true=>simp [rangeM,hb,h0,h1,h2,h3,andThen]
  | false =>
  cases h4:isIn w.V.Members 4 with
  | true=>simp [rangeM,hb,h0,h1,h2,h3,h4,andThen]
  | false =>
  cases h5:isIn w.V.Members 5 with
  | true=>simp [rangeM,hb,h0,h1,h2,h3,h4,h5,andThen]
  | false=>simp [rangeM,hb,h0,h1,h2,h3,h4,h5,andThen]
theorem Mb.lt {a:AW} {B:Nat} (h:GA B a) (hm:Mb a):a.view.Members.toNat < 64:=by
  have h1:=h.n.2
  have:2 ^ a.ps.length≤2 ^ 6:=Nat.pow_le_pow_right (by omega) h1
  unfold Mb at hm
  omega
theorem send_r {a:AW} {g:List (Int×Int)} {fu:Nat} (hfu:20≤fu) (hw:a.way.length≤60) (k f t s:Int) (x:Str) :
    partref_World_send fu (a.r g) ({Note.zero with Kind:=k,From:=f,To:=t,Seq:=s,Text:=x}:Note)=some ((sendM a k f t s x).way,(sendM a k f t s x).r g):=by
  have e:({({Note.zero with Kind:=k,From:=f,To:=t,Seq:=s,Text:=x}:Note) with View:=(a.r g).V.Num}:Note)=noteM a.view k f t s x:=rfl
  unfold partref_World_send
  rw [Let_eq,e,show (a.r g).WayNotes=a.way from rfl,check_eq _ hfu]
  obtain ⟨c,ec,hc⟩:=check_law (noteM a.view k f t s x)
  have hok:okN (noteM a.view k f t s x)=(c==0):=by unfold okN; rw [ec]
  unfold sendM
  rw [ec,hok]
  by_cases hl:a.way.length < 60
  · rw [dtt (show (a.way.length:Int) < 60 by omega),dtt hl]
    simp only [ctt,Obs,Bool.and_true]
    cases (c==0) with
    | false=>rfl
    | true =>
      simp only [ctt]
      rw [room_ok (by simp; omega),Obs,Let_eq]
      rfl
  · rw [dff (show ¬ (a.way.length:Int) < 60 by omega),dff hl,Bool.and_false]
    rfl
theorem say_r {B:Nat} {a:AW} {g:List (Int×Int)} {fu:Nat} (hfu:20≤fu) (h:GA B a) (hm:Mb a) (hg:GoneOk g a) (p:Int) (t:Str) :
    partref_World_Say fu (a.r g) p t=some ((sayM a p t).1.way,(sayM a p t).1.r g,(sayM a p t).2):=by
  unfold partref_World_Say sayM
  rw [who_r hm hg,Obs]
  cases hw:(who a p != 0) with
  | true=>rfl
  | false =>
    obtain ⟨i,x,rfl,hx,ha⟩:=who_zero hw
    have hi:=(gsi hx).1
    have h6:i < 6:=by have:=h.n.2; omega
    rw [cff,cff]
    by_cases ht:t.length > 150
    · rw [dtt ht,dtt (show (t.length:Int) > 150 by omega)]; rfl
    · rw [dff ht,dff (show ¬ (t.length:Int) > 150 by omega),cff,cff,show (a.r g).Late=RV From.zero (·.from_) a.ps from rfl,RV.get h6 hx,Obs,tnc,hx]
      have hp:=(h.ps x (mog hx)).gf
      have hb:=hp.base
      have hl:=hp.late
      simp only
      rw [show (a.r g).WayNotes=a.way from rfl,w64_id (show -9223372036854775808≤x.from_.Base+(x.from_.Late.length:Int) by omega) (by omega),or_some,Obs,or_some,Obs]
      have hl60:((a.way.length:Int)==60)=decide (a.way.length=60):=by rw [Bool.eq_iff_iff]; simp; omega
      have hful:(((x.from_.Late.length:Int)==16)||decide (x.from_.Base+(x.from_.Late.length:Int)≥16777215))=fullF x.from_:=by
        unfold fullF
        congr 1
        rw [Bool.eq_iff_iff]; simp; omega
      rw [Bool.or_assoc,hful,hl60]
      cases hc:decide (a.way.length=60) with
      | true=>rfl
      | false =>
        cases hf:fullF x.from_ with
        | true=>rfl
        | false =>
          simp only [Bool.or_self,cff]
          have hgs:=h.way.1
          rw [clone_strs (by omega),Obs,room_ok (by simp; omega),Obs,Let_eq]
          obtain ⟨b,hb1⟩:∃ b:AW,b={a with ps:=a.ps.set i {x with from_:=⟨x.from_.Base,x.from_.Late++[t]⟩}}:=⟨_,rfl⟩
          have hbx:b.ps[i]? = some {x with from_:=⟨x.from_.Base,x.from_.Late++[t]⟩}:=by rw [hb1]; exact List.getElem?_set_self hi
          have hset:(RV From.zero (·.from_) a.ps).setIfInBounds i ({x.from_ with Late:=x.from_.Late++([t]:List Str)}:From)=RV From.zero (·.from_) b.ps:=by rw [hb1]; exact RV.set hi rfl
          have hbr:({a.r g with Late:=RV From.zero (·.from_) b.ps,WayNotes:=a.way}:RWld)=b.r g:=by
            rw [hb1]
            unfold AW.r
            simp only [List.length_set]
            rw [RV.same (f:=(·.log)) (y:=({x with from_:=⟨x.from_.Base,x.from_.Late++[t]⟩}:Procs)) hx rfl,RV.same (f:=(·.to)) (y:=({x with from_:=⟨x.from_.Base,x.from_.Late++[t]⟩}:Procs)) hx rfl,RV.same (f:=(·.orders)) (y:=({x with from_:=⟨x.from_.Base,x.from_.Late++[t]⟩}:Procs)) hx rfl]
          dsimp only at hbr
          rw [hset,hbr,← hb1,lead_r (w:=b.r g) (by rw [hb1]; exact h.num) (by rw [hb1]; exact hm.lt h),Obs,RV.get h6 hbx,Obs,Obs]
          have hv:(b.r g).V=a.view:=by rw [hb1]; rfl
          have hbw:b.way.length≤60:=by rw [hb1]; exact hgs
          have el:((x.from_.Late++[t]).length:Int)=(x.from_.Late.length:Int)+1:=by simp
          simp only
          rw [el,w64_id (x:=x.from_.Base+((x.from_.Late.length:Int)+1)) (by omega) (by omega),w64_id (x:=x.from_.Base+((x.from_.Late.length:Int)+1) - 1) (by omega) (by omega),show x.from_.Base+((x.from_.Late.length:Int)+1) - 1=x.from_.Base+x.from_.Late.length by omega,hv,send_r hfu hbw,Obs]
          have ho:(sendM b 1 (i:Int) (sq a.view) (x.from_.Base+x.from_.Late.length) t).ord=a.ord:=by rw [sendM_ord,hb1]
          have:=r_same (g:=g) ho
          simp only
          exact congrArg some (Prod.ext rfl (Prod.ext this rfl))
theorem foldI_ix {τ α:Type} (F:τ→α→τ):∀ (l:List α) (i j:Nat) (b:τ),foldI (fun b _ q=>F b q) i l b=foldI (fun b _ q=>F b q) j l b
  | [],_,_,_=>rfl
  | x::l,i,j,b=>foldI_ix F l (i+1) (j+1) (F b x)
theorem again_r {B:Nat} {a:AW} {g:List (Int×Int)} {fu:Nat} (hfu:20≤fu) (h:GA B a) (hm:Mb a) (hg:GoneOk g a) (p:Int) :
    partref_World_Again fu (a.r g) p=some ((againM a p).1.way,(againM a p).1.r g,(againM a p).2):=by
  unfold partref_World_Again againM
  rw [who_r hm hg,Obs]
  cases hw:(who a p != 0) with
  | true=>rfl
  | false =>
    obtain ⟨i,x,rfl,hx,ha⟩:=who_zero hw
    have h6:i < 6:=by have:=h.n.2; have:=(gsi hx).1; omega
    have hp:=h.ps x (mog hx)
    have hbs:=hp.base
    have hlt:=hp.late
    rw [cff,cff,show (a.r g).Late=RV From.zero (·.from_) a.ps from rfl,RV.get h6 hx,Obs,tnc,hx]
    simp only
    have key:∀ (k j:Nat) (b:AW),j+k=x.from_.Late.length→Like a b→GA B b→∃ c,rangeF (partref_World_Again_B0 fu (a.r g) (i:Int) x.from_) k j (b.r g,b.way)=some (c.r g,c.way)∧Like a c∧GA B c ∧
        c=foldI (fun b _ (q:Parcel)=>sendM b 1 (i:Int) (sq a.view) q.Seq q.Text) 0 (sndM x.from_.Base j (x.from_.Late.drop j)) b:=by
      intro k
      induction k with
      | zero =>
        intro j b hk hl hgb
        refine ⟨b,rfl,hl,hgb,?_⟩
        rw [List.drop_of_length_le (by omega)]; rfl
      | succ k ih =>
        intro j b hk hl hgb
        have hj:j < x.from_.Late.length:=by omega
        have ht:x.from_.Late[j]? = some x.from_.Late[j]:=by simp [hj]
        rw [List.drop_eq_getElem_cons hj]
        have hmem:=mog ht
        generalize x.from_.Late[j]=t at ht hmem
        have hbr:({b.r g with gone:=(a.r g).gone,order:=(a.r g).order,marks:=(a.r g).marks,WayNotes:=b.way}:RWld)=b.r g:=r_same (g:=g) hl.ord
        dsimp only at hbr
        by_cases c4:j < 4
        · obtain ⟨c,e1,e2,e3,e4⟩:=ih (j+1) (sendM b 1 (i:Int) (sq a.view) (x.from_.Base+(j:Int)) t) (by omega) (hl.send ..) (hgb.send (fun _=>hlt.2 t hmem) (fun q=>absurd q (by decide)))
          refine ⟨c,?_,e2,e3,?_⟩
          · have hb:partref_World_Again_B0 fu (a.r g) (i:Int) x.from_ j (b.r g,b.way)=some ((sendM b 1 (i:Int) (sq a.view) (x.from_.Base+(j:Int)) t).r g,(sendM b 1 (i:Int) (sq a.view) (x.from_.Base+(j:Int)) t).way):=by
              unfold partref_World_Again_B0
              simp only
              rw [lat_nat,ht,Obs,dtt (show (j:Int) < 4 by omega),ctt,hbr,lead_r (w:=b.r g) (by show 0≤b.view.Num∧b.view.Num≤16777215; rw [hl.view]; exact h.num) (by show b.view.Members.toNat < 64; rw [hl.view]; exact hm.lt h),Obs,
                show (b.r g).Late=RV From.zero (·.from_) b.ps from rfl,RV.get h6 (show b.ps[i]? = some x by rw [hl.ps]; exact hx),Obs,w64_id (by omega) (by omega),show (b.r g).V=a.view from hl.view,send_r hfu hgb.way.1,Obs]
              simp only
              have ho:(sendM b 1 (i:Int) (sq a.view) (x.from_.Base+(j:Int)) t).ord=a.ord:=by rw [sendM_ord,hl.ord]
              exact congrArg some (Prod.ext (r_same (g:=g) ho) rfl)
            unfold rangeF
            rw [hb,Obs]; exact e1
          · rw [e4]
            conv=>rhs; unfold sndM
            rw [if_pos c4]
            exact foldI_ix (fun (b:AW) (q:Parcel)=>sendM b 1 (i:Int) (sq a.view) q.Seq q.Text) _ 0 1 _
        · obtain ⟨c,e1,e2,e3,e4⟩:=ih (j+1) b (by omega) hl hgb
          refine ⟨c,?_,e2,e3,?_⟩
          · have hb:partref_World_Again_B0 fu (a.r g) (i:Int) x.from_ j (b.r g,b.way)=some (b.r g,b.way):=by
              unfold partref_World_Again_B0
              simp only
              rw [lat_nat,ht,Obs,dff (show ¬ (j:Int) < 4 by omega),cff,hbr]
            unfold rangeF
            rw [hb,Obs]; exact e1
          · rw [e4]
            conv=>rhs; unfold sndM
            rw [if_neg c4]
    obtain ⟨c,e1,e2,e3,e4⟩:=key x.from_.Late.length 0 a (by omega) ⟨rfl,rfl,rfl⟩ h
    have e1':rangeF (partref_World_Again_B0 fu (a.r g) (i:Int) x.from_) x.from_.Late.length 0 (a.r g,(a.r g).WayNotes)=some (c.r g,c.way):=e1
    rw [List.drop_zero] at e4
    rw [e1',Obs,← e4]
    have hbr:({c.r g with gone:=(a.r g).gone,order:=(a.r g).order,marks:=(a.r g).marks,WayNotes:=c.way}:RWld)=c.r g:=r_same (g:=g) e2.ord
    dsimp only at hbr
    simp only
    rw [hbr,lead_r (w:=c.r g) (by show 0≤c.view.Num∧c.view.Num≤16777215; rw [e2.view]; exact h.num) (by show c.view.Members.toNat < 64; rw [e2.view]; exact hm.lt h),Obs,
      show (c.r g).want=RV To.zero (·.to) c.ps from rfl,RV.get h6 (show c.ps[i]? = some x by rw [e2.ps]; exact hx),Obs,show (c.r g).V=a.view from e2.view]
    have es:({Note.zero with Kind:=(3:Int),From:=(i:Int),To:=sq a.view,Seq:=x.to.Next}:Note)=({Note.zero with Kind:=(3:Int),From:=(i:Int),To:=sq a.view,Seq:=x.to.Next,Text:=([]:Str)}:Note):=rfl
    rw [es,send_r hfu e3.way.1,Obs]
    have ho:(sendM c 3 (i:Int) (sq a.view) x.to.Next []).ord=a.ord:=by rw [sendM_ord,e2.ord]
    exact congrArg some (Prod.ext rfl (Prod.ext (r_same (g:=g) ho) rfl))
theorem fall_r {B:Nat} {a:AW} {g:List (Int×Int)} (h:GA B a) (hg:GoneOk g a) (p:Int) :
    ∃ g',partref_World_Fall (a.r g) p=some (g',(fallM a p).1.r g',(fallM a p).2)∧GoneOk g' (fallM a p).1:=by
  unfold partref_World_Fall fallM
  rw [or_some,Obs,show (a.r g).n=(a.ps.length:Int) from rfl]
  cases hk:knw a p with
  | false =>
    have:(decide (p < 0)||decide (p≥(a.ps.length:Int)))=true:=by
      unfold knw at hk
      simp only [Bool.and_eq_false_iff,decide_eq_false_iff_not] at hk
      simp only [Bool.or_eq_true,decide_eq_true_eq]
      omega
    rw [this]
    exact ⟨g,rfl,hg⟩
  | true =>
    obtain ⟨i,rfl,hi⟩:=knw_iff.1 hk
    have hx:a.ps[i]? = some a.ps[i]:=by simp [hi]
    generalize a.ps[i]=x at hx
    rw [dff (by omega),dff (by omega),tnc,hx]
    simp only [Bool.or_self,cff,Bool.not_true,Let_eq]
    refine ⟨mset g (i:Int) 1,?_,?_⟩
    · have:({a.r g with gone:=mset g (i:Int) 1}:RWld)=({a with ps:=a.ps.set i {x with fallen:=true}}:AW).r (mset g (i:Int) 1):=by
        unfold AW.r
        simp only [List.length_set]
        rw [RV.same (f:=(·.log)) (y:=({x with fallen:=true}:Procs)) hx rfl,RV.same (f:=(·.to)) (y:=({x with fallen:=true}:Procs)) hx rfl,RV.same (f:=(·.from_)) (y:=({x with fallen:=true}:Procs)) hx rfl,RV.same (f:=(·.orders)) (y:=({x with fallen:=true}:Procs)) hx rfl]
      exact congrArg some (Prod.ext rfl (Prod.ext this rfl))
    · intro j y hy
      have hy':(a.ps.set i {x with fallen:=true})[j]? = some y:=hy
      rw [mget_mset]
      by_cases c:j=i
      · subst c
        rw [List.getElem?_set_self hi] at hy'
        rw [if_pos rfl,← Option.some.inj hy']; rfl
      · rw [List.getElem?_set_ne (fun e=>c e.symm)] at hy'
        rw [if_neg (by omega)]
        exact hg j y hy'
end Go.Proofs.YtchmclllcdknjaaGreatDoor
namespace Go.Proofs.YtchmclllcdknjaaGreatDoor
open Enc
theorem parcel_r {r:To} {p:Parcel} {fu:Nat} (hfu:200 < fu) (h:GoodT r) (hp:0≤p.Seq∧p.Seq≤16777214) (ht:p.Text.length≤200):partref_TakeParcel fu r p=some (takeV fu r p):=by
  obtain ⟨o,ts,e1,e2,_⟩:=parcel_law hfu h hp ht
  rw [e2]
  unfold takeV
  rw [e1]
theorem GoneOk.ps {g:List (Int×Int)} {a b:AW} (h:GoneOk g a) (hp:b.ps=a.ps):GoneOk g b:=fun i x hx=>h i x (by rw [← hp]; exact hx)
theorem GoneOk.set {g:List (Int×Int)} {a:AW} (h:GoneOk g a) {i:Nat} {x y:Procs} (hx:a.ps[i]? = some x) (hf:y.fallen=x.fallen):GoneOk g {a with ps:=a.ps.set i y}:=fun j z hz=>by
  have hi:=(gsi hx).1
  have hz':(a.ps.set i y)[j]? = some z:=hz
  by_cases c:j=i
  · subst c
    rw [List.getElem?_set_self hi] at hz'
    rw [← Option.some.inj hz',hf]
    exact h j x hx
  · rw [List.getElem?_set_ne (fun e=>c e.symm)] at hz'
    exact h j z hz'
theorem Mb.same {a b:AW} (h:Mb a) (hv:b.view=a.view) (hl:b.ps.length=a.ps.length):Mb b:=by unfold Mb; rw [hv,hl]; exact h
theorem tell_r {B:Nat} {a:AW} {g:List (Int×Int)} {fu:Nat} (hfu:20≤fu) (h:GA B a) (hm:Mb a) (p:Int) {k:Nat} {m:Int×Int×Str} (hk:a.ord[k]? = some m) (hg3:G3 m) :
    partref_World_tell fu (a.r g) p (k:Int)=some ((sendM a 2 (sq a.view) p (k:Int) (enc3 m)).way,(sendM a 2 (sq a.view) p (k:Int) (enc3 m)).r g):=by
  obtain ⟨g1,g2,g3⟩:=hg3
  obtain ⟨i1,_,i2,_⟩:=itoa_law g1.1 (show m.1 < 1000000000 by omega)
  obtain ⟨j1,_,j2,_⟩:=itoa_law g2.1 (show m.2.1 < 1000000000 by omega)
  have e1:(a.r g).marks[k]? = some ⟨m.1,m.2.1⟩:=by show (a.ord.map _)[k]? = _; rw [List.getElem?_map,hk]; rfl
  have e2:(a.r g).order[k]? = some m.2.2:=by show (a.ord.map _)[k]? = _; rw [List.getElem?_map,hk]; rfl
  unfold partref_World_tell
  rw [lead_r (w:=a.r g) h.num (hm.lt h),Obs,lat_nat,e1,Obs]
  simp only
  rw [i1,Obs,room_ok (by simp; omega),Obs,Obs,j1,Obs,room_ok (by simp only [List.length_append,List.length_cons,List.length_nil]; omega),Obs,
    room_ok (by simp only [List.length_append,List.length_cons,List.length_nil]; omega),Obs,lat_nat,e2,Obs,room_ok (by simp only [List.length_append,List.length_cons,List.length_nil]; omega),Obs]
  have es:=send_r (g:=g) hfu h.way.1 2 (sq a.view) p (k:Int) (enc3 m)
  have hv:(a.r g).V=a.view:=rfl
  have et:(((itS m.1++([58]:Str))++itS m.2.1)++([58]:Str))++m.2.2=enc3 m:=rfl
  rw [hv,et,es,Obs]
  exact congrArg some (Prod.ext rfl (r_same (g:=g) (sendM_ord ..)))
theorem ordStep_r {B:Nat} {a b:AW} {g:List (Int×Int)} {fu:Nat} {n:Note} {x9:To} {l:List Str} {j:Nat} {t:Str} (hfu:20≤fu) (h:GA B b) (hB:B≤2 ^ 35) (hm:Mb b) (hgo:GoneOk g b) (hl:l[j]? = some t) (hg:G3 (n.From,x9.Next+(j:Int),t)) :
    partref_World_comes_B1 fu (a.r g) n x9 l j (b.r g,b.ord.map (·.2.2),b.ord.map (fun m=>(⟨m.1,m.2.1⟩:Mark)),b.way)=some ((ordOne b n.From (x9.Next+(j:Int)) t).r g,(ordOne b n.From (x9.Next+(j:Int)) t).ord.map (·.2.2),(ordOne b n.From (x9.Next+(j:Int)) t).ord.map (fun m=>(⟨m.1,m.2.1⟩:Mark)),(ordOne b n.From (x9.Next+(j:Int)) t).way):=by
  have g2:=hg.2.1
  simp only at g2
  have ho:=h.ord.1
  have hn:=h.n
  obtain ⟨b1,hb1⟩:∃ b1:AW,b1={b with ord:=b.ord++[(n.From,x9.Next+(j:Int),t)]}:=⟨_,rfl⟩
  have hbo:b1.ord=b.ord++[(n.From,x9.Next+(j:Int),t)]:=by rw [hb1]
  have hw:w64 (x9.Next+(j:Int))=x9.Next+(j:Int):=w64_id (by omega) (by omega)
  have hga:GA (B+1) b1:=by
    rw [hb1]
    refine ⟨h.n,fun x hx=>(h.ps x hx).mono (by omega),⟨?_,fun m hm=>?_⟩,h.way,h.num⟩
    · simp only [List.length_append,List.length_cons,List.length_nil]; omega
    · rcases List.mem_append.1 hm with e | e
      · exact h.ord.2 m e
      · rw [List.mem_singleton.1 e]; exact hg
  have em:b.ord.map (·.2.2)++([t]:List Str)=b1.ord.map (·.2.2):=by rw [hbo,List.map_append]; rfl
  have ek:b.ord.map (fun m=>(⟨m.1,m.2.1⟩:Mark))++([({Mark.zero with from_:=n.From,seq:=x9.Next+(j:Int)}:Mark)]:List Mark)=b1.ord.map (fun m=>(⟨m.1,m.2.1⟩:Mark)):=by rw [hbo,List.map_append]; rfl
  unfold partref_World_comes_B1
  simp only
  rw [lat_nat,hl,Obs,room_ok (by simp; omega),Obs,hw,room_ok (by simp; omega),Obs,Let_eq]
  simp only
  have hnn:upTo (b.r g).n=some b.ps.length:=by
    rw [show (b.r g).n=(b.ps.length:Int) from rfl,upTo_ok (by omega),tnc]
  rw [hnn,Obs,ek]
  have hst:({b.r g with gone:=(a.r g).gone,order:=b.ord.map (·.2.2)++([t]:List Str),marks:=b1.ord.map (fun m=>(⟨m.1,m.2.1⟩:Mark)),WayNotes:=b.way}:RWld)=b1.r g:=by
    rw [em,hb1]; rfl
  dsimp only at hst
  rw [hst]
  obtain ⟨l1,l2⟩:=rangeF_emb (body:=partref_World_comes_B3 fu (a.r g) (b.ord.map (·.2.2)) t (b1.ord.map (fun m=>(⟨m.1,m.2.1⟩:Mark)))) (fun c:AW=>(c.r g,c.way))
    (fun (c:AW) i (_:Procs)=>bif act c (i:Int) then sendM c 2 (sq b.view) (i:Int) (b.ord.length:Int) (enc3 (n.From,x9.Next+(j:Int),t)) else c) (fun _ c=>Like b1 c∧GA (B+1) c) (l:=b.ps) (fun i y c _ hc=>by
      obtain ⟨hc1,hc2⟩:=hc
      have hcv:c.view=b.view:=by rw [hc1.view,hb1]
      have hcp:c.ps=b.ps:=by rw [hc1.ps,hb1]
      have hcw:({c.r g with gone:=(a.r g).gone,order:=b.ord.map (·.2.2)++([t]:List Str),marks:=b1.ord.map (fun m=>(⟨m.1,m.2.1⟩:Mark)),WayNotes:=c.way}:RWld)=c.r g:=by
        rw [em]; exact r_same (g:=g) hc1.ord
      dsimp only at hcw
      have hmc:Mb c:=hm.same hcv (by rw [hcp])
      have hgc:GoneOk g c:=hgo.ps hcp
      unfold partref_World_comes_B3
      simp only
      rw [hcw,here_r hmc hgc,Obs]
      cases hac:act c (i:Int) with
      | false=>exact ⟨rfl,hc1,hc2⟩
      | true =>
        have hln:((b.ord.map (·.2.2)++([t]:List Str)).length:Int)=(b.ord.length:Int)+1:=by simp
        have hsl:w64 (((b.ord.map (·.2.2)++([t]:List Str)).length:Int) - 1)=(b.ord.length:Int):=by
          rw [hln,w64_id (by omega) (by omega)]; omega
        have hck:c.ord[b.ord.length]? = some (n.From,x9.Next+(j:Int),t):=by rw [hc1.ord,hbo]; simp
        rw [ctt,ctt,hsl,tell_r hfu hc2 hmc (i:Int) hck hg,Obs,hcv]
        have hl2:=hc1.send 2 (sq b.view) (i:Int) (b.ord.length:Int) (enc3 (n.From,x9.Next+(j:Int),t))
        refine ⟨?_,hl2,hc2.send (fun e=>absurd e (by decide)) (fun _=>⟨_,hg,rfl⟩)⟩
        have:=r_same (g:=g) hl2.ord
        rw [← em] at this
        exact congrArg some (Prod.ext this rfl)) b.ps.length 0 b1 (by omega) ⟨⟨rfl,rfl,rfl⟩,hga⟩
  rw [List.drop_zero] at l1 l2
  have hfold:foldI (fun (c:AW) i (_:Procs)=>bif act c (i:Int) then sendM c 2 (sq b.view) (i:Int) (b.ord.length:Int) (enc3 (n.From,x9.Next+(j:Int),t)) else c) 0 b.ps b1=ordOne b n.From (x9.Next+(j:Int)) t:=by
    rw [hb1]; rfl
  rw [hfold] at l1 l2
  generalize ordOne b n.From (x9.Next+(j:Int)) t=d at l1 l2
  have l1':rangeF (partref_World_comes_B3 fu (a.r g) (b.ord.map (·.2.2)) t (b1.ord.map (fun m=>(⟨m.1,m.2.1⟩:Mark)))) b.ps.length 0 (b1.r g,b.way)=some (d.r g,d.way):=by
    have:b1.way=b.way:=by rw [hb1]
    rw [← this]; exact l1
  rw [l1',Obs]
  simp only
  have hd:=r_same (g:=g) l2.1.ord
  dsimp only at hd
  rw [em,← l2.1.ord]
  rw [← l2.1.ord] at hd
  exact congrArg some (Prod.ext hd rfl)
theorem order_r {B fu:Nat} {a:AW} {g:List (Int×Int)} {n:Note} (hfu:200 < fu) (h:GA B a) (hB:B≤2 ^ 34) (hm:Mb a) (hgo:GoneOk g a) (hn:GN n) (hk:n.Kind=1) (hkn:knw a n.From=true) (hs:n.Seq≤16777214) :
    partref_World_comes fu (a.r g) n=some ((orderM fu a n).ord.map (·.2.2),(orderM fu a n).ord.map (fun m=>(⟨m.1,m.2.1⟩:Mark)),(orderM fu a n).way,(orderM fu a n).r g):=by
  obtain ⟨i,hi,hil⟩:=knw_iff.1 hkn
  have hx:a.ps[i]? = some a.ps[i]:=by simp [hil]
  generalize a.ps[i]=x at hx
  have h6:i < 6:=by have:=h.n.2; omega
  have hp:=h.ps x (mog hx)
  have hsq:=hn.1.seq
  have hfr:=hn.1.from_
  have ht:=hn.2.1 hk
  unfold partref_World_comes orderM
  rw [hk,hi,tnc,hx]
  simp only [beq_self_eq_true,ctt]
  rw [show (a.r g).in_=RV To.zero (·.orders) a.ps from rfl,RV.get h6 hx,Obs,Obs]
  have ep:({Parcel.zero with Seq:=n.Seq,Text:=n.Text}:Parcel)=⟨n.Seq,n.Text⟩:=rfl
  rw [ep,parcel_r hfu hp.ords.1 ⟨hsq.1,hs⟩ (by simp only; omega),Obs,Let_eq]
  obtain ⟨_,t2,_,t4⟩:=take_v (r:=x.orders) (p:=⟨n.Seq,n.Text⟩) hfu hp.ords.1 ⟨hsq.1,hs⟩ (by simp only; omega)
  have hog:=took_good hp.ords.1 (fun y hy=>(hp.ords.2 y hy).1) hs t2
  have hnx:=hp.ords.1.hi
  have hnl:=hp.ords.1.lo
  rw [dff (show ¬ n.Seq > 16777214 by omega),cff]
  generalize takeV fu x.orders ⟨n.Seq,n.Text⟩=r at t2 t4 hog
  obtain ⟨o,ts⟩:=r
  simp only at t2 t4 hog
  simp only [Obs,Let_eq]
  have hop:GP B {x with orders:=o}:=⟨hp.log,hp.txt,hp.base,hp.late,hp.to,hog,fun y hy=>by
    rcases (t2.rng y hy).2.2 with q | q
    · exact hp.ords.2 y q
    · rw [q]; exact ⟨hs,ht⟩⟩
  obtain ⟨a1,ha1⟩:∃ a1:AW,a1={a with ps:=a.ps.set i {x with orders:=o}}:=⟨_,rfl⟩
  have hga:GA B a1:=by rw [ha1]; exact h.set i hop
  have hm1:Mb a1:=hm.same (by rw [ha1]) (by rw [ha1]; simp)
  have hg1:GoneOk g a1:=by rw [ha1]; exact hgo.set hx rfl
  have hset:(RV To.zero (·.orders) a.ps).setIfInBounds i (⟨o.Next,o.Early⟩:To)=RV To.zero (·.orders) (a.ps.set i {x with orders:=o}):=RV.set hil rfl
  have hw1:({a.r g with in_:=RV To.zero (·.orders) (a.ps.set i {x with orders:=o})}:RWld)=a1.r g:=by
    rw [ha1]
    unfold AW.r
    simp only [List.length_set]
    rw [RV.same (f:=(·.log)) (y:=({x with orders:=o}:Procs)) hx rfl,RV.same (f:=(·.to)) (y:=({x with orders:=o}:Procs)) hx rfl,RV.same (f:=(·.from_)) (y:=({x with orders:=o}:Procs)) hx rfl]
  dsimp only at hw1
  rw [hset,hw1,← ha1]
  obtain ⟨l1,l2⟩:=rangeF_emb (body:=partref_World_comes_B1 fu (a.r g) n x.orders ts) (fun b:AW=>(b.r g,b.ord.map (·.2.2),b.ord.map (fun m=>(⟨m.1,m.2.1⟩:Mark)),b.way)) (fun b j t=>ordOne b (i:Int) (x.orders.Next+(j:Int)) t)
    (fun j b=>b.ps=a1.ps∧b.view=a1.view∧GA (B+j) b) (l:=ts) (fun j t b hj hb=>by
      obtain ⟨hb1,hbv,hb2⟩:=hb
      have hjl:=(gsi hj).1
      have hg:G3 (n.From,x.orders.Next+(j:Int),t):=by
        refine ⟨hfr,⟨by simp only; omega,by simp only; omega⟩,?_⟩
        rcases t2.from_ j t hj with q | q
        · exact (hp.ords.2 _ q).2
        · have:t=n.Text:=by injection q
          rw [this]; exact ht
      have hst:=ordStep_r (a:=a) (g:=g) (l:=ts) (x9:=x.orders) (fu:=fu) (by omega) hb2 (by omega) (hm1.same hbv (by rw [hb1])) (hg1.ps hb1) hj hg
      rw [hi] at hst
      refine ⟨hst,?_,?_,?_⟩
      · rw [(ordOne_like ..).ps]; exact hb1
      · rw [(ordOne_like ..).view]; exact hbv
      · rw [← hi]; exact hb2.ordOne hg) ts.length 0 a1 (by omega) ⟨rfl,rfl,hga⟩
  rw [List.drop_zero] at l1 l2
  have l1':rangeF (partref_World_comes_B1 fu (a.r g) n x.orders ts) ts.length 0 (a1.r g,(a.r g).order,(a.r g).marks,(a.r g).WayNotes)=some ((foldI (fun (b:AW) j t=>ordOne b (i:Int) (x.orders.Next+(j:Int)) t) 0 ts a1).r g,(foldI (fun (b:AW) j t=>ordOne b (i:Int) (x.orders.Next+(j:Int)) t) 0 ts a1).ord.map (·.2.2),(foldI (fun (b:AW) j t=>ordOne b (i:Int) (x.orders.Next+(j:Int)) t) 0 ts a1).ord.map (fun m=>(⟨m.1,m.2.1⟩:Mark)),(foldI (fun (b:AW) j t=>ordOne b (i:Int) (x.orders.Next+(j:Int)) t) 0 ts a1).way):=by
    have e1:(a.r g).order=a1.ord.map (·.2.2):=by rw [ha1]; rfl
    have e2:(a.r g).marks=a1.ord.map (fun m=>(⟨m.1,m.2.1⟩:Mark)):=by rw [ha1]; rfl
    have e3:(a.r g).WayNotes=a1.way:=by rw [ha1]; rfl
    rw [e1,e2,e3]; exact l1
  generalize foldI (fun (b:AW) j t=>ordOne b (i:Int) (x.orders.Next+(j:Int)) t) 0 ts a1=d at l1' l2
  rw [l1',Obs]
  rfl
end Go.Proofs.YtchmclllcdknjaaGreatDoor
namespace Go.Proofs.YtchmclllcdknjaaGreatDoor
open Enc
def readL (l:List (Int×Int×Str)):List Saying:=l.map fun m=>⟨m.1,m.2.2⟩
def Told (base:List Saying) (ord:List (Int×Int×Str)) (x:Procs):Prop :=
  (0≤x.to.Next∧x.to.Next≤ord.length)∧x.log=base++readL (ord.take x.to.Next.toNat)∧∀ p∈x.to.Early,∃ m,ord[p.Seq.toNat]? = some m∧p.Text=enc3 m
def NV (v:Int) (ord:List (Int×Int×Str)) (n:Note):Prop:=n.View≤v∧(n.Kind=2→n.View=v→∃ m,ord[n.Seq.toNat]? = some m∧n.Text=enc3 m)
structure PV (base:List Saying) (a:AW):Prop where
  log:∀ (i:Nat) x,a.ps[i]? = some x→act a (i:Int)=true→Told base a.ord x
  way:∀ n∈a.way,NV a.view.Num a.ord n
theorem act_get {a:AW} {i:Nat} {x:Procs} (hx:a.ps[i]? = some x):act a (i:Int)=(isIn a.view.Members i&&!x.fallen):=by
  have hi:=(gsi hx).1
  have hk:knw a (i:Int)=true:=knw_iff.2 ⟨i,rfl,hi⟩
  unfold act
  rw [hk,tnc,hx,Bool.true_and]
theorem PV.send {base:List Saying} {a:AW} (h:PV base a) {k f t s:Int} {x:Str} (h2:k=2→∃ m,a.ord[s.toNat]? = some m∧x=enc3 m):PV base (sendM a k f t s x):=by
  unfold sendM
  cases hc:(okN (noteM a.view k f t s x)&&decide (a.way.length < 60)) with
  | false=>exact h
  | true =>
    refine ⟨h.log,fun n hn=>?_⟩
    rcases List.mem_append.1 hn with q | q
    · exact h.way n q
    · rw [List.mem_singleton.1 q]
      exact ⟨Int.le_refl _,fun e _=>h2 e⟩
theorem PV.set {base:List Saying} {a:AW} (h:PV base a) {i:Nat} {x y:Procs} (hx:a.ps[i]? = some x) (hf:y.fallen=x.fallen) (hy:Told base a.ord x→Told base a.ord y):PV base {a with ps:=a.ps.set i y}:=by
  have hi:=(gsi hx).1
  refine ⟨fun j z hz ha=>?_,h.way⟩
  have hz':(a.ps.set i y)[j]? = some z:=hz
  by_cases c:j=i
  · subst c
    rw [List.getElem?_set_self hi] at hz'
    obtain rfl:=Option.some.inj hz'
    have e:=act_get (a:={a with ps:=a.ps.set j y}) hz
    rw [e,hf] at ha
    exact hy (h.log j x hx (by rw [act_get hx]; exact ha))
  · rw [List.getElem?_set_ne (fun e=>c e.symm)] at hz'
    refine h.log j z hz' ?_
    have e:=act_get (a:={a with ps:=a.ps.set i y}) hz
    rw [e] at ha
    rw [act_get hz']; exact ha
theorem PV.say {base:List Saying} {a:AW} (h:PV base a) (p:Int) (t:Str):PV base (sayM a p t).1:=by
  unfold sayM
  cases hw:(who a p != 0) with
  | true=>exact h
  | false =>
    obtain ⟨i,x,rfl,hx,ha⟩:=who_zero hw
    rw [cff]
    cases decide (t.length > 150) with
    | true=>exact h
    | false =>
    cases decide (a.way.length=60) with
    | true=>exact h
    | false =>
      rw [cff,cff,tnc,hx]
      simp only
      cases fullF x.from_ with
      | true=>exact h
      | false =>
        rw [cff]
        exact PV.send (k:=1) (h.set (y:={x with from_:=⟨x.from_.Base,x.from_.Late++[t]⟩}) hx rfl fun q=>q) (fun e=>absurd e (by decide))
theorem PV.again {base:List Saying} {a:AW} (h:PV base a) (p:Int):PV base (againM a p).1:=by
  unfold againM
  cases hw:(who a p != 0) with
  | true=>exact h
  | false =>
    obtain ⟨i,x,rfl,hx,ha⟩:=who_zero hw
    rw [cff,tnc,hx]
    exact PV.send (k:=3) (foldI_inv (PV base) _ 0 a (fun b j q _ hb=>hb.send (fun e=>absurd e (by decide))) h) (fun e=>absurd e (by decide))
theorem PV.fall {base:List Saying} {a:AW} (h:PV base a) (p:Int):PV base (fallM a p).1:=by
  unfold fallM
  cases hk:knw a p with
  | false=>exact h
  | true =>
    obtain ⟨i,rfl,hi⟩:=knw_iff.1 hk
    have hx:a.ps[i]? = some a.ps[i]:=by simp [hi]
    generalize a.ps[i]=x at hx
    rw [tnc,hx]
    simp only [Bool.not_true,cff]
    refine ⟨fun j z hz ha=>?_,h.way⟩
    have hz':(a.ps.set i {x with fallen:=true})[j]? = some z:=hz
    have e:=act_get (a:={a with ps:=a.ps.set i {x with fallen:=true}}) hz
    rw [e] at ha
    by_cases c:j=i
    · subst c
      rw [List.getElem?_set_self hi] at hz'
      obtain rfl:=Option.some.inj hz'
      simp at ha
    · rw [List.getElem?_set_ne (fun e=>c e.symm)] at hz'
      exact h.log j z hz' (by rw [act_get hz']; exact ha)
theorem Told.more {base:List Saying} {ord more:List (Int×Int×Str)} {x:Procs} (h:Told base ord x):Told base (ord++more) x:=by
  obtain ⟨h1,h2,h3⟩:=h
  refine ⟨⟨h1.1,by rw [List.length_append]; omega⟩,by rw [List.take_append_of_le_length (by omega)]; exact h2,fun p hp=>?_⟩
  obtain ⟨m,hm,ht⟩:=h3 p hp
  exact ⟨m,by rw [List.getElem?_append_left (gsi hm).1]; exact hm,ht⟩
theorem PV.ordOne {base:List Saying} {b:AW} (h:PV base b) (p q:Int) (t:Str):PV base (ordOne b p q t):=by
  have h1:PV base {b with ord:=b.ord++[(p,q,t)]}:=by
    refine ⟨fun i x hx ha=>(h.log i x hx ha).more,fun n hn=>?_⟩
    obtain ⟨g1,g2⟩:=h.way n hn
    refine ⟨g1,fun e1 e2=>?_⟩
    obtain ⟨m,hm,ht⟩:=g2 e1 e2
    exact ⟨m,by show (b.ord++[(p,q,t)])[n.Seq.toNat]? = _; rw [List.getElem?_append_left (gsi hm).1]; exact hm,ht⟩
  unfold Go.Proofs.YtchmclllcdknjaaGreatDoor.ordOne
  refine (foldI_inv (fun c:AW=>PV base c∧c.ord=b.ord++[(p,q,t)]) _ 0 _ (fun c j x _ hc=>?_) ⟨h1,rfl⟩).1
  cases act c (j:Int) with
  | false=>exact hc
  | true =>
    rw [ctt]
    refine ⟨hc.1.send (fun _=>⟨(p,q,t),?_,rfl⟩),by rw [sendM_ord]; exact hc.2⟩
    rw [hc.2,tnc]
    simp
end Go.Proofs.YtchmclllcdknjaaGreatDoor
namespace Go.Proofs.YtchmclllcdknjaaGreatDoor
open Enc
theorem foldI_at {τ α:Type} {f:τ→Nat→α→τ} (I:Nat→τ→Prop) {l:List α} (h:∀ (i:Nat) x b,l[i]? = some x→I i b→I (i+1) (f b i x)):∀ (k i:Nat) (b:τ),i+k=l.length→I i b→I l.length (foldI f i (l.drop i) b)
  | 0,i,b,hk,hI=>by
    rw [List.drop_of_length_le (by omega)]
    rw [← hk]; exact hI
  | k+1,i,b,hk,hI=>by
    have hi:i < l.length:=by omega
    have hx:l[i]? = some l[i]:=by simp [hi]
    rw [List.drop_eq_getElem_cons hi]
    exact foldI_at I h k (i+1) _ (by omega) (h i _ b hx hI)
theorem PV.order {base:List Saying} {a:AW} (h:PV base a) (fu:Nat) (n:Note):PV base (orderM fu a n):=by
  unfold orderM
  cases hx:a.ps[n.From.toNat]? with
  | none=>exact h
  | some x =>
    simp only
    cases decide (n.Seq > 16777214) with
    | true=>exact h
    | false=>exact foldI_inv (PV base) _ 0 _ (fun b j t _ hb=>hb.ordOne ..) (h.set (y:={x with orders:=(takeV fu x.orders ⟨n.Seq,n.Text⟩).1}) hx rfl fun q=>q)
theorem PV.askGo {base:List Saying} (s f:Int):∀ (k i:Nat) {b:AW},PV base b→PV base (askGo s f k i b)
  | 0,_,_,h=>h
  | k+1,i,b,h=>by
    unfold Go.Proofs.YtchmclllcdknjaaGreatDoor.askGo
    cases hm:b.ord[i]? with
    | none=>exact h
    | some m=>exact PV.askGo s f k (i+1) (h.send fun _=>⟨m,by rw [tnc]; exact hm,rfl⟩)
theorem hear_get {b:AW} {i:Nat} {x:Procs} {m:Int×Int×Str} (hx:b.ps[i]? = some x) (hg:G3 m):∃ f,hearM b (i:Int) (enc3 m)={b with ps:=b.ps.set i {x with log:=x.log++[⟨m.1,m.2.2⟩],from_:=f}}:=by
  unfold hearM
  rw [tnc,hx,prs_enc hg]
  exact ⟨_,rfl⟩
theorem PV.take {base:List Saying} {B fu:Nat} {a:AW} {n:Note} (h:PV base a) (hG:GA B a) (hfu:200 < fu) (hn:GN n) (hk:n.Kind=2) (hv:n.View=a.view.Num) (hnv:NV a.view.Num a.ord n) (ha:act a n.To=true):PV base (takeM fu a n):=by
  have hkn:knw a n.To=true:=by unfold act at ha; rw [Bool.and_eq_true,Bool.and_eq_true] at ha; exact ha.1.1
  obtain ⟨i,hi,hil⟩:=knw_iff.1 hkn
  have hx:a.ps[i]? = some a.ps[i]:=by simp [hil]
  generalize a.ps[i]=x at hx
  have hp:=hG.ps x (mog hx)
  obtain ⟨⟨t1,t2⟩,t3,t4⟩:=h.log i x hx (by rw [← hi]; exact ha)
  obtain ⟨mn,hmn,htn⟩:=hnv.2 hk hv
  unfold takeM
  rw [hi,tnc,hx]
  simp only
  by_cases hs:n.Seq > 16777214
  · rw [dtt hs]; exact h
  · have hsq:=hn.1.seq
    have hml:=enc3_len (hG.ord.2 mn (mog hmn))
    obtain ⟨_,k2,_,_⟩:=take_v (r:=x.to) (p:=⟨n.Seq,n.Text⟩) hfu hp.to.1 ⟨hsq.1,by simp only; omega⟩ (by simp only; rw [htn]; omega)
    rw [dff hs]
    generalize takeV fu x.to ⟨n.Seq,n.Text⟩=r at k2
    obtain ⟨o,ts⟩:=r
    simp only at k2
    rw [cff]
    simp only
    obtain ⟨N,hN⟩:=int_nat t1
    have hts:∀ (j:Nat) t,ts[j]? = some t→∃ m,a.ord[N+j]? = some m∧t=enc3 m∧G3 m:=fun j t hj=>by
      rcases k2.from_ j t hj with q | q
      · obtain ⟨m,e1,e2⟩:=t4 _ q
        refine ⟨m,?_,e2,hG.ord.2 m (mog e1)⟩
        have:((x.to.Next+(j:Int))).toNat=N+j:=by omega
        simp only at e1; rw [this] at e1; exact e1
      · have q1:x.to.Next+(j:Int)=n.Seq:=by injection q
        have q2:t=n.Text:=by injection q
        refine ⟨mn,?_,q2.trans htn,hG.ord.2 mn (mog hmn)⟩
        have:n.Seq.toNat=N+j:=by omega
        rw [this] at hmn; exact hmn
    have fin:=foldI_at (f:=fun (b:AW) (_:Nat) t=>hearM b (i:Int) t) (fun j b=>b.view=a.view∧b.ord=a.ord∧b.way=a.way∧(∀ k:Nat,k≠i→b.ps[k]? = a.ps[k]?)∧∃ y,b.ps[i]? = some y∧y.fallen=x.fallen∧y.to=o∧y.log=x.log++readL ((a.ord.drop N).take j)) (l:=ts) (fun j t b hj hb=>by
      obtain ⟨b1,b2,b3,b4,y,b5,b6,b7,b8⟩:=hb
      obtain ⟨m,e1,rfl,e3⟩:=hts j t hj
      obtain ⟨f,hf⟩:=hear_get b5 e3
      rw [hf]
      have hil2:=(gsi b5).1
      refine ⟨b1,b2,b3,fun k hk=>?_,_,List.getElem?_set_self hil2,b6,b7,?_⟩
      · show (b.ps.set i _)[k]? = _
        rw [List.getElem?_set_ne (fun e=>hk e.symm)]; exact b4 k hk
      · show y.log++[_]=_
        have hd:(a.ord.drop N)[j]? = some m:=by rw [List.getElem?_drop]; exact e1
        rw [b8,List.take_add_one,hd]
        unfold readL
        rw [List.map_append,List.append_assoc]
        rfl) ts.length 0 {a with ps:=a.ps.set i {x with to:=o}} (by omega) ⟨rfl,rfl,rfl,fun k hk=>by
          show (a.ps.set i _)[k]? = _
          rw [List.getElem?_set_ne (fun e=>hk e.symm)],_,List.getElem?_set_self hil,rfl,rfl,by simp [readL]⟩
    rw [List.drop_zero] at fin
    generalize foldI (fun (b:AW) (_:Nat) t=>hearM b (i:Int) t) 0 ts {a with ps:=a.ps.set i {x with to:=o}}=d at fin
    obtain ⟨b1,b2,b3,b4,y,b5,b6,b7,b8⟩:=fin
    have hnx:=k2.next
    have hle:N+ts.length≤a.ord.length:=by
      rcases Nat.eq_zero_or_pos ts.length with e | e
      · omega
      · have hg:ts[ts.length - 1]? = some (ts[ts.length - 1]'(by omega)):=by simp
        obtain ⟨m,e1,_⟩:=hts _ _ hg
        have:=(gsi e1).1
        omega
    have hty:Told base a.ord y:=by
      refine ⟨by rw [b7]; omega,?_,fun p hp=>?_⟩
      · rw [b7,b8,t3,show o.Next.toNat=N+ts.length by omega,show x.to.Next.toNat=N by omega,List.append_assoc]
        unfold readL
        rw [← List.map_append,← List.take_add]
      · rw [b7] at hp
        rcases (k2.rng p hp).2.2 with q | q
        · exact t4 p q
        · rw [q]; exact ⟨mn,hmn,htn⟩
    refine ⟨fun j z hz haz=>?_,fun m hm=>?_⟩
    · rw [b2]
      by_cases c:j=i
      · subst c; rw [b5] at hz; rw [← Option.some.inj hz]; exact hty
      · have hz':=hz
        rw [b4 j c] at hz'
        refine h.log j z hz' ?_
        rw [act_get hz,b1] at haz
        rw [act_get hz']; exact haz
    · rw [b1,b2]; rw [b3] at hm; exact h.way m hm
end Go.Proofs.YtchmclllcdknjaaGreatDoor
namespace Go.Proofs.YtchmclllcdknjaaGreatDoor
open Enc
theorem PV.way_sub {base:List Saying} {a:AW} (h:PV base a) {l:List Note} (hl:∀ n∈l,n∈a.way):PV base {a with way:=l}:=⟨h.log,fun n hn=>h.way n (hl n hn)⟩
theorem PV.deliv {base:List Saying} {B fu:Nat} {a:AW} {n:Note} (h:PV base a) (hG:GA B a) (hfu:200 < fu) (hn:GN n) (hv:n.View=a.view.Num) (hnv:NV a.view.Num a.ord n) (ha:act a n.To=true):PV base (delivM fu a n):=by
  unfold delivM
  cases !knw a n.From with
  | true=>exact h
  | false =>
  cases n.Kind==1 with
  | true=>exact h.order fu n
  | false =>
  cases n.Kind==3 with
  | true=>exact PV.askGo _ _ _ _ h
  | false =>
  cases hk:n.Kind==2 with
  | true=>exact h.take hG hfu hn (by simpa using hk) hv hnv ha
  | false=>exact h
theorem PV.move {base:List Saying} {B fu:Nat} {a:AW} (h:PV base a) (hG:GA B a) (hfu:200 < fu) (k how:Int):PV base (moveM fu a k how).1:=by
  unfold moveM
  cases !(decide (how≥1)&&decide (how≤3)) with
  | true=>exact h
  | false =>
  cases !(decide (k≥0)&&decide (k≤(a.way.length:Int) - 1)) with
  | true=>exact h
  | false =>
  cases (how==3)&&decide (a.way.length=60) with
  | true=>exact h
  | false =>
  cases hx:a.way[k.toNat]? with
  | none=>exact h
  | some n =>
    have hm:=mog hx
    simp only [cff]
    cases how==3 with
    | true =>
      refine h.way_sub fun m hm'=>?_
      rcases List.mem_append.1 hm' with q | q
      · exact q
      · rw [List.mem_singleton.1 q]; exact hm
    | false =>
      rw [cff]
      have hb:PV base {a with way:=a.way.take k.toNat++a.way.drop (k.toNat+1)}:=h.way_sub fun m hm'=>by
        rcases List.mem_append.1 hm' with q | q
        · exact List.mem_of_mem_take q
        · exact List.mem_of_mem_drop q
      cases hq:((how==1)&&(n.View==a.view.Num))&&act a n.To with
      | false=>exact hb
      | true =>
        rw [Bool.and_eq_true,Bool.and_eq_true] at hq
        exact hb.deliv (hG.lose k.toNat) hfu (hG.way.2 n hm) (by simpa using hq.1.2) (h.way n hm) hq.2
theorem isIn_sub {m g:BitVec 8} {i:Nat} (h:isIn (m &&& ~~~g) i=true):isIn m i=true:=by
  have e:∀ x:BitVec 8,isIn x i=x.getLsbD i:=fun x=>by
    unfold isIn
    rw [Bool.eq_iff_iff,beq_iff_eq]
    have:((x >>> i) &&& (1:BitVec 8)).toNat=(x.getLsbD i).toNat:=by
      rw [BitVec.toNat_and,BitVec.toNat_ushiftRight,BitVec.getLsbD,show (1:BitVec 8).toNat=1 from rfl,Nat.and_one_is_mod,Nat.testBit,Nat.shiftRight_eq_div_pow,Nat.and_comm,Nat.and_one_is_mod]
      rcases Nat.mod_two_eq_zero_or_one (x.toNat / 2 ^ i) with q | q <;> rw [q] <;> rfl
    rw [this]
    cases x.getLsbD i <;> simp
  rw [e,BitVec.getLsbD_and,Bool.and_eq_true] at h
  rw [e]; exact h.1
theorem PV.change {base:List Saying} {B:Nat} {a:AW} (h:PV base a) (hG:GA B a):∃ base',PV base' (changeM a).1:=by
  obtain ⟨n1,n2⟩:=next_law a.view (glM a).1 hG.num
  unfold changeM
  generalize glM a=z at n1 n2
  obtain ⟨g,L⟩:=z
  simp only at n1 n2 ⊢
  cases hn:((nextV a.view g).2 != 0) with
  | true=>exact ⟨base,h⟩
  | false =>
    have hn0:(nextV a.view g).2=0:=by simpa using hn
    obtain ⟨m1,m2,m3⟩:=n2 hn0
    refine ⟨L,?_⟩
    rw [cff]
    have fin:=foldI_at (f:=fun (b:AW) i (_:Procs)=>chgOne L b i) (fun j b=>b.view=a.view∧b.way=a.way∧b.ps.length=a.ps.length∧(∀ k:Nat,j≤k→b.ps[k]? = a.ps[k]?)∧∀ (k:Nat) x,k < j→a.ps[k]? = some x→b.ps[k]? = some (bif act a (k:Int) then freshM L k x else {x with orders:=⟨0,[]⟩})) (l:=a.ps) (fun i x b hx hb=>by
      obtain ⟨b1,b2,b3,b4,b5⟩:=hb
      have hx':b.ps[i]? = some x:=by rw [b4 i (Nat.le_refl _)]; exact hx
      have hil:=(gsi hx').1
      have hact:act b (i:Int)=act a (i:Int):=act_same b1 b3 (b4 i (Nat.le_refl _))
      have one:chgOne L b i={b with ps:=b.ps.set i (bif act a (i:Int) then freshM L i x else {x with orders:=⟨0,[]⟩})}:=by unfold chgOne; rw [hx',hact]
      rw [one]
      refine ⟨b1,b2,by simp [b3],fun k hk=>?_,fun k y hk hy=>?_⟩
      · show (b.ps.set i _)[k]? = _
        rw [List.getElem?_set_ne (by omega)]; exact b4 k (by omega)
      · show (b.ps.set i _)[k]? = _
        by_cases c:k=i
        · subst c
          rw [hx] at hy
          rw [← Option.some.inj hy,List.getElem?_set_self hil]
        · rw [List.getElem?_set_ne (fun e=>c e.symm)]; exact b5 k y (by omega) hy) a.ps.length 0 a (by omega) ⟨rfl,rfl,rfl,fun k _=>rfl,fun k x hk=>by omega⟩
    rw [List.drop_zero] at fin
    generalize foldI (fun (b:AW) i (_:Procs)=>chgOne L b i) 0 a.ps a=d at fin
    obtain ⟨b1,b2,b3,b4,b5⟩:=fin
    refine ⟨fun i y hy ha=>?_,fun n hn'=>?_⟩
    · have hil:i < a.ps.length:=by rw [← b3]; exact (gsi hy).1
      have hx:a.ps[i]? = some a.ps[i]:=by simp [hil]
      generalize a.ps[i]=x at hx
      have hy':d.ps[i]? = some y:=hy
      rw [b5 i x hil hx] at hy'
      rw [act_get hy,Bool.and_eq_true] at ha
      have hin:isIn a.view.Members i=true:=by
        have:isIn (nextV a.view g).1.Members i=true:=ha.1
        rw [m3] at this
        exact isIn_sub this
      cases hax:act a (i:Int) with
      | false =>
        rw [hax,cff] at hy'
        rw [act_get hx,hin,Bool.true_and] at hax
        have:=ha.2
        rw [← Option.some.inj hy'] at this
        simp only at this
        rw [this] at hax; cases hax
      | true =>
        rw [hax,ctt] at hy'
        rw [← Option.some.inj hy']
        exact ⟨⟨Int.le_refl _,Int.le_refl _⟩,by show L=L++[]; simp,fun p hp=>by cases hp⟩
    · have hn'':n∈a.way:=by rw [← b2]; exact hn'
      have hle:=(h.way n hn'').1
      refine ⟨by show n.View≤(nextV a.view g).1.Num; omega,fun _ e=>?_⟩
      have e':n.View=(nextV a.view g).1.Num:=e
      omega
theorem PV.do {base:List Saying} {B fu:Nat} {a:AW} (h:PV base a) (hG:GA B a) (hfu:200 < fu) (d:Deed):∃ base',PV base' (doM fu a d).1:=by
  unfold doM
  cases d.Kind==1 with
  | true=>exact ⟨base,h.say ..⟩
  | false =>
  cases d.Kind==2 with
  | true=>exact ⟨base,h.again ..⟩
  | false =>
  cases d.Kind==3 with
  | true=>exact ⟨base,h.move hG hfu ..⟩
  | false =>
  cases d.Kind==4 with
  | true=>exact ⟨base,h.fall ..⟩
  | false =>
  cases d.Kind==5 with
  | true=>exact h.change hG
  | false=>exact ⟨base,h⟩
theorem PV.new {n:Nat}:PV [] (newA n):=by
  refine ⟨fun i x hx _=>?_,fun m hm=>by cases hm⟩
  have:=(List.mem_replicate.1 (mog hx)).2
  rw [this]
  exact ⟨⟨Int.le_refl _,Int.le_refl _⟩,rfl,fun p hp=>by cases hp⟩
theorem PV.same {base:List Saying} {a:AW} (h:PV base a) {i j:Nat} {x y:Procs} (hx:a.ps[i]? = some x) (hy:a.ps[j]? = some y) (ha:act a (i:Int)=true) (hb:act a (j:Int)=true) (hl:x.log.length=y.log.length):x.log=y.log:=by
  obtain ⟨⟨a1,a2⟩,a3,_⟩:=h.log i x hx ha
  obtain ⟨⟨b1,b2⟩,b3,_⟩:=h.log j y hy hb
  rw [a3,b3] at hl
  unfold readL at hl
  simp only [List.length_append,List.length_map,List.length_take] at hl
  have:x.to.Next.toNat=y.to.Next.toNat:=by omega
  rw [a3,b3,this]
end Go.Proofs.YtchmclllcdknjaaGreatDoor
namespace Go.Proofs.YtchmclllcdknjaaGreatDoor
open Enc
def fln (a:AW):List Bool:=a.ps.map (·.fallen)
theorem fl_set {a:AW} {i:Nat} {x y:Procs} (hx:a.ps[i]? = some x) (hf:y.fallen=x.fallen):fln {a with ps:=a.ps.set i y}=fln a:=by
  unfold fln
  show List.map _ (a.ps.set i y)=_
  rw [List.map_set,hf]
  exact set_self (by rw [List.getElem?_map,hx]; rfl)
theorem fl_fold {α:Type} {f:AW→Nat→α→AW} (h:∀ b j x,fln (f b j x)=fln b) (l:List α) (i:Nat) (b:AW):fln (foldI f i l b)=fln b :=
  foldI_inv (fun c=>fln c=fln b) l i b (fun c j x _ hc=>(h c j x).trans hc) rfl
theorem fl_send (a:AW) (k f t s:Int) (x:Str):fln (sendM a k f t s x)=fln a:=by unfold fln; rw [sendM_ps]
theorem fl_ask (s f:Int):∀ (k i:Nat) (b:AW),fln (askGo s f k i b)=fln b
  | 0,_,_=>rfl
  | k+1,i,b=>by
    unfold askGo
    cases b.ord[i]? with
    | none=>rfl
    | some m=>exact (fl_ask s f k (i+1) _).trans (fl_send ..)
theorem fl_hear (b:AW) (p:Int) (t:Str):fln (hearM b p t)=fln b:=by
  unfold hearM
  cases hx:b.ps[p.toNat]? with
  | none=>rfl
  | some x=>exact fl_set hx rfl
theorem fl_chg (L:List Saying) (b:AW) (i:Nat):fln (chgOne L b i)=fln b:=by
  unfold chgOne
  cases hx:b.ps[i]? with
  | none=>rfl
  | some x =>
    refine fl_set hx ?_
    cases act b (i:Int) <;> rfl
theorem fl_deliv (fu:Nat) (a:AW) (n:Note):fln (delivM fu a n)=fln a:=by
  unfold delivM
  cases (!knw a n.From) with
  | true=>rfl
  | false =>
  cases n.Kind==1 with
  | true =>
    simp only [ctt,cff]
    unfold orderM
    cases hx:a.ps[n.From.toNat]? with
    | none=>rfl
    | some x =>
      simp only
      cases decide (n.Seq > 16777214) with
      | true=>rfl
      | false =>
        rw [cff,fl_fold fun b j t=>by unfold fln; rw [(ordOne_like ..).ps]]
        exact fl_set hx rfl
  | false =>
  cases n.Kind==3 with
  | true=>exact fl_ask ..
  | false =>
  cases n.Kind==2 with
  | true =>
    simp only [ctt,cff]
    unfold takeM
    cases hx:a.ps[n.To.toNat]? with
    | none=>rfl
    | some x =>
      simp only
      cases decide (n.Seq > 16777214) with
      | true=>rfl
      | false =>
        rw [cff,fl_fold fun b j t=>fl_hear b n.To t]
        exact fl_set hx rfl
  | false=>rfl
theorem fl_do (fu:Nat) (a:AW) (d:Deed):fln (doM fu a d).1=if (d.Kind==4)=true then fln (fallM a d.Who).1 else fln a:=by
  unfold doM
  cases h1:d.Kind==1 with
  | true =>
    have h4:(d.Kind==4)=false:=by have:=beq_iff_eq.1 h1; rw [this]; rfl
    rw [h4,if_neg (by simp),ctt]
    unfold sayM
    cases (who a d.Who != 0) with
    | true=>rfl
    | false =>
    cases decide (d.Text.length > 150) with
    | true=>rfl
    | false =>
    cases decide (a.way.length=60) with
    | true=>rfl
    | false =>
    cases hx:a.ps[d.Who.toNat]? with
    | none=>rfl
    | some x =>
      simp only [cff]
      cases fullF x.from_ with
      | true=>rfl
      | false=>rw [cff]; simp only; rw [fl_send]; exact fl_set hx rfl
  | false =>
  cases h2:d.Kind==2 with
  | true =>
    have h4:(d.Kind==4)=false:=by have:=beq_iff_eq.1 h2; rw [this]; rfl
    rw [h4,if_neg (by simp)]
    simp only [ctt,cff]; unfold fln; rw [(again_like a d.Who).ps]
  | false =>
  cases h3:d.Kind==3 with
  | true =>
    have h4:(d.Kind==4)=false:=by have:=beq_iff_eq.1 h3; rw [this]; rfl
    rw [h4,if_neg (by simp)]
    simp only [ctt,cff]
    unfold moveM
    cases !(decide (d.How≥1)&&decide (d.How≤3)) with
    | true=>rfl
    | false =>
    cases !(decide (d.Who≥0)&&decide (d.Who≤(a.way.length:Int) - 1)) with
    | true=>rfl
    | false =>
    cases (d.How==3)&&decide (a.way.length=60) with
    | true=>rfl
    | false =>
    cases a.way[d.Who.toNat]? with
    | none=>rfl
    | some n =>
      simp only [cff]
      cases d.How==3 with
      | true=>rfl
      | false =>
        rw [cff]
        simp only
        cases ((d.How==1)&&(n.View==a.view.Num))&&act a n.To with
        | true=>rw [ctt,fl_deliv]; rfl
        | false=>rfl
  | false =>
  cases h4:d.Kind==4 with
  | true=>rfl
  | false =>
  rw [if_neg (by simp)]
  cases d.Kind==5 with
  | true =>
    simp only [ctt,cff]
    unfold changeM
    cases (nextV a.view (glM a).1).2 != 0 with
    | true=>rfl
    | false =>
      rw [cff]
      show fln (foldI _ 0 a.ps a)=_
      rw [fl_fold fun b j x=>fl_chg ..]
  | false=>rfl
def Fell (a:AW) (es:List Int):Prop:=∀ (i:Nat) b,(fln a)[i]? = some b→(b=true↔(i:Int)∈es)
theorem Fell.new {n:Nat}:Fell (newA n) []:=fun i b hb=>by
  have:(List.replicate n false)[i]? = some b:=by
    have e:fln (newA n)=List.replicate n false:=by unfold fln newA; show List.map _ (List.replicate n Procs.zero)=_; rw [List.map_replicate]; rfl
    rw [← e]; exact hb
  have:=(List.mem_replicate.1 (mog this)).2
  rw [this]; simp
theorem Fell.do {fu:Nat} {a:AW} {es:List Int} (h:Fell a es) (d:Deed):Fell (doM fu a d).1 (if ((doM fu a d).2==0&&d.Kind==4)=true then es++[d.Who] else es):=by
  intro i b hb
  rw [fl_do] at hb
  by_cases h4:(d.Kind==4)=true
  · rw [if_pos h4] at hb
    have e4:=beq_iff_eq.1 h4
    have ed:doM fu a d=fallM a d.Who:=by unfold doM; rw [e4]; rfl
    rw [ed,h4,Bool.and_true]
    unfold fallM at hb ⊢
    cases hk:knw a d.Who with
    | false =>
      rw [hk] at hb
      exact h i b hb
    | true =>
      obtain ⟨j,hj,hjl⟩:=knw_iff.1 hk
      have hx:a.ps[j]? = some a.ps[j]:=by simp [hjl]
      generalize a.ps[j]=x at hx
      rw [hk,hj,tnc,hx] at hb
      rw [hj,tnc,hx]
      simp only [Bool.not_true,cff,beq_self_eq_true,if_true] at hb ⊢
      have hb':((fln a).set j true)[i]? = some b:=by
        unfold fln at hb ⊢
        rw [← hb]
        show _=(List.map _ (a.ps.set j _))[i]?
        rw [List.map_set]
      by_cases c:i=j
      · subst c
        rw [List.getElem?_set_self (by unfold fln; rw [List.length_map]; exact hjl)] at hb'
        rw [← Option.some.inj hb']
        simp
      · rw [List.getElem?_set_ne (fun e=>c e.symm)] at hb'
        rw [h i b hb',List.mem_append,List.mem_singleton]
        exact ⟨.inl,fun q=>q.resolve_right (by omega)⟩
  · rw [if_neg h4] at hb
    rw [show (d.Kind==4)=false by simpa using h4,Bool.and_false]
    exact h i b hb
end Go.Proofs.YtchmclllcdknjaaGreatDoor
