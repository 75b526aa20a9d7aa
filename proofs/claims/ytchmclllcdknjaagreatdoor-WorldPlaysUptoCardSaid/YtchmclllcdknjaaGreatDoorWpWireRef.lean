/-
  The code's world, told by plain functions: sayings, and sayings anew.
-/
import Derived.Test.YtchmclllcdknjaaGreatDoorWpWorldA
namespace Go.Proofs.YtchmclllcdknjaaGreatDoor
open Enc
def foldI {τ α:Type} (f:τ→Nat→α→τ):Nat→List α→τ→τ
  | _,[],b=>b
  | i,x::l,b=>foldI f (i+1) l (f b i x)
theorem rangeF_emb {σ τ α:Type} {body:Nat→σ→Option σ} (e:τ→σ) (f:τ→Nat→α→τ) (I:Nat→τ→Prop) {l:List α} (h:∀ (i:Nat) x b,l[i]? = some x→I i b→body i (e b)=some (e (f b i x))∧I (i+1) (f b i x)) :
    ∀ (k i:Nat) (b:τ),i+k=l.length→I i b→rangeF body k i (e b)=some (e (foldI f i (l.drop i) b))∧I l.length (foldI f i (l.drop i) b)
  | 0,i,b,hk,hI=>by
    rw [List.drop_of_length_le (by omega)]
    exact ⟨rfl,by rw [← hk]; exact hI⟩
  | k+1,i,b,hk,hI=>by
    have hi:i < l.length:=by omega
    have hx:l[i]? = some l[i]:=by simp [hi]
    obtain ⟨h1,h2⟩:=h i _ b hx hI
    obtain ⟨h3,h4⟩:=rangeF_emb e f I h k (i+1) _ (by omega) h2
    rw [List.drop_eq_getElem_cons hi]
    refine ⟨?_,h4⟩
    unfold rangeF
    rw [h1,Obs,h3]
    rfl
theorem foldI_inv {τ α:Type} {f:τ→Nat→α→τ} (I:τ→Prop):∀ (l:List α) (i:Nat) (b:τ),(∀ b j x,x∈l→I b→I (f b j x))→I b→I (foldI f i l b)
  | [],_,_,_,hb=>hb
  | x::l,i,b,h,hb=>foldI_inv I l (i+1) _ (fun b j y hy=>h b j y (List.mem_cons_of_mem _ hy)) (h b i x (by simp) hb)
theorem lanyl_eq (l:List Str):slices_ContainsFunc_string_string_lane_long l=some (l.any fun x=>decide ((x.length:Int) > 200)):=by
  unfold slices_ContainsFunc_string_string_lane_long
  have:slices_IndexFunc_string_string_lane_long l=some (idxI (fun x=>decide ((x.length:Int) > 200)) l):=by
    unfold slices_IndexFunc_string_string_lane_long
    refine index_loop _ fun j x hx=>?_
    unfold slices_IndexFunc_string_string_lane_long_B0 lane_long
    rw [lat_nat,hx,Obs,Obs]
    cases decide ((x.length:Int) > 200) <;> rfl
  rw [this,Obs]
  congr 1
  rw [Bool.eq_iff_iff,List.any_eq_true,decide_eq_true_eq]
  rcases idxI_cases (fun x:Str=>decide ((x.length:Int) > 200)) l with ⟨h,h1⟩|⟨i,y,h,h1,h2,_⟩
  · rw [h]
    exact ⟨fun k=>by omega,fun ⟨x,hx,k⟩=>by have:=h1 x hx; rw [this] at k; cases k⟩
  · rw [h]
    exact ⟨fun _=>⟨y,mog h1,h2⟩,fun _=>by omega⟩
structure GF (f:From):Prop where
  base:0≤f.Base∧f.Base+f.Late.length≤16777215
  late:f.Late.length≤16∧∀ t∈f.Late,t.length≤150
theorem GP.gf {B:Nat} {x:Procs} (h:GP B x):GF x.from_:=⟨h.base,h.late⟩
theorem from_ok {f:From} (h:GF f):lane_CheckFrom f=some 0:=by
  have h1:=h.base
  have h2:=h.late
  have ha:(f.Late.any fun x=>decide ((x.length:Int) > 200))=false:=by
    rw [List.any_eq_false]
    intro x hx
    have:=h2.2 x hx
    simp; omega
  unfold lane_CheckFrom
  rw [lin_eq,Obs,dtt (show f.Base≥0 by omega),dtt (show f.Base≤16777215 by omega),dff (show ¬ (f.Late.length:Int) > 16 by omega),lanyl_eq,ha]
  rfl
theorem clone_strs {l:List Str} (h:l.length≤2 ^ 40):slices_Clone_string_string l=some l:=by
  unfold slices_Clone_string_string
  rw [room_ok (by simpa using h)]
  rfl
theorem clone_says {l:List Saying} (h:l.length≤2 ^ 40):slices_Clone_api_Saying_api_Saying l=some l:=by
  unfold slices_Clone_api_Saying_api_Saying
  rw [room_ok (by simpa using h)]
  rfl
def fullF (f:From):Bool:=decide (f.Late.length=16)||decide (f.Base+f.Late.length≥16777215)
theorem put_law {f:From} {t:Str} (h:GF f) (ht:t.length≤150):lane_Put f t=some (bif fullF f then ((⟨0,[]⟩:From),8) else ((⟨f.Base,f.Late++[t]⟩:From),0)):=by
  have h1:=h.base
  have h2:=h.late
  unfold lane_Put
  rw [from_ok h,Obs,long_eq,Obs,dff (show ¬ (t.length:Int) > 200 by omega),or_some,Obs,w64_id (show -9223372036854775808≤f.Base+(f.Late.length:Int) by omega) (by omega),clone_strs (by omega),Obs,room_ok (by simp; omega),Obs,Let_eq]
  have e:(((f.Late.length:Int)==16)||decide (f.Base+(f.Late.length:Int)≥16777215))=fullF f:=by
    unfold fullF
    congr 1
    rw [Bool.eq_iff_iff]; simp; omega
  rw [e]
  cases fullF f <;> rfl
def heardV (f:From) (k:Int):From:=bif decide (k > f.Base+f.Late.length) then f else ⟨f.Base+max (k - f.Base) 0,f.Late.drop (max (k - f.Base) 0).toNat⟩
theorem heard_law {f:From} {k:Int} (h:GF f) (hk:-1000000000≤k∧k≤1000000000):∃ g c,lane_Heard f k=some (g,c)∧(bif c==0 then g else f)=heardV f k:=by
  have h1:=h.base
  have h2:=h.late
  unfold lane_Heard heardV
  rw [from_ok h,Obs]
  simp only [bne_self_eq_false,cff]
  rw [w64_id (show -9223372036854775808≤f.Base+(f.Late.length:Int) by omega) (by omega)]
  by_cases c:k > f.Base+f.Late.length
  · rw [dtt c]
    exact ⟨_,_,rfl,rfl⟩
  · rw [dff c,cff,cff,w64_id (show -9223372036854775808≤k - f.Base by omega) (by omega)]
    obtain ⟨n,hn⟩:∃ n:Nat,max (k - f.Base) 0=(n:Int):=int_nat (by omega)
    rw [hn]
    have hnl:n≤f.Late.length:=by omega
    have ec:cutL f.Late (n:Int) (f.Late.length:Int)=some (f.Late.drop n):=by
      unfold cutL; rw [if_pos (by omega)]
      simp only [tnc]
      rw [List.take_of_length_le (by simp)]
    rw [ec,Obs,clone_strs (by simp; omega),Obs,Let_eq,w64_id (show -9223372036854775808≤f.Base+(n:Int) by omega) (by omega)]
    exact ⟨_,_,rfl,rfl⟩
theorem heardV_gf {f:From} {k:Int} (h:GF f):GF (heardV f k):=by
  have h1:=h.base
  have h2:=h.late
  unfold heardV
  by_cases c:k > f.Base+f.Late.length
  · rw [dtt c]; exact h
  · rw [dff c,cff]
    refine ⟨⟨by simp only; omega,?_⟩,?_,fun t ht=>h2.2 t (List.mem_of_mem_drop ht)⟩
    · simp only [List.length_drop]; omega
    · simp only [List.length_drop]; omega
def sayM (a:AW) (p:Int) (t:Str):AW×Int :=
  bif who a p != 0 then (a,who a p) else
  bif decide (t.length > 150) then (a,2) else
  bif decide (a.way.length=60) then (a,8) else
  match a.ps[p.toNat]? with
  | none=>(a,0)
  | some x=>bif fullF x.from_ then (a,8) else
    (sendM {a with ps:=a.ps.set p.toNat {x with from_:=⟨x.from_.Base,x.from_.Late++[t]⟩}} 1 p (sq a.view) (x.from_.Base+x.from_.Late.length) t,0)
theorem say_law {B:Nat} {a:AW} (h:GA B a) (p:Int) (t:Str):world_World_Say a.w p t=some ((sayM a p t).1.w.all,(sayM a p t).1.w.way,(sayM a p t).1.w,(sayM a p t).2):=by
  unfold world_World_Say sayM
  rw [working_law h.n,Obs]
  cases hw:(who a p != 0) with
  | true=>rfl
  | false =>
    obtain ⟨i,x,rfl,hx,ha⟩:=who_zero hw
    rw [cff,cff]
    by_cases ht:t.length > 150
    · rw [dtt ht,dtt (show (t.length:Int) > 150 by omega)]; rfl
    · rw [dff ht,dff (show ¬ (t.length:Int) > 150 by omega),cff,cff]
      have hl:(((a.w.way).length:Int)==60)=decide (a.way.length=60):=by
        have:a.w.way.length=a.way.length:=List.length_map _
        rw [this,Bool.eq_iff_iff]; simp; omega
      rw [hl]
      by_cases h6:a.way.length=60
      · rw [dtt h6]; rfl
      · have e:a.w.all=a.ps:=rfl
        have hg:=(h.ps x (mog hx)).gf
        have hb:=hg.base
        rw [dff h6,cff,cff,e,lat_nat,tnc,hx,Obs,put_law hg (by omega),Obs]
        simp only
        cases hf:fullF x.from_ with
        | true=>rfl
        | false =>
          simp only [cff,bne_self_eq_false,Obs,Let_eq]
          have ew:({a.w with all:=a.ps.set i ({x with from_:=(⟨x.from_.Base,x.from_.Late++[t]⟩:From)}:Procs)}:Wld)=({a with ps:=a.ps.set i {x with from_:=⟨x.from_.Base,x.from_.Late++[t]⟩}}:AW).w:=rfl
          have eb:w64 ((w64 (x.from_.Base+((x.from_.Late++[t]).length:Int))) - 1)=x.from_.Base+x.from_.Late.length:=by
            have hl1:((x.from_.Late++[t]).length:Int)=(x.from_.Late.length:Int)+1:=by simp
            rw [hl1,w64_id (x:=x.from_.Base+((x.from_.Late.length:Int)+1)) (by omega) (by omega),w64_id (by omega) (by omega)]
            omega
          have sv:(({a with ps:=a.ps.set i {x with from_:=⟨x.from_.Base,x.from_.Late++[t]⟩}}:AW).w).view=a.view:=rfl
          rw [ew,seq_law,Obs,eb,sv,send_law (a:={a with ps:=a.ps.set i {x with from_:=⟨x.from_.Base,x.from_.Late++[t]⟩}}) h.way.1,Obs]
          refine congrArg some ?_
          generalize hb:sendM ({a with ps:=a.ps.set i {x with from_:=⟨x.from_.Base,x.from_.Late++[t]⟩}}:AW) 1 (i:Int) (sq a.view) (x.from_.Base+x.from_.Late.length) t=b
          have b1:b.ps=a.ps.set i {x with from_:=⟨x.from_.Base,x.from_.Late++[t]⟩}:=by rw [← hb,sendM_ps]
          have b2:b.ord=a.ord:=by rw [← hb,sendM_ord]
          show (a.ps.set i _,b.w.way,({b.w with all:=a.ps.set i _,ordered:=a.w.ordered,way:=b.w.way}:Wld),(0:Int))=(b.w.all,b.w.way,b.w,0)
          rw [← b1]
          unfold AW.w
          simp only
          rw [b2]
theorem GA.say {B:Nat} {a:AW} (h:GA B a) (p:Int) (t:Str):GA B (sayM a p t).1:=by
  unfold sayM
  cases hw:(who a p != 0) with
  | true=>exact h
  | false =>
    obtain ⟨i,x,rfl,hx,ha⟩:=who_zero hw
    rw [cff]
    by_cases ht:t.length > 150
    · rw [dtt ht]; exact h
    · rw [dff ht,cff]
      by_cases h6:a.way.length=60
      · rw [dtt h6]; exact h
      · rw [dff h6,cff,tnc,hx]
        simp only
        have hp:=h.ps x (mog hx)
        cases hf:fullF x.from_ with
        | true=>exact h
        | false =>
          rw [cff]
          unfold fullF at hf
          simp only [Bool.or_eq_false_iff,decide_eq_false_iff_not] at hf
          have h1:=hp.base
          have h2:=hp.late
          refine GA.send (k:=1) (x:=t) (h.set i (x:={x with from_:=⟨x.from_.Base,x.from_.Late++[t]⟩}) ⟨hp.log,hp.txt,⟨h1.1,?_⟩,⟨?_,fun u hu=>?_⟩,hp.to,hp.ords⟩) (fun _=>by omega) (fun q=>absurd q (by decide))
          · simp only [List.length_append,List.length_cons,List.length_nil]; omega
          · simp only [List.length_append,List.length_cons,List.length_nil]; omega
          · rcases List.mem_append.1 hu with q | q
            · exact h2.2 u q
            · rw [List.mem_singleton.1 q]; omega
def fallM (a:AW) (p:Int):AW×Int :=
  bif !knw a p then (a,1) else
  match a.ps[p.toNat]? with
  | none=>(a,0)
  | some x=>({a with ps:=a.ps.set p.toNat {x with fallen:=true}},0)
theorem fall_law {B:Nat} {a:AW} (h:GA B a) (p:Int):world_World_Fall a.w p=some ((fallM a p).1.w.all,(fallM a p).1.w,(fallM a p).2):=by
  unfold world_World_Fall fallM
  rw [known_law h.n,Obs]
  cases hk:knw a p with
  | false=>rfl
  | true =>
    obtain ⟨i,rfl,hi⟩:=knw_iff.1 hk
    have hx:a.ps[i]? = some a.ps[i]:=by simp [hi]
    generalize a.ps[i]=x at hx
    have e:a.w.all=a.ps:=rfl
    simp only [Bool.not_true,cff,bne_self_eq_false]
    rw [e,lat_nat,tnc,hx,Obs,Let_eq]
    rfl
theorem GA.fall {B:Nat} {a:AW} (h:GA B a) (p:Int):GA B (fallM a p).1:=by
  unfold fallM
  cases hk:knw a p with
  | false=>exact h
  | true =>
    obtain ⟨i,rfl,hi⟩:=knw_iff.1 hk
    have hx:a.ps[i]? = some a.ps[i]:=by simp [hi]
    generalize a.ps[i]=x at hx
    rw [tnc,hx]
    simp only [Bool.not_true,cff]
    have hp:=h.ps x (mog hx)
    exact h.set i ⟨hp.log,hp.txt,hp.base,hp.late,hp.to,hp.ords⟩
def sndM (b:Int):Nat→List Str→List Parcel
  | _,[]=>[]
  | i,t::l=>if i < 4 then ⟨b+i,t⟩::sndM b (i+1) l else sndM b (i+1) l
theorem sends_loop {f:From} (h:GF f):∀ (k i:Nat) (z:List Parcel),i+k=f.Late.length→z.length≤i→rangeF (lane_Sends_B0 f 4) k i z=some (z++sndM f.Base i (f.Late.drop i))
  | 0,i,z,hk,_=>by
    rw [List.drop_of_length_le (by omega)]
    show some z=some (z++[])
    rw [List.append_nil]
  | k+1,i,z,hk,hz=>by
    have hi:i < f.Late.length:=by omega
    have hx:f.Late[i]? = some f.Late[i]:=by simp [hi]
    have h1:=h.base
    have h2:=h.late.1
    rw [List.drop_eq_getElem_cons hi]
    generalize f.Late[i]=t at hx
    unfold rangeF
    by_cases c:i < 4
    · have hb:lane_Sends_B0 f 4 i z=some (z++[⟨f.Base+i,t⟩]):=by
        unfold lane_Sends_B0
        rw [lat_nat,hx,Obs,dtt (show (i:Int) < 4 by omega),ctt,w64_id (show -9223372036854775808≤f.Base+(i:Int) by omega) (by omega),room_ok (by simp; omega),Obs]
      rw [hb,Obs,sends_loop h k (i+1) _ (by omega) (by simp; omega)]
      conv=>rhs; unfold sndM
      rw [if_pos c,List.append_assoc]
      rfl
    · have hb:lane_Sends_B0 f 4 i z=some z:=by
        unfold lane_Sends_B0
        rw [lat_nat,hx,Obs,dff (show ¬ (i:Int) < 4 by omega),cff]
      rw [hb,Obs,sends_loop h k (i+1) _ (by omega) (by omega)]
      conv=>rhs; unfold sndM
      rw [if_neg c]
theorem sends_law {f:From} (h:GF f):lane_Sends f 4=some (sndM f.Base 0 f.Late,0):=by
  unfold lane_Sends
  rw [from_ok h,Obs]
  simp only [bne_self_eq_false,cff]
  rw [sends_loop h f.Late.length 0 [] (by omega) (by simp),Obs]
  rfl
theorem sndM_mem {b:Int}:∀ {i:Nat} {l:List Str} {q:Parcel},q∈sndM b i l→q.Text∈l
  | _,[],_,h=>by simp [sndM] at h
  | i,t::l,q,h=>by
    unfold sndM at h
    split at h
    · rcases List.mem_cons.1 h with e | e
      · rw [e]; simp
      · exact List.mem_cons_of_mem _ (sndM_mem e)
    · exact List.mem_cons_of_mem _ (sndM_mem h)
def againM (a:AW) (p:Int):AW×Int :=
  bif who a p != 0 then (a,who a p) else
  match a.ps[p.toNat]? with
  | none=>(a,0)
  | some x=>(sendM (foldI (fun b _ (q:Parcel)=>sendM b 1 p (sq a.view) q.Seq q.Text) 0 (sndM x.from_.Base 0 x.from_.Late) a) 3 p (sq a.view) x.to.Next [],0)
structure Like (a b:AW):Prop where
  view:b.view=a.view
  ps:b.ps=a.ps
  ord:b.ord=a.ord
theorem Like.w {a b:AW} (h:Like a b):({b.w with all:=a.w.all,ordered:=a.w.ordered,way:=b.w.way}:Wld)=b.w:=by
  unfold AW.w; simp only; rw [h.ps,h.ord]
theorem Like.send {a b:AW} (h:Like a b) (k f t s:Int) (x:Str):Like a (sendM b k f t s x):=⟨(sendM_view ..).trans h.view,(sendM_ps ..).trans h.ps,(sendM_ord ..).trans h.ord⟩
theorem again_law {B:Nat} {a:AW} (h:GA B a) (p:Int):world_World_Again a.w p=some ((againM a p).1.w.way,(againM a p).1.w,(againM a p).2):=by
  unfold world_World_Again againM
  rw [working_law h.n,Obs]
  cases hw:(who a p != 0) with
  | true=>rfl
  | false =>
    obtain ⟨i,x,rfl,hx,ha⟩:=who_zero hw
    have e:a.w.all=a.ps:=rfl
    have hp:=h.ps x (mog hx)
    rw [cff,cff,e,lat_nat,tnc,hx,Obs,sends_law hp.gf,Obs]
    simp only
    obtain ⟨l1,l2⟩:=rangeF_emb (body:=world_World_Again_B0 a.w (i:Int) (sndM x.from_.Base 0 x.from_.Late,0)) (fun b:AW=>(b.w,b.w.way)) (fun b _ (q:Parcel)=>sendM b 1 (i:Int) (sq a.view) q.Seq q.Text) (fun _ b=>Like a b∧GA B b) (l:=sndM x.from_.Base 0 x.from_.Late) (fun j q b hq hb=>by
      obtain ⟨hl,hg⟩:=hb
      unfold world_World_Again_B0
      simp only
      rw [lat_nat,hq,Obs,hl.w,seq_law,Obs,show b.w.view=a.view from hl.view,send_law hg.way.1,Obs]
      have hl2:=hl.send 1 (i:Int) (sq a.view) q.Seq q.Text
      exact ⟨by rw [hl2.w],hl2,hg.send (fun _=>hp.late.2 _ (sndM_mem (mog hq))) (fun c=>absurd c (by decide))⟩) (sndM x.from_.Base 0 x.from_.Late).length 0 a (by omega) ⟨⟨rfl,rfl,rfl⟩,h⟩
    rw [List.drop_zero] at l1 l2
    generalize hb:foldI (fun b _ (q:Parcel)=>sendM b 1 (i:Int) (sq a.view) q.Seq q.Text) 0 (sndM x.from_.Base 0 x.from_.Late) a=b at l1 l2
    have l1':rangeF (world_World_Again_B0 a.w (i:Int) (sndM x.from_.Base 0 x.from_.Late,0)) (sndM x.from_.Base 0 x.from_.Late).length 0 (a.w,a.w.way)=some (b.w,b.w.way):=l1
    obtain ⟨hl,hg⟩:=l2
    rw [l1',Obs]
    simp only
    have hlw:({b.w with all:=a.ps,ordered:=a.w.ordered,way:=b.w.way}:Wld)=b.w:=hl.w
    rw [hlw,seq_law,Obs,show b.w.view=a.view from hl.view,Obs,send_law hg.way.1,Obs]
    have hl2:=hl.send 3 (i:Int) (sq a.view) x.to.Next []
    have hlw2:({(sendM b 3 (i:Int) (sq a.view) x.to.Next []).w with all:=a.ps,ordered:=a.w.ordered,way:=(sendM b 3 (i:Int) (sq a.view) x.to.Next []).w.way}:Wld)=(sendM b 3 (i:Int) (sq a.view) x.to.Next []).w:=hl2.w
    simp only
    rw [hlw2]
theorem GA.again {B:Nat} {a:AW} (h:GA B a) (p:Int):GA B (againM a p).1:=by
  unfold againM
  cases hw:(who a p != 0) with
  | true=>exact h
  | false =>
    obtain ⟨i,x,rfl,hx,ha⟩:=who_zero hw
    rw [cff,tnc,hx]
    simp only
    have hp:=h.ps x (mog hx)
    refine GA.send (foldI_inv (GA B) _ 0 a (fun b j q hq hb=>hb.send (fun _=>hp.late.2 _ (sndM_mem hq)) (fun c=>absurd c (by decide))) h) (fun c=>absurd c (by decide)) (fun c=>absurd c (by decide))
end Go.Proofs.YtchmclllcdknjaaGreatDoor
namespace Go.Proofs.YtchmclllcdknjaaGreatDoor
open Enc
def takeV (fu:Nat) (r:To) (p:Parcel):To×List Str :=
  match lane_Take fu r p with
  | some (o,ts,_)=>(o,ts)
  | none=>(r,[])
theorem take_v {r:To} {p:Parcel} {fu:Nat} (hfu:200 < fu) (h:GoodT r) (hp:0≤p.Seq∧p.Seq≤16777214) (ht:p.Text.length≤200) :
    lane_Take fu r p=some ((takeV fu r p).1,(takeV fu r p).2,0)∧Took r p (takeV fu r p).1 (takeV fu r p).2∧(p.Seq=r.Next→1≤(takeV fu r p).2.length)∧(takeV fu r p).2.length≤17:=by
  obtain ⟨o,ts,e,h1,h2,h3⟩:=take_code hfu h hp ht
  have:takeV fu r p=(o,ts):=by unfold takeV; rw [e]
  rw [this]
  exact ⟨e,h1,h2,h3⟩
theorem take_over {r:To} {p:Parcel} {fu:Nat} (h:GoodT r) (hp:p.Seq > 16777214):∃ o,lane_Take fu r p=some (o,[],1):=by
  unfold lane_Take
  rw [to_ok h,Obs]
  simp only [bne_self_eq_false,cff]
  rw [lin_eq,Obs,dff (show ¬ p.Seq≤16777214 by omega),Bool.and_false,Bool.not_false,ctt]
  exact ⟨_,rfl⟩
theorem took_good {r:To} {p:Parcel} {o:To} {ts:List Str} (h:GoodT r) (hs:∀ x∈r.Early,x.Seq≤16777214) (hp:p.Seq≤16777214) (ht:Took r p o ts):GoodT o:=by
  have h1:=ht.next
  have hlo:=h.lo
  have hhi:=h.hi
  refine ⟨by omega,?_,ht.len,ht.inc,fun x hx=>⟨(ht.rng x hx).1,by have:=(ht.rng x hx).2.1; omega⟩,ht.txt⟩
  rcases Nat.eq_zero_or_pos ts.length with e | e
  · omega
  · have hg:ts[ts.length - 1]? = some (ts[ts.length - 1]'(by omega)):=by simp
    rcases ht.from_ _ _ hg with q | q
    · have:=hs _ q; simp only at this; omega
    · rw [← q] at hp; simp only at hp; omega
def ordOne (b:AW) (p q:Int) (t:Str):AW :=
  foldI (fun (c:AW) j (_:Procs)=>bif act c (j:Int) then sendM c 2 (sq b.view) (j:Int) (b.ord.length:Int) (enc3 (p,q,t)) else c) 0 b.ps {b with ord:=b.ord++[(p,q,t)]}
theorem ordOne_like (b:AW) (p q:Int) (t:Str):Like {b with ord:=b.ord++[(p,q,t)]} (ordOne b p q t):=by
  unfold ordOne
  refine foldI_inv (Like {b with ord:=b.ord++[(p,q,t)]}) _ 0 _ (fun c j x _ hc=>?_) ⟨rfl,rfl,rfl⟩
  cases act c (j:Int)
  · exact hc
  · exact hc.send ..
theorem GA.ordOne {B:Nat} {b:AW} (h:GA B b) {p q:Int} {t:Str} (hg:G3 (p,q,t)):GA (B+1) (ordOne b p q t):=by
  have h1:GA (B+1) {b with ord:=b.ord++[(p,q,t)]}:=by
    refine ⟨h.n,fun x hx=>(h.ps x hx).mono (by omega),⟨?_,fun m hm=>?_⟩,h.way,h.num⟩
    · have:=h.ord.1; simp only [List.length_append,List.length_cons,List.length_nil]; omega
    · rcases List.mem_append.1 hm with e | e
      · exact h.ord.2 m e
      · rw [List.mem_singleton.1 e]; exact hg
  unfold Go.Proofs.YtchmclllcdknjaaGreatDoor.ordOne
  refine foldI_inv (GA (B+1)) _ 0 _ (fun c j x _ hc=>?_) h1
  cases act c (j:Int)
  · exact hc
  · exact hc.send (fun e=>absurd e (by decide)) (fun _=>⟨_,hg,rfl⟩)
def orderM (fu:Nat) (a:AW) (n:Note):AW :=
  match a.ps[n.From.toNat]? with
  | none=>a
  | some x=>bif decide (n.Seq > 16777214) then a else
    foldI (fun b i t=>ordOne b n.From (x.orders.Next+(i:Int)) t) 0 (takeV fu x.orders ⟨n.Seq,n.Text⟩).2 {a with ps:=a.ps.set n.From.toNat {x with orders:=(takeV fu x.orders ⟨n.Seq,n.Text⟩).1}}
theorem order_step {B:Nat} {b:AW} {n:Note} {x8:Procs} {l:List Str} {i:Nat} {t:Str} (h:GA B b) (hB:B≤2 ^ 35) (hl:l[i]? = some t) (hg:G3 (n.From,x8.orders.Next+(i:Int),t)) :
    world_World_order_B0 n x8 l b.ps i (b.w,b.w.ordered,b.w.way)=some ((ordOne b n.From (x8.orders.Next+(i:Int)) t).w,(ordOne b n.From (x8.orders.Next+(i:Int)) t).w.ordered,(ordOne b n.From (x8.orders.Next+(i:Int)) t).w.way):=by
  obtain ⟨g1,g2,g3⟩:=hg
  simp only at g1 g2 g3
  obtain ⟨i1,_,i2,_⟩:=itoa_law g1.1 (show n.From < 1000000000 by omega)
  obtain ⟨j1,_,j2,_⟩:=itoa_law g2.1 (show x8.orders.Next+(i:Int) < 1000000000 by omega)
  have hol:b.w.ordered.length=b.ord.length:=List.length_map _
  have ho:=h.ord.1
  unfold world_World_order_B0
  simp only
  rw [lat_nat,hl,Obs,i1,Obs,room_ok (by simp; omega),Obs]
  by_cases hx:True
  · have hw:w64 (x8.orders.Next+(i:Int))=x8.orders.Next+(i:Int):=w64_id (by omega) (by omega)
    rw [hw,j1,Obs,room_ok (by simp only [List.length_append,List.length_cons,List.length_nil]; omega),Obs,room_ok (by simp only [List.length_append,List.length_cons,List.length_nil]; omega),Obs,
      room_ok (by simp only [List.length_append,List.length_cons,List.length_nil]; omega),Obs,room_ok (by simp only [List.length_cons,List.length_nil]; omega),Obs]
    obtain ⟨b1,hb1⟩:∃ b1:AW,b1={b with ord:=b.ord++[(n.From,x8.orders.Next+(i:Int),t)]}:=⟨_,rfl⟩
    have he:(((itS n.From++([58]:Str))++itS (x8.orders.Next+(i:Int)))++([58]:Str))++t=enc3 (n.From,x8.orders.Next+(i:Int),t):=rfl
    rw [he]
    have hb1w:b1.w=({b.w with all:=b.ps,ordered:=b.w.ordered++[enc3 (n.From,x8.orders.Next+(i:Int),t)],way:=b.w.way}:Wld):=by
      rw [hb1]
      unfold AW.w
      simp only [List.map_append,List.map_cons,List.map_nil]
    have hbo:b1.w.ordered=b.w.ordered++[enc3 (n.From,x8.orders.Next+(i:Int),t)]:=by rw [hb1w]
    have hga:b1.way.length≤60:=by rw [hb1]; exact h.way.1
    have hn:1≤b1.ps.length∧b1.ps.length≤6:=by rw [hb1]; exact h.n
    obtain ⟨l1,l2⟩:=rangeF_emb (body:=world_World_order_B2 b.ps b.w.ordered t (itS n.From) (itS (x8.orders.Next+(i:Int)))) (fun c:AW=>(c.w,c.w.way))
      (fun (c:AW) j (_:Procs)=>bif act c (j:Int) then sendM c 2 (sq b.view) (j:Int) (b.ord.length:Int) (enc3 (n.From,x8.orders.Next+(i:Int),t)) else c) (fun _ c=>Like b1 c∧c.way.length≤60) (l:=b.ps) (fun j y c _ hc=>by
        obtain ⟨hc1,hc2⟩:=hc
        have hcw:({c.w with all:=b.ps,ordered:=b.w.ordered++[enc3 (n.From,x8.orders.Next+(i:Int),t)],way:=c.w.way}:Wld)=c.w:=by
          have:=hc1.w
          rw [hbo,show b1.w.all=b.ps by rw [hb1]; rfl] at this
          exact this
        unfold world_World_order_B2
        simp only
        rw [he,hcw,active_law (by rw [hc1.ps]; exact hn),Obs]
        cases hac:act c (j:Int) with
        | false=>exact ⟨rfl,hc1,hc2⟩
        | true =>
          have hsl:w64 (((b.w.ordered++[enc3 (n.From,x8.orders.Next+(i:Int),t)]).length:Int) - 1)=(b.ord.length:Int):=by
            have hl1:((b.w.ordered++[enc3 (n.From,x8.orders.Next+(i:Int),t)]).length:Int)=(b.ord.length:Int)+1:=by rw [List.length_append,hol]; rfl
            rw [hl1,w64_id (by omega) (by omega)]; omega
          have hv:c.w.view=b.view:=by show c.view=b.view; rw [hc1.view,hb1]
          rw [ctt,ctt,seq_law,Obs,hv,hsl,send_law hc2,Obs]
          have hl2:=hc1.send 2 (sq b.view) (j:Int) (b.ord.length:Int) (enc3 (n.From,x8.orders.Next+(i:Int),t))
          have hcw2:=hl2.w
          rw [hbo,show b1.w.all=b.ps by rw [hb1]; rfl] at hcw2
          refine ⟨by simp only; rw [hcw2],hl2,?_⟩
          unfold sendM
          cases hq:(okN (noteM c.view 2 (sq b.view) (j:Int) (b.ord.length:Int) (enc3 (n.From,x8.orders.Next+(i:Int),t)))&&decide (c.way.length < 60)) with
          | false=>exact hc2
          | true =>
            rw [Bool.and_eq_true,decide_eq_true_eq] at hq
            show (c.way++[_]).length≤60
            rw [List.length_append]; simp; omega) b.ps.length 0 b1 (by omega) ⟨⟨rfl,rfl,rfl⟩,hga⟩
    rw [List.drop_zero] at l1 l2
    have hfold:foldI (fun (c:AW) j (_:Procs)=>bif act c (j:Int) then sendM c 2 (sq b.view) (j:Int) (b.ord.length:Int) (enc3 (n.From,x8.orders.Next+(i:Int),t)) else c) 0 b.ps b1=ordOne b n.From (x8.orders.Next+(i:Int)) t:=by
      rw [hb1]; rfl
    rw [hfold] at l1 l2
    generalize ordOne b n.From (x8.orders.Next+(i:Int)) t=d at l1 l2
    have l1':rangeF (world_World_order_B2 b.ps b.w.ordered t (itS n.From) (itS (x8.orders.Next+(i:Int)))) b.ps.length 0 (({b.w with all:=b.ps,ordered:=b.w.ordered++[enc3 (n.From,x8.orders.Next+(i:Int),t)],way:=b.w.way}:Wld),b.w.way)=some (d.w,d.w.way):=by
      rw [← hb1w]
      have:b1.w.way=b.w.way:=by rw [hb1]; rfl
      rw [← this]; exact l1
    rw [l1',Obs]
    simp only
    have hdw:=l2.1.w
    rw [hbo,show b1.w.all=b.ps by rw [hb1]; rfl] at hdw
    have hdo:d.w.ordered=b.w.ordered++[enc3 (n.From,x8.orders.Next+(i:Int),t)]:=by rw [← hbo]; show d.ord.map enc3=_; rw [l2.1.ord]; rfl
    rw [hdw,hdo]
  · exact absurd trivial hx
end Go.Proofs.YtchmclllcdknjaaGreatDoor
namespace Go.Proofs.YtchmclllcdknjaaGreatDoor
open Enc
theorem order_law {B fu:Nat} {a:AW} {n:Note} (hfu:200 < fu) (h:GA B a) (hB:B≤2 ^ 34) (hn:GN n) (hk:n.Kind=1) (hkn:knw a n.From=true) :
    world_World_order fu a.w n=some ((orderM fu a n).w.all,(orderM fu a n).w.ordered,(orderM fu a n).w.way,(orderM fu a n).w)∧GA (B+17) (orderM fu a n):=by
  obtain ⟨i,hi,hil⟩:=knw_iff.1 hkn
  have hx:a.ps[i]? = some a.ps[i]:=by simp [hil]
  generalize a.ps[i]=x at hx
  have hp:=h.ps x (mog hx)
  have e:a.w.all=a.ps:=rfl
  have hsq:=hn.1.seq
  have hfr:=hn.1.from_
  have ht:=hn.2.1 hk
  unfold world_World_order orderM
  rw [e,hi,lat_nat,hx,Obs,tnc,hx]
  simp only
  have ep:({Parcel.zero with Seq:=n.Seq,Text:=n.Text}:Parcel)=⟨n.Seq,n.Text⟩:=rfl
  rw [ep]
  by_cases hs:n.Seq > 16777214
  · obtain ⟨o,ho⟩:=take_over (fu:=fu) (p:=⟨n.Seq,n.Text⟩) hp.ords.1 hs
    rw [ho,dtt hs]
    exact ⟨rfl,h.mono (by omega)⟩
  · have hs':n.Seq≤16777214:=by omega
    obtain ⟨t1,t2,_,t4⟩:=take_v (r:=x.orders) (p:=⟨n.Seq,n.Text⟩) hfu hp.ords.1 ⟨hsq.1,hs'⟩ (by simp only; omega)
    have hog:=took_good hp.ords.1 (fun y hy=>(hp.ords.2 y hy).1) hs' t2
    have hnx:=hp.ords.1.hi
    have hnl:=hp.ords.1.lo
    rw [t1,dff hs]
    generalize takeV fu x.orders ⟨n.Seq,n.Text⟩=r at t2 t4 hog
    obtain ⟨o,ts⟩:=r
    simp only at t2 t4 hog
    simp only [Obs,Let_eq,bne_self_eq_false,cff]
    have hop:GP B {x with orders:=o}:=⟨hp.log,hp.txt,hp.base,hp.late,hp.to,hog,fun y hy=>by
      rcases (t2.rng y hy).2.2 with q | q
      · exact hp.ords.2 y q
      · rw [q]; exact ⟨hs',ht⟩⟩
    have hga:=h.set i hop
    obtain ⟨l1,l2⟩:=rangeF_emb (body:=world_World_order_B0 n x ts (a.ps.set i {x with orders:=o})) (fun b:AW=>(b.w,b.w.ordered,b.w.way)) (fun b j t=>ordOne b (i:Int) (x.orders.Next+(j:Int)) t)
      (fun j b=>b.ps=a.ps.set i {x with orders:=o}∧GA (B+j) b) (l:=ts) (fun j t b hj hb=>by
        obtain ⟨hb1,hb2⟩:=hb
        have hjl:=(gsi hj).1
        have hg:G3 (n.From,x.orders.Next+(j:Int),t):=by
          refine ⟨hfr,⟨by simp only; omega,by simp only; omega⟩,?_⟩
          rcases t2.from_ j t hj with q | q
          · exact (hp.ords.2 _ q).2
          · have:t=n.Text:=by injection q
            rw [this]; exact ht
        have hst:=order_step (l:=ts) hb2 (by omega) hj hg
        rw [hb1] at hst
        refine ⟨by rw [← hi]; exact hst,?_,?_⟩
        · rw [(ordOne_like ..).ps]; exact hb1
        · rw [← hi]; exact hb2.ordOne hg) ts.length 0 {a with ps:=a.ps.set i {x with orders:=o}} (by omega) ⟨rfl,hga⟩
    rw [List.drop_zero] at l1 l2
    generalize foldI (fun (b:AW) j t=>ordOne b (i:Int) (x.orders.Next+(j:Int)) t) 0 ts {a with ps:=a.ps.set i {x with orders:=o}}=d at l1 l2
    have l1':rangeF (world_World_order_B0 n x ts (a.ps.set i ({x with orders:=o}:Procs))) ts.length 0 (({a.w with all:=a.ps.set i ({x with orders:=o}:Procs)}:Wld),a.w.ordered,a.w.way)=some (d.w,d.w.ordered,d.w.way):=l1
    have l1'':rangeF (world_World_order_B0 n x ts (a.ps.set i ({x with orders:=({o with Early:=o.Early}:To)}:Procs))) ts.length 0 (({a.w with all:=a.ps.set i ({x with orders:=({o with Early:=o.Early}:To)}:Procs)}:Wld),a.w.ordered,a.w.way)=some (d.w,d.w.ordered,d.w.way):=l1'
    refine ⟨?_,l2.2.mono (by omega)⟩
    rw [l1'',Obs]
    show some (a.ps.set i ({x with orders:=o}:Procs),d.w.ordered,d.w.way,({d.w with all:=a.ps.set i ({x with orders:=o}:Procs),ordered:=d.w.ordered,way:=d.w.way}:Wld))=_
    rw [← l2.1]
    rfl
def prs (t:Str):Int×Int×Str :=
  (((strconv_Atoi ((strings_Cut t ([58]:Str)).getD (([]:Str),([]:Str),false)).1).getD ((0:Int),())).1,
   ((strconv_Atoi ((strings_Cut ((strings_Cut t ([58]:Str)).getD (([]:Str),([]:Str),false)).2.1 ([58]:Str)).getD (([]:Str),([]:Str),false)).1).getD ((0:Int),())).1,
   ((strings_Cut ((strings_Cut t ([58]:Str)).getD (([]:Str),([]:Str),false)).2.1 ([58]:Str)).getD (([]:Str),([]:Str),false)).2.1)
theorem enc3_cut {m:Int×Int×Str} (h:G3 m):strings_Cut (enc3 m) ([58]:Str)=some (itS m.1,itS m.2.1++58::m.2.2,true)∧strings_Cut (itS m.2.1++58::m.2.2) ([58]:Str)=some (itS m.2.1,m.2.2,true)∧strconv_Atoi (itS m.1)=some (m.1,())∧strconv_Atoi (itS m.2.1)=some (m.2.1,()):=by
  obtain ⟨_,a1,a2,a3,a4⟩:=itoa_law h.1.1 (show m.1 < 1000000000 by have:=h.1.2; omega)
  obtain ⟨_,b1,b2,b3,b4⟩:=itoa_law h.2.1.1 (show m.2.1 < 1000000000 by have:=h.2.1.2; omega)
  have h3:=h.2.2
  have e:enc3 m=itS m.1++58::(itS m.2.1++58::m.2.2):=by unfold enc3; simp
  refine ⟨?_,cut_law b1 b3 (by simp; omega),a4,b4⟩
  rw [e]
  exact cut_law a1 a3 (by simp; omega)
theorem prs_enc {m:Int×Int×Str} (h:G3 m):prs (enc3 m)=m:=by
  obtain ⟨h1,h2,h3,h4⟩:=enc3_cut h
  unfold prs
  rw [h1]
  simp only [Option.getD_some]
  rw [h2]
  simp only [Option.getD_some]
  rw [h3,h4]
  rfl
def hearM (b:AW) (p:Int) (t:Str):AW :=
  match b.ps[p.toNat]? with
  | none=>b
  | some x=>{b with ps:=b.ps.set p.toNat {x with log:=x.log++[⟨(prs t).1,(prs t).2.2⟩],from_:=bif (prs t).1==p then heardV x.from_ ((prs t).2.1+1) else x.from_}}
def takeM (fu:Nat) (a:AW) (n:Note):AW :=
  match a.ps[n.To.toNat]? with
  | none=>a
  | some x=>bif decide (n.Seq > 16777214) then a else
    foldI (fun b _ t=>hearM b n.To t) 0 (takeV fu x.to ⟨n.Seq,n.Text⟩).2 {a with ps:=a.ps.set n.To.toNat {x with to:=(takeV fu x.to ⟨n.Seq,n.Text⟩).1}}
structure LikeW (a b:AW):Prop where
  view:b.view=a.view
  ord:b.ord=a.ord
  way:b.way=a.way
  len:b.ps.length=a.ps.length
theorem hear_step {B:Nat} {a b:AW} {n:Note} {l:List Str} {i j:Nat} {m:Int×Int×Str} (h:GA B b) (hB:B≤2 ^ 35) (hl:LikeW a b) (hi:n.To=(i:Int)) (hil:i < b.ps.length) (hj:l[j]? = some (enc3 m)) (hg:G3 m) :
    world_World_take_B0 a.w n l j (b.w,b.ps)=some ((hearM b n.To (enc3 m)).w,(hearM b n.To (enc3 m)).ps)∧GA (B+1) (hearM b n.To (enc3 m))∧LikeW a (hearM b n.To (enc3 m)):=by
  obtain ⟨c1,c2,c3,c4⟩:=enc3_cut hg
  have hx:b.ps[i]? = some b.ps[i]:=by simp [hil]
  generalize b.ps[i]=x at hx
  have hp:=h.ps x (mog hx)
  have hlog:=hp.log
  have hq:=hg.2.1
  have hw64:w64 (m.2.1+1)=m.2.1+1:=w64_id (by omega) (by omega)
  have hbw:∀ ps,({b.w with all:=ps,ordered:=a.w.ordered,way:=a.w.way}:Wld)=({b with ps:=ps}:AW).w:=fun ps=>by
    unfold AW.w; simp only; rw [hl.ord,hl.way]
  have hsl:i < b.ps.length:=hil
  have hset:∀ y:Procs,(b.ps.set i y)[i]? = some y:=fun y=>by rw [List.getElem?_set_self hsl]
  refine ⟨?_,?_,?_⟩
  · unfold world_World_take_B0 hearM
    rw [lat_nat,hj,Obs,c1,Obs]
    simp only
    rw [c2,Obs,c3,Obs,hi,lat_nat,tnc,hx,Obs,room_ok (by simp; omega),Obs,Obs,Let_eq,prs_enc hg]
    simp only
    have es:({Saying.zero with From:=m.1,Text:=m.2.2}:Saying)=⟨m.1,m.2.2⟩:=rfl
    rw [es]
    cases hm:(m.1==(i:Int)) with
    | false =>
      simp only [cff]
      rw [hbw]
    | true =>
      obtain ⟨g,c,hh,hv⟩:=heard_law (k:=m.2.1+1) hp.gf (by omega)
      simp only [ctt]
      rw [c4,Obs,lat_nat,hset,Obs]
      simp only
      rw [hw64,hh,Obs]
      simp only
      rw [← hv]
      cases hc:(c==0) with
      | false =>
        simp only [cff]
        rw [hbw]
      | true =>
        simp only [ctt]
        rw [Obs,Let_eq,List.set_set,hbw]
  · unfold hearM
    rw [hi,tnc,hx]
    simp only
    have h1:=h.mono (show B≤B+1 by omega)
    refine h1.set i ⟨?_,fun s hs=>?_,?_,?_,hp.to,hp.ords⟩
    · simp only [List.length_append,List.length_cons,List.length_nil]; omega
    · rcases List.mem_append.1 hs with q | q
      · exact hp.txt s q
      · rw [List.mem_singleton.1 q,prs_enc hg]; exact hg.2.2
    · cases ((prs (enc3 m)).1==(i:Int))
      · exact hp.base
      · exact (heardV_gf hp.gf).base
    · cases ((prs (enc3 m)).1==(i:Int))
      · exact hp.late
      · exact (heardV_gf hp.gf).late
  · unfold hearM
    rw [hi,tnc,hx]
    exact ⟨hl.view,hl.ord,hl.way,by simp only [List.length_set]; exact hl.len⟩
theorem take_law {B fu:Nat} {a:AW} {n:Note} (hfu:200 < fu) (h:GA B a) (hB:B≤2 ^ 34) (hn:GN n) (hk:n.Kind=2) (hkn:knw a n.To=true) :
    world_World_take fu a.w n=some ((takeM fu a n).w.all,(takeM fu a n).w)∧GA (B+17) (takeM fu a n)∧LikeW a (takeM fu a n):=by
  obtain ⟨i,hi,hil⟩:=knw_iff.1 hkn
  have hx:a.ps[i]? = some a.ps[i]:=by simp [hil]
  generalize a.ps[i]=x at hx
  have hp:=h.ps x (mog hx)
  have e:a.w.all=a.ps:=rfl
  have hsq:=hn.1.seq
  obtain ⟨m,hm,htx⟩:=hn.2.2 hk
  have hml:=enc3_len hm
  unfold world_World_take takeM
  rw [e,hi,lat_nat,hx,Obs,tnc,hx]
  simp only
  have ep:({Parcel.zero with Seq:=n.Seq,Text:=n.Text}:Parcel)=⟨n.Seq,n.Text⟩:=rfl
  rw [ep]
  by_cases hs:n.Seq > 16777214
  · obtain ⟨o,ho⟩:=take_over (fu:=fu) (p:=⟨n.Seq,n.Text⟩) hp.to.1 hs
    rw [ho,dtt hs]
    exact ⟨rfl,h.mono (by omega),rfl,rfl,rfl,rfl⟩
  · have hs':n.Seq≤16777214:=by omega
    obtain ⟨t1,t2,_,t4⟩:=take_v (r:=x.to) (p:=⟨n.Seq,n.Text⟩) hfu hp.to.1 ⟨hsq.1,hs'⟩ (by simp only; rw [htx]; omega)
    have hog:=took_good hp.to.1 (fun y hy=>(hp.to.2 y hy).1) hs' t2
    rw [t1,dff hs]
    generalize takeV fu x.to ⟨n.Seq,n.Text⟩=r at t2 t4 hog
    obtain ⟨o,ts⟩:=r
    simp only at t2 t4 hog
    simp only [Obs,Let_eq,bne_self_eq_false,cff]
    have hop:GP B {x with to:=o}:=⟨hp.log,hp.txt,hp.base,hp.late,⟨hog,fun y hy=>by
      rcases (t2.rng y hy).2.2 with q | q
      · exact hp.to.2 y q
      · rw [q]; exact ⟨hs',m,hm,htx⟩⟩,hp.ords⟩
    have hga:=h.set i hop
    have htxt:∀ (j:Nat) t,ts[j]? = some t→∃ m,G3 m∧t=enc3 m:=fun j t hj=>by
      rcases t2.from_ j t hj with q | q
      · exact (hp.to.2 _ q).2
      · have:t=n.Text:=by injection q
        rw [this]; exact ⟨m,hm,htx⟩
    obtain ⟨l1,l2⟩:=rangeF_emb (body:=world_World_take_B0 a.w n ts) (fun b:AW=>(b.w,b.ps)) (fun b _ t=>hearM b n.To t)
      (fun j b=>GA (B+j) b∧LikeW a b) (l:=ts) (fun j t b hj hb=>by
        obtain ⟨m',g',rfl⟩:=htxt j t hj
        have hjl:=(gsi hj).1
        have hb1:GA (B+j) b:=hb.1
        exact hear_step (B:=B+j) hb1 (show B+j≤2 ^ 35 by omega) hb.2 hi (by rw [hb.2.len]; exact hil) hj g') ts.length 0 {a with ps:=a.ps.set i {x with to:=o}} (by omega) ⟨hga,rfl,rfl,rfl,by simp⟩
    rw [List.drop_zero] at l1 l2
    rw [hi] at l1 l2
    generalize foldI (fun (b:AW) (_:Nat) t=>hearM b (i:Int) t) 0 ts {a with ps:=a.ps.set i {x with to:=o}}=d at l1 l2
    have l1'':rangeF (world_World_take_B0 a.w n ts) ts.length 0 (({a.w with all:=a.ps.set i ({x with to:=({o with Early:=o.Early}:To)}:Procs)}:Wld),a.ps.set i ({x with to:=({o with Early:=o.Early}:To)}:Procs))=some (d.w,d.ps):=l1
    refine ⟨?_,l2.1.mono (by omega),l2.2⟩
    rw [l1'',Obs]
    show some (d.ps,({d.w with all:=d.ps,ordered:=a.w.ordered,way:=a.w.way}:Wld))=_
    have:({d.w with all:=d.ps,ordered:=a.w.ordered,way:=a.w.way}:Wld)=d.w:=by
      unfold AW.w; simp only; rw [l2.2.ord,l2.2.way]
    rw [this]
    rfl
end Go.Proofs.YtchmclllcdknjaaGreatDoor
namespace Go.Proofs.YtchmclllcdknjaaGreatDoor
open Enc
def askGo (s f:Int):Nat→Nat→AW→AW
  | 0,_,b=>b
  | k+1,i,b=>match b.ord[i]? with
    | none=>b
    | some m=>askGo s f k (i+1) (sendM b 2 s f (i:Int) (enc3 m))
def askM (a:AW) (n:Note):AW:=askGo (sq a.view) n.From 4 n.Seq.toNat a
theorem ask_loop {B:Nat} {a:AW} {n:Note} (hs:0≤n.Seq∧n.Seq≤16777215):∀ (k i:Nat) (b:AW) (fu:Nat),k < fu→(i:Int)+k=n.Seq+4→Like a b→GA B b →
    ∃ j,whileM (world_World_deliver_B1 a.w n) fu ((i:Int),b.w,b.w.way)=some (.inl (j,(askGo (sq a.view) n.From k i b).w,(askGo (sq a.view) n.From k i b).w.way))∧Like a (askGo (sq a.view) n.From k i b)∧GA B (askGo (sq a.view) n.From k i b):=by
  have stop:∀ (i:Nat) (b:AW) (fu:Nat),0 < fu→Like a b→((i:Int) < a.ord.length→¬ (i:Int) < n.Seq+4)→∃ j,whileM (world_World_deliver_B1 a.w n) fu ((i:Int),b.w,b.w.way)=some (.inl (j,b.w,b.w.way)):=fun i b fu hf hl hc=>by
    obtain ⟨fu,rfl⟩:∃ g,fu=g+1:=⟨fu - 1,by omega⟩
    refine ⟨i,?_⟩
    have hol:(a.w.ordered.length:Int)=a.ord.length:=by show ((a.ord.map enc3).length:Int)=_; rw [List.length_map]
    unfold whileM world_World_deliver_B1
    simp only
    rw [hol,w64_id (show -9223372036854775808≤n.Seq+4 by omega) (by omega),and_some,Obs,hl.w]
    by_cases c:(i:Int) < a.ord.length
    · rw [dtt c,dff (hc c)]; rfl
    · rw [dff c]; rfl
  intro k
  induction k with
  | zero =>
    intro i b fu hf hi hl hg
    obtain ⟨j,hj⟩:=stop i b fu hf hl (fun _=>by omega)
    exact ⟨j,hj,hl,hg⟩
  | succ k ih =>
    intro i b fu hf hi hl hg
    cases hm:b.ord[i]? with
    | none =>
      have hlen:b.ord.length≤i:=List.getElem?_eq_none_iff.1 hm
      obtain ⟨j,hj⟩:=stop i b fu (by omega) hl (fun c=>by rw [hl.ord] at hlen; omega)
      unfold askGo
      rw [hm]
      exact ⟨j,hj,hl,hg⟩
    | some m =>
      have hil:i < b.ord.length:=(gsi hm).1
      have hil2:i < a.ord.length:=by rw [← hl.ord]; exact hil
      have hgm:=hg.ord.2 m (mog hm)
      obtain ⟨fu,rfl⟩:∃ g,fu=g+1:=⟨fu - 1,by omega⟩
      have hl2:=hl.send 2 (sq a.view) n.From (i:Int) (enc3 m)
      have hg2:GA B (sendM b 2 (sq a.view) n.From (i:Int) (enc3 m)):=hg.send (fun e=>absurd e (by decide)) (fun _=>⟨m,hgm,rfl⟩)
      obtain ⟨j,h1,h2,h3⟩:=ih (i+1) _ fu (by omega) (by push_cast; omega) hl2 hg2
      unfold askGo
      rw [hm]
      refine ⟨j,?_,h2,h3⟩
      have hol:(a.w.ordered.length:Int)=a.ord.length:=by show ((a.ord.map enc3).length:Int)=_; rw [List.length_map]
      have hlt:lat a.w.ordered (i:Int)=some (enc3 m):=by
        rw [lat_nat]; show (a.ord.map enc3)[i]? = _
        rw [List.getElem?_map,← hl.ord,hm]; rfl
      have hb:world_World_deliver_B1 a.w n ((i:Int),b.w,b.w.way)=some (.go (((i+1:Nat):Int),(sendM b 2 (sq a.view) n.From (i:Int) (enc3 m)).w,(sendM b 2 (sq a.view) n.From (i:Int) (enc3 m)).w.way)):=by
        unfold world_World_deliver_B1
        simp only
        rw [hol,w64_id (show -9223372036854775808≤n.Seq+4 by omega) (by omega),and_some,Obs,hl.w,dtt (show (i:Int) < a.ord.length by omega),dtt (show (i:Int) < n.Seq+4 by omega),Bool.and_self,ctt,seq_law,Obs,hlt,Obs,
          show b.w.view=a.view from hl.view,send_law hg.way.1,Obs]
        simp only
        have:=hg.ord.1
        rw [hl2.w,w64_id (by omega) (by omega)]
        rfl
      unfold whileM
      rw [hb,Obs]
      exact h1
def delivM (fu:Nat) (a:AW) (n:Note):AW :=
  bif !knw a n.From then a else
  bif n.Kind==1 then orderM fu a n else
  bif n.Kind==3 then askM a n else
  bif n.Kind==2 then takeM fu a n else a
theorem deliver_law {B fu:Nat} {a:AW} {n:Note} (hfu:200 < fu) (h:GA B a) (hB:B≤2 ^ 34) (hn:GN n) (hkn:knw a n.To=true) :
    world_World_deliver fu a.w n=some ((delivM fu a n).w.all,(delivM fu a n).w.ordered,(delivM fu a n).w.way,(delivM fu a n).w)∧GA (B+17) (delivM fu a n):=by
  unfold world_World_deliver delivM
  rw [known_law h.n,Obs]
  cases hkf:knw a n.From with
  | false=>exact ⟨rfl,h.mono (by omega)⟩
  | true =>
    simp only [Bool.not_true,cff,bne_self_eq_false]
    by_cases k1:n.Kind=1
    · obtain ⟨e1,e2⟩:=order_law hfu h hB hn k1 hkf
      rw [k1]
      simp only [beq_self_eq_true,ctt]
      rw [e1,Obs]
      exact ⟨rfl,e2⟩
    · rw [show (n.Kind==1)=false by simpa using k1]
      simp only [cff]
      by_cases k3:n.Kind=3
      · have hs:=hn.1.seq
        obtain ⟨s,hs1⟩:=int_nat hs.1
        obtain ⟨j,l1,l2,l3⟩:=ask_loop (a:=a) (n:=n) hs 4 s a fu (by omega) (by omega) ⟨rfl,rfl,rfl⟩ h
        have ea:askM a n=askGo (sq a.view) n.From 4 s a:=by unfold askM; rw [hs1]; rfl
        rw [k3,ea]
        simp only [beq_self_eq_true,ctt]
        rw [hs1,l1,andThen_inl]
        simp only
        rw [l2.w]
        generalize askGo (sq a.view) n.From 4 s a=d at l2 l3
        refine ⟨?_,l3.mono (by omega)⟩
        have e1:a.w.all=d.w.all:=l2.ps.symm
        have e2:a.w.ordered=d.w.ordered:=by show a.ord.map enc3=d.ord.map enc3; rw [l2.ord]
        rw [e1,e2]
      · rw [show (n.Kind==3)=false by simpa using k3]
        simp only [cff]
        by_cases k2:n.Kind=2
        · obtain ⟨e1,e2,e3⟩:=take_law hfu h hB hn k2 hkn
          rw [k2]
          simp only [beq_self_eq_true,ctt]
          rw [e1,Obs]
          generalize takeM fu a n=d at e2 e3
          refine ⟨?_,e2⟩
          have e1:a.w.ordered=d.w.ordered:=by show a.ord.map enc3=d.ord.map enc3; rw [e3.ord]
          have e2:a.w.way=d.w.way:=by show a.way.map packS=d.way.map packS; rw [e3.way]
          rw [e1,e2]
        · rw [show (n.Kind==2)=false by simpa using k2]
          exact ⟨rfl,h.mono (by omega)⟩
def moveM (fu:Nat) (a:AW) (k how:Int):AW×Int :=
  bif !(decide (how≥1)&&decide (how≤3)) then (a,1) else
  bif !(decide (k≥0)&&decide (k≤(a.way.length:Int) - 1)) then (a,6) else
  bif (how==3)&&decide (a.way.length=60) then (a,8) else
  match a.way[k.toNat]? with
  | none=>(a,0)
  | some n=>bif how==3 then ({a with way:=a.way++[n]},0) else
    (bif ((how==1)&&(n.View==a.view.Num))&&act a n.To then delivM fu {a with way:=a.way.take k.toNat++a.way.drop (k.toNat+1)} n else {a with way:=a.way.take k.toNat++a.way.drop (k.toNat+1)},0)
theorem delete_law {l:List Str} {i:Nat} (h:i < l.length) (hl:l.length≤2 ^ 40):slices_Delete_string_string l (i:Int) ((i+1:Nat):Int)=some (l.take i++l.drop (i+1)):=by
  unfold slices_Delete_string_string
  have c1:∃ x,cutL l (i:Int) ((i+1:Nat):Int)=some x:=⟨_,by unfold cutL; rw [if_pos (by omega)]⟩
  have c2:∃ x,cutL l 0 (i:Int)=some x:=⟨_,by unfold cutL; rw [if_pos (by omega)]⟩
  have c3:∃ x,cutL l ((i+1:Nat):Int) (l.length:Int)=some x:=⟨_,by unfold cutL; rw [if_pos (by omega)]⟩
  obtain ⟨x1,e1⟩:=c1
  obtain ⟨x2,e2⟩:=c2
  obtain ⟨x3,e3⟩:=c3
  rw [e1,Obs,show ((i:Int)==((i+1:Nat):Int))=false by simp; omega,cff,e2,Obs,e3,Obs]
  rfl
theorem GA.lose {B:Nat} {a:AW} (h:GA B a) (i:Nat):GA B {a with way:=a.way.take i++a.way.drop (i+1)}:=by
  refine ⟨h.n,h.ps,h.ord,⟨?_,fun n hn=>?_⟩,h.num⟩
  · have:=h.way.1; simp only [List.length_append,List.length_take,List.length_drop]; omega
  · rcases List.mem_append.1 hn with q | q
    · exact h.way.2 n (List.mem_of_mem_take q)
    · exact h.way.2 n (List.mem_of_mem_drop q)
theorem move_law {B fu:Nat} {a:AW} (hfu:200 < fu) (h:GA B a) (hB:B≤2 ^ 34) (k how:Int) :
    world_World_Move fu a.w k how=some ((moveM fu a k how).1.w.all,(moveM fu a k how).1.w.ordered,(moveM fu a k how).1.w,(moveM fu a k how).2)∧GA (B+17) (moveM fu a k how).1:=by
  unfold world_World_Move moveM
  have hwl:(a.w.way.length:Int)=(a.way.length:Int):=by show ((a.way.map packS).length:Int)=_; rw [List.length_map]
  have hw60:=h.way.1
  rw [winn_eq,Obs]
  cases hh:(decide (how≥1)&&decide (how≤3)) with
  | false=>exact ⟨rfl,h.mono (by omega)⟩
  | true =>
    simp only [Bool.not_true,cff]
    rw [hwl,w64_id (show -9223372036854775808≤(a.way.length:Int) - 1 by omega) (by omega),winn_eq,Obs]
    cases hk:(decide (k≥0)&&decide (k≤(a.way.length:Int) - 1)) with
    | false=>exact ⟨rfl,h.mono (by omega)⟩
    | true =>
      rw [Bool.and_eq_true,decide_eq_true_eq,decide_eq_true_eq] at hk
      obtain ⟨i,rfl⟩:=int_nat hk.1
      have hil:i < a.way.length:=by omega
      simp only [Bool.not_true,cff]
      have e6:((a.way.length:Int)==60)=decide (a.way.length=60):=by rw [Bool.eq_iff_iff]; simp; omega
      rw [e6,and_some,Obs]
      cases h6:((how==3)&&decide (a.way.length=60)) with
      | true=>exact ⟨rfl,h.mono (by omega)⟩
      | false =>
        have hx:a.way[i]? = some a.way[i]:=by simp [hil]
        generalize a.way[i]=n at hx
        have hgn:=h.way.2 n (mog hx)
        have hl:lat a.w.way (i:Int)=some (packS n):=by
          rw [lat_nat]; show (a.way.map packS)[i]? = _
          rw [List.getElem?_map,hx]; rfl
        simp only [cff]
        rw [hl,Obs,tnc,hx]
        simp only
        cases h3:(how==3) with
        | true =>
          rw [h3,Bool.true_and,decide_eq_false_iff_not] at h6
          have hwl2:a.w.way.length=a.way.length:=List.length_map _
          rw [ctt,room_ok (by simp; omega),Obs]
          refine ⟨?_,?_⟩
          · have:(a.way++[n]).map packS=a.w.way++[packS n]:=by rw [List.map_append]; rfl
            unfold AW.w at this ⊢
            simp only at this ⊢
            simp only [ctt]
            rw [this]
          · show GA (B+17) {a with way:=a.way++[n]}
            refine ⟨h.n,fun x hx=>(h.ps x hx).mono (by omega),⟨by have:=h.ord.1; simp only; omega,h.ord.2⟩,⟨?_,fun m hm=>?_⟩,h.num⟩
            · simp only [List.length_append,List.length_cons,List.length_nil]; omega
            · rcases List.mem_append.1 hm with q | q
              · exact h.way.2 m q
              · rw [List.mem_singleton.1 q]; exact hgn
        | false =>
          simp only [cff]
          obtain ⟨b,hb⟩:∃ b:AW,b={a with way:=a.way.take i++a.way.drop (i+1)}:=⟨_,rfl⟩
          have hgb:GA B b:=by rw [hb]; exact h.lose i
          have hbw:({a.w with way:=(a.w.way.take i++a.w.way.drop (i+1))}:Wld)=b.w:=by
            rw [hb]
            unfold AW.w
            simp only [List.map_append,List.map_take,List.map_drop]
          have hbway:a.w.way.take i++a.w.way.drop (i+1)=b.w.way:=by rw [← hbw]
          have hact:act b n.To=act a n.To:=by rw [hb]; rfl
          have hwl2:a.w.way.length=a.way.length:=List.length_map _
          rw [w64_id (show -9223372036854775808≤(i:Int)+1 by omega) (by omega),show (i:Int)+1=((i+1:Nat):Int) by rfl,delete_law (by rw [hwl2]; exact hil) (by omega),Obs,read_pack hgn.1,Obs]
          simp only [beq_self_eq_true]
          rw [and_some,Obs,Bool.and_true,and_some,Obs,hbw,active_law hgb.n,hact,Obs,and_some,Obs,hbway,← hb]
          have ev:(n.View==a.w.view.Num)=(n.View==a.view.Num):=rfl
          rw [ev]
          cases hq:((how==1)&&(n.View==a.view.Num)&&act a n.To) with
          | false =>
            simp only [cff,Obs]
            refine ⟨?_,hgb.mono (by omega)⟩
            rw [hb]
            rfl
          | true =>
            rw [Bool.and_eq_true] at hq
            have hkn:knw b n.To=true:=by
              have:act b n.To=true:=by rw [hact]; exact hq.2
              unfold act at this
              rw [Bool.and_eq_true,Bool.and_eq_true] at this
              exact this.1.1
            obtain ⟨d1,d2⟩:=deliver_law hfu hgb hB hgn hkn
            simp only [ctt]
            rw [d1,Obs,Obs]
            exact ⟨rfl,d2⟩
end Go.Proofs.YtchmclllcdknjaaGreatDoor
namespace Go.Proofs.YtchmclllcdknjaaGreatDoor
open Enc
def nextV (v:View) (g:BitVec 8):View×Int:=(view_Next v g 0).getD (View.zero,1)
set_option maxRecDepth 20000 in
theorem ones_tot (m:BitVec 8):∃ r,math_bits_OnesCount8 m=some r∧0≤r∧r≤255:=by
  unfold math_bits_OnesCount8
  rw [lat_at (by have:=m.isLt; exact this),Obs]
  refine ⟨_,rfl,by omega,?_⟩
  exact Int.ofNat_le.2 (Nat.le_of_lt_succ (BitVec.isLt _))
theorem next_law (v:View) (g:BitVec 8) (hv:0≤v.Num∧v.Num≤16777215):view_Next v g 0=some (nextV v g)∧((nextV v g).2=0→(nextV v g).1.Num=v.Num+1∧v.Num+1≤16777215∧(nextV v g).1.Members=v.Members &&& ~~~g):=by
  have key:∃ r,view_Next v g 0=some r∧(r.2=0→r.1.Num=v.Num+1∧v.Num+1≤16777215∧r.1.Members=v.Members &&& ~~~g):=by
    unfold view_Next view_outside view_half
    obtain ⟨c,e⟩:=vcheck_tot v
    rw [e,Obs,Obs,or_some,Obs]
    cases hc:(c != 0) with
    | true=>exact ⟨_,rfl,fun h=>by have h:c=0:=h; subst h; cases hc⟩
    | false =>
      rw [cff]
      cases ((((g ||| (0:BitVec 8)) >>> 6).toNat:Int) != ((0:BitVec 8).toNat:Int))||(((g &&& (0:BitVec 8)).toNat:Int) != ((0:BitVec 8).toNat:Int)) with
      | true=>exact ⟨_,rfl,fun h=>by cases h⟩
      | false =>
        rw [cff]
        cases hn:(v.Num==(16777215:Int)) with
        | true=>exact ⟨_,rfl,fun h=>by cases h⟩
        | false =>
          have hn:v.Num≠16777215:=by simpa using hn
          obtain ⟨r1,e1,_⟩:=ones_tot ((v.Members &&& ~~~g) &&& v.Members)
          obtain ⟨r2,e2,_⟩:=ones_tot v.Members
          rw [cff,e1,Obs,e2,Obs,Obs]
          cases decide ((w64 ((2:Int) * r1)) > r2) with
          | false=>exact ⟨_,rfl,fun h=>by cases h⟩
          | true =>
            refine ⟨_,rfl,fun _=>⟨w64_id (by omega) (by omega),by omega,?_⟩⟩
            show (v.Members &&& ~~~g) ||| 0=_
            simp
  obtain ⟨r,e,h⟩:=key
  have:nextV v g=r:=by unfold nextV; rw [e]; rfl
  rw [this]; exact ⟨e,h⟩
def glM (a:AW):BitVec 8×List Saying :=
  foldI (fun (z:BitVec 8×List Saying) i (x:Procs)=>bif act a (i:Int) then (bif decide (x.log.length > z.2.length) then (z.1,x.log) else z) else (z.1 ||| (a.view.Members &&& ((1:BitVec 8) <<< i)),z.2)) 0 a.ps ((0:BitVec 8),([]:List Saying))
theorem gl_law {B:Nat} {a:AW} (h:GA B a):rangeF (world_World_Change_B0 a.w) a.ps.length 0 ((0:BitVec 8),([]:List Saying))=some (glM a) ∧
    (∀ (j:Nat) x,a.ps[j]? = some x→act a (j:Int)=true→x.log.length≤(glM a).2.length)∧((glM a).2=[]∨∃ (j:Nat) (x:Procs),a.ps[j]? = some x∧act a (j:Int)=true∧(glM a).2=x.log):=by
  obtain ⟨l1,l2,l3⟩:=rangeF_emb (body:=world_World_Change_B0 a.w) (fun z:BitVec 8×List Saying=>z) (fun (z:BitVec 8×List Saying) i (x:Procs)=>bif act a (i:Int) then (bif decide (x.log.length > z.2.length) then (z.1,x.log) else z) else (z.1 ||| (a.view.Members &&& ((1:BitVec 8) <<< i)),z.2))
    (fun i z=>(∀ (j:Nat) x,j < i→a.ps[j]? = some x→act a (j:Int)=true→x.log.length≤z.2.length)∧(z.2=[]∨∃ (j:Nat) (x:Procs),a.ps[j]? = some x∧act a (j:Int)=true∧z.2=x.log)) (l:=a.ps) (fun i x z hx hz=>by
      have e:a.w.all=a.ps:=rfl
      have step:∀ z2:BitVec 8×List Saying,z.2.length≤z2.2.length→(act a (i:Int)=true→x.log.length≤z2.2.length)→∀ (j:Nat) y,j < i+1→a.ps[j]? = some y→act a (j:Int)=true→y.log.length≤z2.2.length:=fun z2 g1 g2 j y hj hy ha=>by
        by_cases c:j=i
        · subst c; rw [hx] at hy; rw [← Option.some.inj hy]; exact g2 ha
        · exact Nat.le_trans (hz.1 j y (by omega) hy ha) g1
      unfold world_World_Change_B0
      rw [active_law h.n,Obs]
      cases ha:act a (i:Int) with
      | false =>
        rw [cff,cff,cnt_nat,Obs]
        exact ⟨rfl,step _ (Nat.le_refl _) (fun q=>by rw [ha] at q; cases q),hz.2⟩
      | true =>
        rw [ctt,ctt,e,lat_nat,hx,Obs]
        by_cases c:x.log.length > z.2.length
        · rw [dtt c,dtt (show (x.log.length:Int) > (z.2.length:Int) by omega),ctt,ctt]
          exact ⟨rfl,step _ (by simp only; omega) (fun _=>Nat.le_refl _),.inr ⟨i,x,hx,ha,rfl⟩⟩
        · rw [dff c,dff (show ¬ (x.log.length:Int) > (z.2.length:Int) by omega),cff,cff]
          exact ⟨rfl,step _ (Nat.le_refl _) (fun _=>by omega),hz.2⟩) a.ps.length 0 ((0:BitVec 8),([]:List Saying)) (by omega) ⟨fun j x hj=>by omega,.inl rfl⟩
  rw [List.drop_zero] at l1 l2 l3
  exact ⟨l1,fun j x hx=>l2 j x (gsi hx).1 hx,l3⟩
def cntM (i:Nat):List Saying→Nat
  | []=>0
  | s::l=>(bif s.From==(i:Int) then 1 else 0)+cntM i l
theorem cnt_loop (i:Nat) (l:List Saying) (hl:l.length≤2 ^ 40):∀ (k j:Nat) (z:Nat),j+k=l.length→z≤j→rangeF (world_World_Change_B5 i l) k j (z:Int)=some ((z+cntM i (l.drop j):Nat):Int)
  | 0,j,z,hk,_=>by
    rw [List.drop_of_length_le (by omega)]; rfl
  | k+1,j,z,hk,hz=>by
    have hj:j < l.length:=by omega
    have hx:l[j]? = some l[j]:=by simp [hj]
    rw [List.drop_eq_getElem_cons hj]
    generalize l[j]=s at hx
    unfold rangeF world_World_Change_B5
    rw [lat_nat,hx,Obs]
    unfold cntM
    have hw:w64 ((z:Int)+1)=((z+1:Nat):Int):=by rw [w64_id (by omega) (by omega)]; rfl
    cases s.From==(i:Int) with
    | true =>
      rw [ctt,hw,Obs,ctt]
      have:=cnt_loop i l hl k (j+1) (z+1) (by omega) (by omega)
      unfold world_World_Change_B5 at this
      rw [this,Nat.add_assoc]
    | false =>
      rw [cff,Obs,cff]
      have:=cnt_loop i l hl k (j+1) z (by omega) (by omega)
      unfold world_World_Change_B5 at this
      rw [this,Nat.zero_add]
def freshM (L:List Saying) (i:Nat) (x:Procs):Procs:={x with log:=L,from_:=⟨0,x.from_.Late.drop (min (cntM i (L.drop x.log.length)) x.from_.Late.length)⟩,to:=⟨0,[]⟩,orders:=⟨0,[]⟩}
def chgOne (L:List Saying) (b:AW) (i:Nat):AW :=
  match b.ps[i]? with
  | none=>b
  | some x=>{b with ps:=b.ps.set i (bif act b (i:Int) then freshM L i x else {x with orders:=⟨0,[]⟩})}
theorem good0:GoodT ⟨0,[]⟩:=⟨by simp,by simp,by simp,List.Pairwise.nil,by simp,by simp⟩
theorem GP.fresh {B:Nat} {x:Procs} (h:GP B x) {L:List Saying} (hL:L.length≤B) (hT:∀ s∈L,s.Text.length≤150) (i:Nat):GP B (freshM L i x):=by
  have h1:=h.late
  refine ⟨hL,hT,⟨Int.le_refl _,?_⟩,⟨?_,fun t ht=>h1.2 t (List.mem_of_mem_drop ht)⟩,⟨good0,fun p hp=>by cases hp⟩,⟨good0,fun p hp=>by cases hp⟩⟩
  · show (0:Int)+((x.from_.Late.drop _).length:Int)≤_
    rw [List.length_drop]; omega
  · show (x.from_.Late.drop _).length≤16
    rw [List.length_drop]; omega
theorem GP.quit {B:Nat} {x:Procs} (h:GP B x):GP B {x with orders:=⟨0,[]⟩}:=⟨h.log,h.txt,h.base,h.late,h.to,⟨good0,fun p hp=>by cases hp⟩⟩
theorem chg_step {B:Nat} {a b:AW} {L:List Saying} {i:Nat} {x:Procs} (h:GA B b) (hB:B≤2 ^ 34) (hL:L.length≤B) (hT:∀ s∈L,s.Text.length≤150) (hl:LikeW a b) (hx:b.ps[i]? = some x) (hle:act b (i:Int)=true→x.log.length≤L.length) :
    world_World_Change_B3 a.w i (L,b.w,b.ps)=some (L,(chgOne L b i).w,(chgOne L b i).ps)∧GA B (chgOne L b i)∧LikeW a (chgOne L b i):=by
  have hp:=h.ps x (mog hx)
  have hi:i < b.ps.length:=(gsi hx).1
  have hbw:∀ ps,({b.w with all:=ps,ordered:=a.w.ordered,way:=a.w.way}:Wld)=({b with ps:=ps}:AW).w:=fun ps=>by
    unfold AW.w; simp only; rw [hl.ord,hl.way]
  have hset:∀ y:Procs,(b.ps.set i y)[i]? = some y:=fun y=>by rw [List.getElem?_set_self hi]
  have hlate:=hp.late.1
  have hlog:=hp.log
  have one:chgOne L b i={b with ps:=b.ps.set i (bif act b (i:Int) then freshM L i x else {x with orders:=⟨0,[]⟩})}:=by unfold chgOne; rw [hx]
  rw [one]
  refine ⟨?_,?_,?_⟩
  · unfold world_World_Change_B3
    simp only
    rw [lat_nat,hx,Obs,hbw,show ({b with ps:=b.ps}:AW).w=b.w from rfl,active_law h.n,Obs]
    cases ha:act b (i:Int) with
    | false =>
      simp only [cff,Obs]
      rw [lat_nat,hx,Obs,Let_eq,tnc]
      refine congrArg some (Prod.ext rfl (Prod.ext ?_ rfl))
      simp only
      exact hbw _
    | true =>
      have hle':=hle ha
      have ec:cutL L (x.log.length:Int) (L.length:Int)=some (L.drop x.log.length):=by
        unfold cutL; rw [if_pos (by omega)]
        simp only [tnc]
        rw [List.take_of_length_le (by simp)]
      have hc:=cnt_loop i (L.drop x.log.length) (by simp; omega) (L.drop x.log.length).length 0 0 (by omega) (by omega)
      rw [List.drop_zero,Nat.zero_add] at hc
      have hc':rangeF (world_World_Change_B5 i (L.drop x.log.length)) (L.drop x.log.length).length 0 (0:Int)=some ((cntM i (L.drop x.log.length):Nat):Int):=hc
      have em:min ((cntM i (L.drop x.log.length):Nat):Int) (x.from_.Late.length:Int)=((min (cntM i (L.drop x.log.length)) x.from_.Late.length:Nat):Int):=by omega
      have ed:cutL x.from_.Late ((min (cntM i (L.drop x.log.length)) x.from_.Late.length:Nat):Int) (x.from_.Late.length:Int)=some (x.from_.Late.drop (min (cntM i (L.drop x.log.length)) x.from_.Late.length)):=by
        unfold cutL; rw [if_pos (by omega)]
        simp only [tnc]
        rw [List.take_of_length_le (by simp)]
      simp only [ctt]
      rw [ec,Obs,hc',Obs,clone_says (by omega),Obs,Let_eq,tnc,lat_nat,hset,Obs,Obs]
      simp only
      rw [em,ed,Obs,clone_strs (by simp; omega),Obs,Let_eq,Obs,Let_eq,List.set_set,lat_nat,hset,Obs,Let_eq,List.set_set,Obs]
      simp only
      rw [lat_nat,hset,Obs,Let_eq,List.set_set]
      refine congrArg some (Prod.ext rfl (Prod.ext ?_ rfl))
      simp only
      exact hbw _
  · refine h.set i ?_
    cases act b (i:Int)
    · exact hp.quit
    · exact hp.fresh hL hT i
  · exact ⟨hl.view,hl.ord,hl.way,by simp only [List.length_set]; exact hl.len⟩
def changeM (a:AW):AW×Int :=
  bif (nextV a.view (glM a).1).2 != 0 then (a,(nextV a.view (glM a).1).2) else
  ({foldI (fun b i (_:Procs)=>chgOne (glM a).2 b i) 0 a.ps a with view:=(nextV a.view (glM a).1).1,ord:=[]},0)
theorem act_same {a b:AW} {i:Nat} (h1:b.view=a.view) (h2:b.ps.length=a.ps.length) (h3:b.ps[i]? = a.ps[i]?):act b (i:Int)=act a (i:Int):=by
  unfold act knw
  rw [h1,h2,tnc,h3]
theorem chg_other {L:List Saying} {b:AW} {i j:Nat} (h:j≠i):(chgOne L b i).ps[j]? = b.ps[j]?:=by
  unfold chgOne
  cases b.ps[i]? with
  | none=>rfl
  | some x=>simp only; rw [List.getElem?_set_ne (fun e=>h e.symm)]
theorem change_law {B:Nat} {a:AW} (h:GA B a) (hB:B≤2 ^ 34):world_World_Change a.w=some ((changeM a).1.w.all,(changeM a).1.w,(changeM a).2)∧GA B (changeM a).1∧(changeM a).1.way=a.way:=by
  obtain ⟨g1,g2,g3⟩:=gl_law h
  have e:a.w.all=a.ps:=rfl
  have hL:(glM a).2.length≤B:=by
    rcases g3 with q | ⟨j,x,hx,_,q⟩
    · rw [q]; exact Nat.zero_le _
    · rw [q]; exact (h.ps x (mog hx)).log
  have hT:∀ s∈(glM a).2,s.Text.length≤150:=by
    rcases g3 with q | ⟨j,x,hx,_,q⟩
    · rw [q]; intro s hs; cases hs
    · rw [q]; exact (h.ps x (mog hx)).txt
  obtain ⟨n1,n2⟩:=next_law a.view (glM a).1 h.num
  unfold world_World_Change changeM
  rw [e,g1,Obs]
  generalize glM a=z at g2 hL hT n1 n2
  obtain ⟨g,L⟩:=z
  simp only at g2 hL hT n1 n2 ⊢
  have ev:a.w.view=a.view:=rfl
  rw [ev,n1,Obs]
  cases hn:((nextV a.view g).2 != 0) with
  | true=>exact ⟨rfl,h,rfl⟩
  | false =>
    have hn0:(nextV a.view g).2=0:=by simpa using hn
    obtain ⟨m1,m2,m3⟩:=n2 hn0
    simp only [cff]
    obtain ⟨l1,l2,l3,l4⟩:=rangeF_emb (body:=world_World_Change_B3 a.w) (fun b:AW=>(L,b.w,b.ps)) (fun b i (_:Procs)=>chgOne L b i) (fun i b=>GA B b∧LikeW a b∧∀ j:Nat,i≤j→b.ps[j]? = a.ps[j]?) (l:=a.ps) (fun i x b hx hb=>by
      obtain ⟨b1,b2,b3⟩:=hb
      have hx':b.ps[i]? = some x:=by rw [b3 i (Nat.le_refl _)]; exact hx
      obtain ⟨s1,s2,s3⟩:=chg_step b1 hB hL hT b2 hx' (fun ha=>g2 i x hx (by rw [← act_same b2.view b2.len (b3 i (Nat.le_refl _))]; exact ha))
      exact ⟨s1,s2,s3,fun j hj=>by rw [chg_other (by omega)]; exact b3 j (by omega)⟩) a.ps.length 0 a (by omega) ⟨h,⟨rfl,rfl,rfl,rfl⟩,fun j _=>rfl⟩
    rw [List.drop_zero] at l1 l2 l3 l4
    generalize foldI (fun b i (_:Procs)=>chgOne L b i) 0 a.ps a=d at l1 l2 l3 l4
    have l1':rangeF (world_World_Change_B3 a.w) a.ps.length 0 (L,a.w,a.ps)=some (L,d.w,d.ps):=l1
    rw [l1',Obs]
    simp only
    refine ⟨?_,⟨l2.n,l2.ps,⟨Nat.zero_le _,fun m hm=>by cases hm⟩,l2.way,?_⟩,l3.way⟩
    · have:a.w.way=d.w.way:=by show a.way.map packS=d.way.map packS; rw [l3.way]
      rw [this]
      rfl
    · have:=h.num
      simp only
      omega
def doM (fu:Nat) (a:AW) (d:Deed):AW×Int :=
  bif d.Kind==1 then sayM a d.Who d.Text else
  bif d.Kind==2 then againM a d.Who else
  bif d.Kind==3 then moveM fu a d.Who d.How else
  bif d.Kind==4 then fallM a d.Who else
  bif d.Kind==5 then changeM a else (a,1)
theorem say_ord (a:AW) (p:Int) (t:Str):(sayM a p t).1.ord=a.ord:=by
  unfold sayM
  cases (who a p != 0) with
  | true=>rfl
  | false =>
    cases decide (t.length > 150) with
    | true=>rfl
    | false =>
      cases decide (a.way.length=60) with
      | true=>rfl
      | false =>
        cases a.ps[p.toNat]? with
        | none=>rfl
        | some x =>
          simp only [cff]
          cases fullF x.from_ with
          | true=>rfl
          | false=>simp only [cff]; rw [sendM_ord]
theorem again_like (a:AW) (p:Int):Like a (againM a p).1:=by
  unfold againM
  cases (who a p != 0) with
  | true=>exact ⟨rfl,rfl,rfl⟩
  | false =>
    cases a.ps[p.toNat]? with
    | none=>exact ⟨rfl,rfl,rfl⟩
    | some x=>exact Like.send (foldI_inv (Like a) _ 0 a (fun b j q _ hb=>hb.send ..) ⟨rfl,rfl,rfl⟩) ..
theorem fall_same (a:AW) (p:Int):(fallM a p).1.ord=a.ord∧(fallM a p).1.way=a.way:=by
  unfold fallM
  cases (!knw a p) with
  | true=>exact ⟨rfl,rfl⟩
  | false =>
    cases a.ps[p.toNat]? with
    | none=>exact ⟨rfl,rfl⟩
    | some x=>exact ⟨rfl,rfl⟩
theorem foldI_len {α:Type} {f:AW→Nat→α→AW} (h:∀ b j x,(f b j x).ps.length=b.ps.length):∀ (l:List α) (i:Nat) (b:AW),(foldI f i l b).ps.length=b.ps.length
  | [],_,_=>rfl
  | x::l,i,b=>(foldI_len h l (i+1) _).trans (h b i x)
theorem len_send (a:AW) (k f t s:Int) (x:Str):(sendM a k f t s x).ps.length=a.ps.length:=by rw [sendM_ps]
theorem len_ask (s f:Int):∀ (k i:Nat) (b:AW),(askGo s f k i b).ps.length=b.ps.length
  | 0,_,_=>rfl
  | k+1,i,b=>by
    unfold askGo
    cases b.ord[i]? with
    | none=>rfl
    | some m=>exact (len_ask s f k (i+1) _).trans (len_send ..)
theorem len_hear (b:AW) (p:Int) (t:Str):(hearM b p t).ps.length=b.ps.length:=by
  unfold hearM
  cases b.ps[p.toNat]? with
  | none=>rfl
  | some x=>simp
theorem len_chg (L:List Saying) (b:AW) (i:Nat):(chgOne L b i).ps.length=b.ps.length:=by
  unfold chgOne
  cases b.ps[i]? with
  | none=>rfl
  | some x=>simp
theorem len_deliv (fu:Nat) (a:AW) (n:Note):(delivM fu a n).ps.length=a.ps.length:=by
  unfold delivM
  cases (!knw a n.From) with
  | true=>rfl
  | false =>
  cases n.Kind==1 with
  | true =>
    simp only [ctt,cff]
    unfold orderM
    cases a.ps[n.From.toNat]? with
    | none=>rfl
    | some x =>
      simp only
      cases decide (n.Seq > 16777214) with
      | true=>rfl
      | false =>
        rw [cff,foldI_len fun b j t=>by rw [(ordOne_like ..).ps]]
        simp
  | false =>
  cases n.Kind==3 with
  | true=>exact len_ask ..
  | false =>
  cases n.Kind==2 with
  | true =>
    simp only [ctt,cff]
    unfold takeM
    cases a.ps[n.To.toNat]? with
    | none=>rfl
    | some x =>
      simp only
      cases decide (n.Seq > 16777214) with
      | true=>rfl
      | false =>
        rw [cff,foldI_len fun b j t=>len_hear b n.To t]
        simp
  | false=>rfl
theorem len_do (fu:Nat) (a:AW) (d:Deed):(doM fu a d).1.ps.length=a.ps.length:=by
  unfold doM
  cases d.Kind==1 with
  | true =>
    rw [ctt]
    unfold sayM
    cases (who a d.Who != 0) with
    | true=>rfl
    | false =>
    cases decide (d.Text.length > 150) with
    | true=>rfl
    | false =>
    cases decide (a.way.length=60) with
    | true=>rfl
    | false =>
    cases a.ps[d.Who.toNat]? with
    | none=>rfl
    | some x =>
      simp only [cff]
      cases fullF x.from_ with
      | true=>rfl
      | false=>rw [cff]; simp only; rw [len_send]; simp
  | false =>
  cases d.Kind==2 with
  | true=>simp only [ctt,cff]; rw [(again_like a d.Who).ps]
  | false =>
  cases d.Kind==3 with
  | true =>
    simp only [ctt,cff]
    unfold moveM
    cases !(decide (d.How≥1)&&decide (d.How≤3)) with
    | true=>rfl
    | false =>
    cases !(decide (d.Who≥0)&&decide (d.Who≤(a.way.length:Int) - 1)) with
    | true=>rfl
    | false =>
    cases (d.How==3)&&decide (a.way.length=60) with
    | true=>rfl
    | false =>
    cases a.way[d.Who.toNat]? with
    | none=>rfl
    | some n =>
      simp only [cff]
      cases d.How==3 with
      | true=>rfl
      | false =>
        rw [cff]
        simp only
        cases ((d.How==1)&&(n.View==a.view.Num))&&act a n.To with
        | true=>rw [ctt,len_deliv]
        | false=>rfl
  | false =>
  cases d.Kind==4 with
  | true =>
    simp only [ctt,cff]
    unfold fallM
    cases !knw a d.Who with
    | true=>rfl
    | false =>
    cases a.ps[d.Who.toNat]? with
    | none=>rfl
    | some x=>simp
  | false =>
  cases d.Kind==5 with
  | true =>
    simp only [ctt,cff]
    unfold changeM
    cases (nextV a.view (glM a).1).2 != 0 with
    | true=>rfl
    | false =>
      rw [cff]
      show (foldI _ 0 a.ps a).ps.length=_
      rw [foldI_len fun b j x=>len_chg ..]
  | false=>rfl
theorem do_law {B fu:Nat} {a:AW} (hfu:200 < fu) (h:GA B a) (hB:B≤2 ^ 34) (d:Deed):partlaw_doOf fu a.w d=some ((doM fu a d).1.w.all,(doM fu a d).1.w,(doM fu a d).2)∧GA (B+17) (doM fu a d).1:=by
  unfold partlaw_doOf doM
  cases d.Kind==1 with
  | true =>
    rw [ctt,ctt,say_law h,Obs]
    refine ⟨?_,(h.say ..).mono (by omega)⟩
    have:=say_ord a d.Who d.Text
    generalize sayM a d.Who d.Text=r at this
    have e:a.w.ordered=r.1.w.ordered:=by show a.ord.map enc3=r.1.ord.map enc3; rw [this]
    rw [e]
  | false =>
  cases d.Kind==2 with
  | true =>
    simp only [ctt,cff]
    rw [again_law h,Obs]
    refine ⟨?_,(h.again ..).mono (by omega)⟩
    have:=again_like a d.Who
    generalize againM a d.Who=r at this
    have e1:a.w.all=r.1.w.all:=this.ps.symm
    have e2:a.w.ordered=r.1.w.ordered:=by show a.ord.map enc3=r.1.ord.map enc3; rw [this.ord]
    rw [e1,e2]
  | false =>
  cases d.Kind==3 with
  | true =>
    simp only [ctt,cff]
    obtain ⟨e1,e2⟩:=move_law hfu h hB d.Who d.How
    rw [e1,Obs]
    exact ⟨rfl,e2⟩
  | false =>
  cases d.Kind==4 with
  | true =>
    simp only [ctt,cff]
    rw [fall_law h,Obs]
    refine ⟨?_,(h.fall ..).mono (by omega)⟩
    obtain ⟨q1,q2⟩:=fall_same a d.Who
    generalize fallM a d.Who=r at q1 q2
    have e1:a.w.ordered=r.1.w.ordered:=by show a.ord.map enc3=r.1.ord.map enc3; rw [q1]
    have e2:a.w.way=r.1.w.way:=by show a.way.map packS=r.1.way.map packS; rw [q2]
    rw [e1,e2]
  | false =>
  cases d.Kind==5 with
  | true =>
    simp only [ctt,cff]
    obtain ⟨c1,c2,c3⟩:=change_law h hB
    rw [c1,Obs]
    refine ⟨?_,c2.mono (by omega)⟩
    generalize changeM a=r at c3
    have e2:a.w.way=r.1.w.way:=by show a.way.map packS=r.1.way.map packS; rw [c3]
    rw [e2]
  | false=>exact ⟨rfl,h.mono (by omega)⟩
end Go.Proofs.YtchmclllcdknjaaGreatDoor
namespace Go.Proofs.YtchmclllcdknjaaGreatDoor
open Enc
def newA (n:Nat):AW:=⟨⟨0,((1:BitVec 8) <<< n) - (1:BitVec 8)⟩,List.replicate n Procs.zero,[],[]⟩
theorem new_law {n:Nat} (h:1≤n∧n≤6):world_New (n:Int)=some ((newA n).w,0):=by
  unfold world_New
  have hm:mkLen (n:Int)=some n:=by unfold mkLen; rw [if_pos (by omega)]; rfl
  rw [winn_eq,Obs,dtt (show (n:Int)≥1 by omega),dtt (show (n:Int)≤6 by omega),cnt_nat,hm]
  rfl
theorem GP.zero:GP 0 Procs.zero:=⟨Nat.le_refl _,fun s hs=>(by cases hs),⟨Int.le_refl _,by show (0:Int)+((0:Nat):Int)≤_; omega⟩,⟨Nat.zero_le _,fun t ht=>by cases ht⟩,⟨good0,fun p hp=>by cases hp⟩,⟨good0,fun p hp=>by cases hp⟩⟩
theorem GA.new {n:Nat} (h:1≤n∧n≤6):GA 0 (newA n):=by
  refine ⟨by simpa [newA] using h,fun x hx=>?_,⟨Nat.le_refl _,fun m hm=>by cases hm⟩,⟨Nat.zero_le _,fun m hm=>by cases hm⟩,⟨Int.le_refl _,by show (0:Int)≤_; omega⟩⟩
  have:=(List.mem_replicate.1 hx).2
  rw [this]; exact GP.zero
theorem log_law {B:Nat} {a:AW} (h:GA B a) (hB:B≤2 ^ 35) {i:Nat} (hi:i < a.ps.length):world_World_Log a.w (i:Int)=some (a.ps[i].log,0):=by
  have hk:knw a (i:Int)=true:=knw_iff.2 ⟨i,rfl,hi⟩
  have hp:=(h.ps a.ps[i] (List.getElem_mem hi)).log
  have e:a.w.all=a.ps:=rfl
  unfold world_World_Log
  rw [known_law h.n,hk,Obs]
  simp only [Bool.not_true,cff,bne_self_eq_false]
  rw [e,lat_at hi,Obs,clone_says (by omega),Obs]
end Go.Proofs.YtchmclllcdknjaaGreatDoor
namespace Go.Proofs.YtchmclllcdknjaaGreatDoor
open Enc
theorem cons_drop {l:List Int} (h:1≤l.length):l=l[0]::l.drop 1:=by
  cases l with
  | nil=>simp at h
  | cons a l=>rfl
theorem min_eq (l:List Int) {fu:Nat} (h1:1≤l.length) (h2:l.length≤10) (hf:20≤fu):∃ r,slices_Min_int_int fu l=some r∧(0≤r↔∀ x∈l,0≤x):=by
  unfold slices_Min_int_int
  rw [show decide ((l.length:Int) < 1)=false from dff (by omega),cff,show (0:Int)=((0:Nat):Int) from rfl,lat_nat,List.getElem?_eq_getElem (by omega),Obs]
  obtain ⟨r,j,e,h3⟩:=min_loop (l:=l) (body:=slices_Min_int_int_B0 l) (by omega) (fun m i=>rfl) fu 1 l[0] (by omega) (by omega)
  rw [show (1:Int)=((1:Nat):Int) from rfl,e]
  refine ⟨r,rfl,?_⟩
  rw [h3]
  have e0:=cons_drop h1
  constructor
  · rintro ⟨a,b⟩ x hx
    rw [e0] at hx
    rcases List.mem_cons.1 hx with rfl | hx
    · exact a
    · exact b x hx
  · intro h
    exact ⟨h _ (List.getElem_mem _),fun x hx=>h x (List.mem_of_mem_drop hx)⟩
theorem max_eq (l:List Int) {fu:Nat} (h1:1≤l.length) (h2:l.length≤10) (hf:20≤fu):∃ r,slices_Max_int_int fu l=some r∧∀ c,r≤c↔∀ x∈l,x≤c:=by
  unfold slices_Max_int_int
  rw [show decide ((l.length:Int) < 1)=false from dff (by omega),cff,show (0:Int)=((0:Nat):Int) from rfl,lat_nat,List.getElem?_eq_getElem (by omega),Obs]
  obtain ⟨r,j,e,h3,_⟩:=max_loop (l:=l) (body:=slices_Max_int_int_B0 l) (by omega) (fun m i=>rfl) fu 1 l[0] (by omega) (by omega)
  rw [show (1:Int)=((1:Nat):Int) from rfl,e]
  refine ⟨r,rfl,fun c=>?_⟩
  rw [h3]
  have e0:=cons_drop h1
  constructor
  · rintro ⟨a,b⟩ x hx
    rw [e0] at hx
    rcases List.mem_cons.1 hx with rfl | hx
    · exact a
    · exact b x hx
  · intro h
    exact ⟨h _ (List.getElem_mem _),fun x hx=>h x (List.mem_of_mem_drop hx)⟩
theorem check_eq (t:Note) {fu:Nat} (hf:20≤fu):partref_NoteErr fu t=wire_Check t:=by
  obtain ⟨r,e1,h1⟩:=min_eq t.At.toList (fu:=fu) (by simp) (by simp) hf
  obtain ⟨m,e2,h2⟩:=max_eq t.At.toList (fu:=fu) (by simp) (by simp) hf
  rw [check_val]
  unfold partref_NoteErr
  rw [e1,e2]
  simp only [cond_some,Obs,Bool.cond_true_left]
  have a1:(decide (t.Kind < 0)||decide (t.Kind > 255)||decide (min (min (min t.From t.To) t.View) t.Seq < 0)||decide (max t.From t.To > 5)||decide (max t.View t.Seq > 16777215))=(!(decide (t.Kind≥0)&&decide (t.Kind≤255))||!(decide (t.From≥0)&&decide (t.From≤5))||!(decide (t.To≥0)&&decide (t.To≤5))||!inR t.View||!inR t.Seq):=by
    unfold inR
    rw [Bool.eq_iff_iff]
    simp only [Bool.or_eq_true,decide_eq_true_eq,Bool.not_eq_true',Bool.and_eq_false_iff,decide_eq_false_iff_not]
    omega
  have a2:(decide (r < 0)||decide (m > 16777215))=t.At.toList.any (fun x=>!inR x):=by
    rw [Bool.eq_iff_iff,List.any_eq_true]
    simp only [Bool.or_eq_true,decide_eq_true_eq]
    have h3:=h2 16777215
    constructor
    · intro h
      refine Classical.byContradiction fun hn=>?_
      have hall:∀ x∈t.At.toList,0≤x∧x≤16777215:=fun x hx=>by
        have:¬ (!inR x)=true:=fun k=>hn ⟨x,hx,k⟩
        unfold inR at this
        simp at this
        exact this
      have b1:=h1.2 fun x hx=>(hall x hx).1
      have b2:=h3.2 fun x hx=>(hall x hx).2
      omega
    · rintro ⟨x,hx,k⟩
      refine Classical.byContradiction fun hn=>?_
      have b1:=h1.1 (by omega) x hx
      have b2:=h3.1 (by omega) x hx
      unfold inR at k
      simp [b1,b2] at k
  rw [a1,a2]
end Go.Proofs.YtchmclllcdknjaaGreatDoor
