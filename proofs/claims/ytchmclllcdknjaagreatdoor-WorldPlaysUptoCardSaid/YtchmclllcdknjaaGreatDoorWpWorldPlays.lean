/-
  The law: whatever happens, all calls answer what the document says.
-/
import Derived.Test.YtchmclllcdknjaaGreatDoorWpRefK
import Derived.Test.YtchmclllcdknjaaGreatDoorWpWorldVals
namespace Go.Proofs.YtchmclllcdknjaaGreatDoor
open Enc
theorem new_r {n:Nat}:partref_NewWorld (n:Int)=some ((newA n).r []):=by
  unfold partref_NewWorld
  rw [cnt_nat,Obs]
  have key:∀ {α:Type} (d:α) (f:Procs→α),f Procs.zero=d→RV d f (List.replicate n Procs.zero)=Vector.replicate 6 d:=fun d f h=>by
    apply Vector.ext
    intro j hj
    simp only [RV,Vector.getElem_ofFn,Vector.getElem_replicate]
    cases hd:(List.replicate n Procs.zero)[j]? with
    | none=>rfl
    | some y =>
      rw [(List.mem_replicate.1 (mog hd)).2]; exact h
  unfold AW.r newA
  rw [key [] (·.log) rfl,key To.zero (·.to) rfl,key From.zero (·.from_) rfl,key To.zero (·.orders) rfl]
  simp only [List.length_replicate]
  rfl
theorem new_nil (x:Int):world_New_nil x=if 1≤x∧x≤6 then none else some 1:=by
  unfold world_New_nil
  rw [winn_eq,Obs]
  by_cases h:1≤x∧x≤6
  · obtain ⟨n,rfl⟩:=int_nat (show 0≤x by omega)
    have hm:mkLen (n:Int)=some n:=by unfold mkLen; rw [if_pos (by omega)]; rfl
    rw [if_pos h,dtt (show (n:Int)≥1 by omega),dtt (show (n:Int)≤6 by omega),cnt_nat,hm]
    rfl
  · have:(decide (x≥1)&&decide (x≤6))=false:=by
      simp only [Bool.and_eq_false_iff,decide_eq_false_iff_not]; omega
    rw [if_neg h,this]; rfl
theorem Mb.new {n:Nat} (h:1≤n∧n≤6):Mb (newA n):=by
  have:∀ n:Fin 7,1≤n.val→(((1:BitVec 8) <<< n.val) - (1:BitVec 8)).toNat < 2 ^ n.val:=by decide
  unfold Mb newA
  simp only [List.length_replicate]
  exact this ⟨n,by omega⟩ h.1
theorem newA_get {n i:Nat} {x:Procs} (hx:(newA n).ps[i]? = some x):x=Procs.zero:=(List.mem_replicate.1 (mog hx)).2
theorem GoneOk.new {n:Nat}:GoneOk [] (newA n):=fun i x hx=>by rw [newA_get hx]; rfl
theorem OS.new {n:Nat}:OS 0 (newA n):=by
  refine ⟨fun m hm=>(by cases hm),fun x hx=>?_,fun i x hx=>?_,fun m hm=>(by cases hm),fun i x hx=>?_,fun m hm=>(by cases hm),fun i x hx _=>?_⟩
  · rw [(List.mem_replicate.1 hx).2]; exact Int.le_refl _
  · rw [newA_get hx]; exact ⟨Int.le_refl _,fun p hp=>(by cases hp)⟩
  · rw [newA_get hx]; rfl
  · rw [newA_get hx]; exact Int.le_refl _
theorem log_no {a:AW} (hn:1≤a.ps.length∧a.ps.length≤6) {p:Int} (h:knw a p=false):world_World_Log a.w p=some ([],1):=by
  unfold world_World_Log
  rw [known_law hn,h,Obs]; rfl
theorem late_no {a:AW} (hn:1≤a.ps.length∧a.ps.length≤6) {p:Int} (h:knw a p=false):world_World_Late a.w p=some ([],1):=by
  unfold world_World_Late
  rw [known_law hn,h,Obs]; rfl
theorem vals_no {a:AW} (hn:1≤a.ps.length∧a.ps.length≤6) {p:Int} (fu:Nat) (h:knw a p=false):world_World_Vals fu a.w p=some (Vector.replicate 10 0,1):=by
  unfold world_World_Vals
  rw [log_no hn h,Obs]; rfl
theorem late_law {B:Nat} {a:AW} (h:GA B a) {i:Nat} (hi:i < a.ps.length):world_World_Late a.w (i:Int)=some (a.ps[i].from_.Late,0):=by
  have hk:knw a (i:Int)=true:=knw_iff.2 ⟨i,rfl,hi⟩
  have hp:=(h.ps a.ps[i] (List.getElem_mem hi)).late
  have e:a.w.all=a.ps:=rfl
  unfold world_World_Late
  rw [known_law h.n,hk,Obs]
  simp only [Bool.not_true,cff,bne_self_eq_false]
  rw [e,lat_at hi,Obs,clone_strs (by omega),Obs]
theorem rvals_loop (l:List Saying) (hl:l.length≤2 ^ 38):∀ (k i:Nat) (z:List Str),i+k=l.length→z.length≤i→rangeF (partref_World_Vals_B0 l) k i z=some (z++(l.drop i).map (·.Text))
  | 0,i,z,hk,_=>by
    have e:l.drop i=[]:=List.drop_of_length_le (by omega)
    rw [e]
    show some z=some (z++[])
    rw [List.append_nil]
  | k+1,i,z,hk,hz=>by
    have hi:i < l.length:=by omega
    have hx:l[i]? = some l[i]:=by simp [hi]
    have hb:partref_World_Vals_B0 l i z=some (z++[l[i].Text]):=by
      unfold partref_World_Vals_B0
      rw [lat_nat,hx,Obs,room_ok (by simp; omega),Obs]
    unfold rangeF
    rw [hb,Obs,rvals_loop l hl k (i+1) _ (by omega) (by simp; omega),List.drop_eq_getElem_cons hi,List.map_cons,List.append_assoc]
    rfl
theorem rvals {B fu:Nat} {a:AW} {g:List (Int×Int)} (hfu:2 ^ 21+400 < fu) (h:GA B a) (hB:B≤2 ^ 35) {i:Nat} (hi:i < a.ps.length):partref_World_Vals fu (a.r g) (i:Int)=some (valV fu a.ps[i].log):=by
  have hp:=h.ps a.ps[i] (List.getElem_mem hi)
  have hlog:=hp.log
  obtain ⟨r,r1,r2⟩:=run_law (fu:=fu) (v:=Vector.replicate 10 (0:Int)) (l:=a.ps[i].log.map (·.Text)) (fun s hs=>by
    obtain ⟨x,hx,rfl⟩:=List.mem_map.1 hs
    have:=hp.txt x hx
    omega) hfu
  have hl:=rvals_loop a.ps[i].log (by omega) a.ps[i].log.length 0 [] (by omega) (by simp)
  rw [List.drop_zero,List.nil_append] at hl
  unfold partref_World_Vals
  rw [show (a.r g).Logs=RV [] (·.log) a.ps from rfl,RV.get (by have:=h.n.2; omega) (show a.ps[i]? = some a.ps[i] by simp [hi]),Obs,hl,Obs,r2,Obs]
  unfold valV
  rw [r1]
  rfl
theorem plays_law {x:Int} {ds:List Deed} (hd:ds.length≤1048576):partlaw_WorldPlays 4194304 x ds=some true:=by
  have hfu:2 ^ 21+400 < 4194304:=by omega
  generalize hF:4194304=fu at hfu
  unfold partlaw_WorldPlays
  rw [new_nil]
  by_cases hx:¬ (1≤x∧x≤6)
  · rw [if_neg hx,or_some]
    have:(decide (x < 1)||decide (x > 6))=true:=by
      simp only [Bool.or_eq_true,decide_eq_true_eq]; omega
    unfold alt
    simp only [Obs]
    rw [this]; rfl
  have hx:=Classical.not_not.1 hx
  obtain ⟨n,rfl⟩:=int_nat (show 0≤x by omega)
  have h16:1≤n∧n≤6:=by omega
  rw [if_pos hx]
  unfold alt
  simp only
  rw [new_law h16,Obs,or_some,Obs,dff (show ¬ (n:Int) < 1 by omega),dff (show ¬ (n:Int) > 6 by omega)]
  simp only [Bool.or_self,cff,bne_self_eq_false,Obs]
  rw [new_r,Obs]
  have run1:Tot (rangeM (partlaw_WorldPlays_B0 fu ds) ds.length 0 ((newA n).r [],(newA n).w,((newA n).r []).gone,(newA n).w.all)) fun o=>∃ (b:AW) (g:List (Int×Int)),o=.inl (b.r g,b.w,g,b.ps)∧GA (17 * ds.length) b∧b.ps.length=n:=by
    refine Tot.rangeM (fun i z=>∃ (b:AW) (g:List (Int×Int)) (base:List Saying),z=(b.r g,b.w,g,b.ps)∧GA (17 * i) b∧PV base b∧OS i b∧Mb b∧GoneOk g b∧b.ps.length=n) ⟨newA n,[],[],rfl,GA.new h16,PV.new,OS.new,Mb.new h16,GoneOk.new,by simp [newA]⟩ ?_ (fun z hz=>?_)
    · rintro i _ _ hi ⟨b,g,base,rfl,hG,hP,hO,hM,hg,hl⟩
      have hi:i < ds.length:=by omega
      have hxd:ds[i]? = some ds[i]:=by simp [hi]
      generalize ds[i]=d at hxd
      obtain ⟨d1,d2⟩:=do_law (fu:=fu) (by omega) hG (by omega) d
      obtain ⟨g',r1,r2,r3,r4⟩:=do_r (fu:=fu) (by omega) hO hP hG (by omega) (by omega) hM hg d
      obtain ⟨base',hP'⟩:=hP.do hG (fu:=fu) (by omega) d
      have hlen:=len_do fu b d
      unfold partlaw_WorldPlays_B0
      simp only
      rw [lat_nat,hxd,Obs,show ({b.w with all:=b.ps}:Wld)=b.w from rfl,d1,Obs,show ({b.r g with gone:=g}:RWld)=b.r g from rfl,r1,Obs]
      simp only
      generalize doM fu b d=r at d2 r2 r3 r4 hP' hlen
      rw [show (r.2 != r.2)=false by simp,cff,show ({r.1.w with all:=r.1.w.all}:Wld)=r.1.w from rfl]
      unfold world_World_View world_World_Way
      rw [Obs,show r.1.w.view=(r.1.r g').V from rfl,dtt rfl,Bool.not_true,cff,Obs,Let_eq]
      simp only
      have hw:(r.1.w.way.length:Int)=((r.1.r g').WayNotes.length:Int):=by
        show ((r.1.way.map packS).length:Int)=(r.1.way.length:Int)
        rw [List.length_map]
      rw [hw,show ((((r.1.r g').WayNotes.length:Int)) != ((r.1.r g').WayNotes.length:Int))=false by simp,cff,Tot.some_iff]
      exact Tot.go_iff.2 ⟨r.1,g',base',rfl,by rw [Nat.mul_add]; exact d2,hP',r4,r3,r2,by omega⟩
    · obtain ⟨b,g,base,rfl,hz⟩:=hz
      rw [Nat.zero_add] at hz
      exact ⟨b,g,rfl,hz.1,hz.2.2.2.2.2⟩
  obtain ⟨o,e1,b,g,rfl,hG,hpl⟩:=run1
  rw [e1,andThen_inl]
  simp only
  have run2:Tot (whileM (partlaw_WorldPlays_B2 fu (n:Int) (b.r g) b.w g b.ps) fu (-1:Int)) fun o=>∃ s,o=.inl s:=by
    refine Tot.whileM (fun z=>∃ k:Nat,z=(k:Int) - 1) (fun z=>((n:Int)+1 - z).toNat) ⟨0,by omega⟩ (by omega) ?_
    rintro _ ⟨k,rfl⟩
    have hw:w64 ((k:Int) - 1+1)=(k:Int)∨¬ (k:Int) - 1≤n:=by
      by_cases c:(k:Int) - 1≤n
      · left; rw [w64_id (by omega) (by omega)]; omega
      · right; exact c
    unfold partlaw_WorldPlays_B2
    rw [Tot.ite_iff]
    refine ⟨fun q=>?_,fun q=>?_⟩
    · have q:(k:Int) - 1≤n:=by simpa using q
      have hw:w64 ((k:Int) - 1+1)=(k:Int):=by rw [w64_id (by omega) (by omega)]; omega
      rw [show ({b.w with all:=b.ps}:Wld)=b.w from rfl]
      by_cases hin:1≤k∧(k:Int) - 1 < n
      · obtain ⟨i,hi⟩:=int_nat (show 0≤(k:Int) - 1 by omega)
        rw [hi] at hw ⊢
        have hil:i < b.ps.length:=by omega
        have hbx:b.ps[i]? = some b.ps[i]:=by simp [hil]
        have h6:i < 6:=by omega
        rw [log_law hG (by omega) hil,Obs,late_law hG hil,Obs,vals_law hfu hG (by omega) hil,Obs,or_some,Obs,dff (show ¬ (i:Int) < 0 by omega),show ((i:Int)==(n:Int))=false by simp; omega]
        simp only [Bool.or_self,cff]
        rw [show (b.r g).Logs=RV [] (·.log) b.ps from rfl,RV.get h6 hbx,Obs,eq_slices_Equal_api_Saying_api_Saying,Obs,dtt rfl]
        simp only [Bool.not_true,cff,bne_self_eq_false,Obs]
        rw [show (b.r g).Late=RV From.zero (·.from_) b.ps from rfl,RV.get h6 hbx,Obs,eq_slices_Equal_string_string,Obs,dtt rfl]
        simp only [Bool.not_true,cff,Obs]
        have hrv:=rvals (g:=g) hfu hG (by omega) hil
        unfold AW.r at hrv ⊢
        simp only at hrv ⊢
        rw [hrv]
        simp only [Obs,decide_true,Bool.not_true,cff]
        rw [Tot.some_iff,hw]
        exact Tot.go_iff.2 ⟨⟨k+1,by omega⟩,by omega⟩
      · have hk:knw b ((k:Int) - 1)=false:=by
          rw [Bool.eq_false_iff]; intro c
          obtain ⟨i,e,hi⟩:=knw_iff.1 c
          omega
        rw [log_no hG.n hk,Obs,late_no hG.n hk,Obs,vals_no hG.n fu hk,Obs,or_some,Obs]
        have hor:(decide ((k:Int) - 1 < 0)||((k:Int) - 1==(n:Int)))=true:=by
          simp only [Bool.or_eq_true,decide_eq_true_eq,beq_iff_eq]; omega
        rw [hor,ctt]
        simp only [List.length_nil]
        rw [dff (by omega)]
        simp only [cff,bne_self_eq_false,Obs]
        simp only [decide_true,Bool.not_true,cff,Obs]
        rw [Tot.some_iff,hw]
        exact Tot.go_iff.2 ⟨⟨k+1,by omega⟩,by omega⟩
    · rw [Tot.some_iff]
      exact Tot.brk_iff.2 ⟨_,rfl⟩
  obtain ⟨o,e2,s,rfl⟩:=run2
  rw [e2,andThen_inl]
theorem plays_up (x:Int) (a:List Deed) {p:Prop} (_:p) (ha:a.length≤1048576∧∀ r∈a,Bnd.ok 1048576 r):∃ fu,partlaw_WorldPlays fu x a=some true :=
  ⟨4194304,plays_law ha.1⟩
end Go.Proofs.YtchmclllcdknjaaGreatDoor
