/-
  What the functions of the slices library compute.
-/
import Derived.Test.YtchmclllcdknjaaGreatDoorWpSp
import Derived.Test.YtchmclllcdknjaaGreatDoorGoW
namespace Go.Proofs.YtchmclllcdknjaaGreatDoor
open Enc
theorem eq_slices_Concat_api_Note_api_Note {l m:List Note} (h:l.length+m.length≤2 ^ 30):slices_Concat_api_Note_api_Note [l,m]=some (l++m):=by
  have hmk:mkLen ((l.length+m.length:Nat):Int)=some (l.length+m.length):=by unfold mkLen; rw [if_pos (by omega)]; rfl
  have e0:w64 ((0:Int) - 0)=0:=by rw [w64_id (by omega) (by omega)]; rfl
  have hg:slices_Grow_api_Note_api_Note ((l.length+m.length:Nat):Int)=some []:=by
    unfold slices_Grow_api_Note_api_Note
    rw [show decide (((l.length+m.length:Nat):Int) < 0)=false from dff (by omega),cff,e0,Int.sub_zero,w64_id (by omega) (by omega),hmk]
    cases decide (((l.length+m.length:Nat):Int) > 0) with
    | false=>rfl
    | true =>
      rw [ctt,Obs]
      have:∀ q:List Note,cutL q 0 0=some []:=fun q=>by unfold cutL; rw [if_pos (by omega)]; rfl
      rw [this]; rfl
  have e1:w64 ((0:Int)+(l.length:Int))=(l.length:Int):=by rw [w64_id (by omega) (by omega)]; omega
  have e2:w64 ((l.length:Int)+(m.length:Int))=((l.length+m.length:Nat):Int):=by rw [w64_id (by omega) (by omega)]; omega
  have l1:rangeF (slices_Concat_api_Note_api_Note_B0 [l,m]) [l,m].length 0 (0:Int)=some ((l.length+m.length:Nat):Int):=by
    show rangeF (slices_Concat_api_Note_api_Note_B0 [l,m]) 2 0 0=_
    simp only [rangeF]
    unfold slices_Concat_api_Note_api_Note_B0
    simp only [lat_nat,List.getElem?_cons_zero,List.getElem?_cons_succ,Obs,e1,e2,show decide ((l.length:Int) < 0)=false from dff (by omega),show decide (((l.length+m.length:Nat):Int) < 0)=false from dff (by omega),cff,Nat.zero_add]
  have l2:rangeF (slices_Concat_api_Note_api_Note_B2 [l,m]) [l,m].length 0 []=some (l++m):=by
    show rangeF (slices_Concat_api_Note_api_Note_B2 [l,m]) 2 0 []=_
    simp only [rangeF]
    unfold slices_Concat_api_Note_api_Note_B2
    simp only [lat_nat,List.getElem?_cons_zero,List.getElem?_cons_succ,Obs,Nat.zero_add,List.nil_append]
    rw [room_ok (by simp; omega),Obs,Obs,room_ok (by omega)]
    rfl
  unfold slices_Concat_api_Note_api_Note
  rw [l1,Obs,hg,Obs,l2]
  rfl
theorem eq_slices_Index_string_string (l:List Str) (a:Str):slices_Index_string_string l a=some (idxI (a==·) l):=by
  unfold slices_Index_string_string
  refine index_loop _ fun j x hx=>?_
  unfold slices_Index_string_string_B0
  rw [lat_nat,hx,Obs]
  try rw [u_beq]
  first | (cases (a==x) <;> rfl) | (by_cases e:a=x <;> simp [e]; done) | (rw [show (a==x)=decide (a=x) from by (rw [Bool.eq_iff_iff]; simp)]; cases decide (a=x) <;> rfl)
theorem eq_slices_Equal_api_Saying_api_Saying (l m:List Saying):slices_Equal_api_Saying_api_Saying l m=some (decide (l=m)):=by
  unfold slices_Equal_api_Saying_api_Saying
  exact equal_loop (fun x y=>!(decide (x=y))) (fun x y=>by first | rfl | (rw [Bool.eq_iff_iff]; simp; done) | (rw [u_bne,Bool.eq_iff_iff]; simp)) (fun j=>rfl)
theorem eq_slices_Equal_string_string (l m:List Str):slices_Equal_string_string l m=some (decide (l=m)):=by
  unfold slices_Equal_string_string
  exact equal_loop (fun x y=>!(decide (x=y))) (fun x y=>by first | rfl | (rw [Bool.eq_iff_iff]; simp; done) | (rw [u_bne,Bool.eq_iff_iff]; simp)) (fun j=>rfl)
end Go.Proofs.YtchmclllcdknjaaGreatDoor
namespace Go.Proofs.YtchmclllcdknjaaGreatDoor
open Enc
theorem win_eq (a b c:Int):wire_in a b c=some (decide (a≥b)&&decide (a≤c)):=by
  unfold wire_in; simp only [cond_some,Obs,Bool.cond_false_right]
def inR (x:Int):Bool:=decide (x≥0)&&decide (x≤16777215)
theorem any_eq (l:List Int):slices_ContainsFunc_int_int_Check_2 l=some (l.any fun x=>!inR x):=by
  unfold slices_ContainsFunc_int_int_Check_2
  have:slices_IndexFunc_int_int_Check_2 l=some (idxI (fun x=>!inR x) l):=by
    unfold slices_IndexFunc_int_int_Check_2
    refine index_loop _ fun j x hx=>?_
    unfold slices_IndexFunc_int_int_Check_2_B0 wire_Check_2 wire_Check_1
    rw [lat_nat,hx,Obs,win_eq]
    simp only [Obs]
    unfold inR
    cases (!(decide (x≥0)&&decide (x≤16777215))) <;> rfl
  rw [this,Obs]
  congr 1
  rw [Bool.eq_iff_iff,List.any_eq_true,decide_eq_true_eq]
  rcases idxI_cases (fun x:Int=>!inR x) l with ⟨h,h1⟩|⟨i,y,h,h1,h2,_⟩
  · rw [h]
    exact ⟨fun k=>by omega,fun ⟨x,hx,k⟩=>by have:=h1 x hx; rw [this] at k; cases k⟩
  · rw [h]
    exact ⟨fun _=>⟨y,mog h1,h2⟩,fun _=>by omega⟩
structure NoteOk (t:Note):Prop where
  kind:0≤t.Kind∧t.Kind≤255
  from_:0≤t.From∧t.From≤5
  to:0≤t.To∧t.To≤5
  view:0≤t.View∧t.View≤16777215
  seq:0≤t.Seq∧t.Seq≤16777215
  at_:∀ x∈t.At.toList,0≤x∧x≤16777215
  text:t.Text.length≤200
theorem check_val (t:Note):wire_Check t=some (bif (!(decide (t.Kind≥0)&&decide (t.Kind≤255))||!(decide (t.From≥0)&&decide (t.From≤5))||!(decide (t.To≥0)&&decide (t.To≤5))||!inR t.View||!inR t.Seq) then 1 else bif t.At.toList.any (fun x=>!inR x) then 1 else bif decide ((t.Text.length:Int) > 200) then 2 else 0):=by
  unfold wire_Check wire_Check_1
  simp only [win_eq,any_eq,cond_some,Obs,Bool.cond_true_left]
  rfl
theorem check_law (t:Note):∃ c,wire_Check t=some c∧(c=0↔NoteOk t):=by
  rw [check_val]
  refine ⟨_,rfl,?_⟩
  cases h1:(!(decide (t.Kind≥0)&&decide (t.Kind≤255))||!(decide (t.From≥0)&&decide (t.From≤5))||!(decide (t.To≥0)&&decide (t.To≤5))||!inR t.View||!inR t.Seq) with
  | true =>
    refine ⟨fun h=>(by cases h),fun h=>?_⟩
    obtain ⟨k1,k2,k3,k4,k5,_,_⟩:=h
    unfold inR at h1
    simp [k1,k2,k3,k4,k5] at h1
  | false =>
    cases h2:t.At.toList.any (fun x=>!inR x) with
    | true =>
      refine ⟨fun h=>(by cases h),fun h=>?_⟩
      obtain ⟨x,hx,k⟩:=List.any_eq_true.1 h2
      have:=h.at_ x hx
      unfold inR at k
      simp [this] at k
    | false =>
      cases h3:decide ((t.Text.length:Int) > 200) with
      | true =>
        refine ⟨fun h=>(by cases h),fun h=>?_⟩
        have:=of_decide_eq_true h3
        have:=h.text
        omega
      | false =>
        refine ⟨fun _=>?_,fun _=>rfl⟩
        have h3':=of_decide_eq_false h3
        unfold inR at h1
        simp only [Bool.or_eq_false_iff,Bool.not_eq_false',Bool.and_eq_true,decide_eq_true_eq] at h1
        refine ⟨by omega,by omega,by omega,by omega,by omega,fun x hx=>?_,by omega⟩
        have:=List.any_eq_false.1 h2 x hx
        unfold inR at this
        simp at this
        exact this
theorem check_ok {t:Note} (h:NoteOk t):wire_Check t=some 0:=by
  obtain ⟨c,e,hc⟩:=check_law t
  rw [e,hc.2 h]
theorem check_bad {t:Note} (h:¬ NoteOk t):∃ c,wire_Check t=some c∧(c != 0)=true:=by
  obtain ⟨c,e,hc⟩:=check_law t
  exact ⟨c,e,bne_iff_ne.2 fun k=>h (hc.1 k)⟩
theorem rangeF_tot {σ:Type} {f:Nat→σ→Option σ}:∀ (k i:Nat) (z:σ),(∀ j z,i≤j→j < i+k→∃ z',f j z=some z')→∃ z',rangeF f k i z=some z'
  | 0,i,z,_=>⟨z,rfl⟩
  | k+1,i,z,h=>by
    obtain ⟨z1,h1⟩:=h i z (Nat.le_refl _) (by omega)
    obtain ⟨z2,h2⟩:=rangeF_tot k (i+1) z1 fun j z a b=>h j z (by omega) (by omega)
    exact ⟨z2,by unfold rangeF; rw [h1,Obs,h2]⟩
theorem sum_tot (s:Str) (h:s.length≤2 ^ 63 - 1):∃ r,wire_Sum s=some r:=by
  unfold wire_Sum
  rw [upTo_ok (by omega),Obs,tnc]
  obtain ⟨z,hz⟩:=rangeF_tot (f:=wire_Sum_B0 s) s.length 0 (4294967295:BitVec 32) fun j z _ hj=>by
    have hc:lat s (j:Int)=some (s[j]'(by omega)):=by rw [lat_nat]; simp [show j < s.length by omega]
    unfold wire_Sum_B0
    rw [hc,Obs]
    obtain ⟨z',hz'⟩:=rangeF_tot (f:=wire_Sum_B2) 8 0 (z ^^^ (BitVec.ofInt 32 ((s[j]'(by omega)).toBitVec.toNat:Int))) fun j z _ _=>by
      unfold wire_Sum_B2
      cases ((z &&& (1:BitVec 32)).toNat:Int)==((1:BitVec 32).toNat:Int) <;> exact ⟨_,rfl⟩
    exact ⟨z',by rw [hz',Obs]⟩
  rw [hz]
  exact ⟨_,rfl⟩
def sumV (s:Str):BitVec 32:=(wire_Sum s).getD 0
theorem sum_eq (s:Str) (h:s.length≤2 ^ 63 - 1):wire_Sum s=some (sumV s):=by
  obtain ⟨r,e⟩:=sum_tot s h
  unfold sumV; rw [e]; rfl
def b3 (n:Nat):List (BitVec 8):=[BitVec.ofNat 8 n,BitVec.ofNat 8 (n / 256),BitVec.ofNat 8 (n / 65536)]
def b4 (r:BitVec 32):List (BitVec 8):=b3 r.toNat++[BitVec.ofNat 8 (r.toNat / 16777216)]
theorem of8 (n:Nat):BitVec.ofInt 8 (n:Int)=BitVec.ofNat 8 n:=BitVec.ofInt_natCast 8 n
theorem three_eq (n:Nat):wire_three (n:Int)=some (b3 n):=by
  unfold wire_three b3
  have h1:((n:Int)).fdiv (2 ^ (min 8 64))=((n / 256:Nat):Int):=by
    rw [Int.fdiv_eq_ediv_of_nonneg _ (by decide)]; rfl
  have h2:((n:Int)).fdiv (2 ^ (min 16 64))=((n / 65536:Nat):Int):=by
    rw [Int.fdiv_eq_ediv_of_nonneg _ (by decide)]; rfl
  rw [h1,h2,of8,of8,of8]
theorem four_eq (r:BitVec 32):wire_four r=some (b4 r):=by
  unfold wire_four
  rw [three_eq,Obs,room_ok (by simp [b3]),Obs,of8,BitVec.toNat_ushiftRight,Nat.shiftRight_eq_div_pow]
  rfl
theorem pack_from {l:List Int} (hl:∀ x∈l,0≤x) (hn:l.length≤100):∀ (k i:Nat) (z:List (BitVec 8)),i+k=l.length→z.length≤10+3 * i→rangeF (wire_Pack_B0 l) k i z=some (z++(l.drop i).flatMap fun x=>b3 x.toNat)
  | 0,i,z,h,_=>by
    rw [List.drop_of_length_le (by omega)]; simp [rangeF]
  | k+1,i,z,h,hz=>by
    have hi:i < l.length:=by omega
    obtain ⟨n,hn'⟩:=int_nat (hl _ (List.getElem_mem hi))
    have hx:lat l (i:Int)=some (n:Int):=by rw [lat_nat,List.getElem?_eq_getElem hi,hn']
    have hb:(b3 n).length=3:=rfl
    have hs:wire_Pack_B0 l i z=some (z++b3 n):=by
      unfold wire_Pack_B0
      rw [hx,Obs,three_eq,Obs,room_ok (by rw [hb]; omega),Obs]
    unfold rangeF
    rw [hs,Obs,pack_from hl hn k (i+1) (z++b3 n) (by omega) (by rw [List.length_append,hb]; omega),List.drop_eq_getElem_cons hi,List.flatMap_cons,hn',tnc,List.append_assoc]
theorem ofBytes_append (l m:List (BitVec 8)):Str.ofBytes (l++m)=Str.ofBytes l++Str.ofBytes m:=by simp [Str.ofBytes]
theorem ofBytes_bytes (s:Str):Str.ofBytes (Str.bytes s)=s:=by
  unfold Str.ofBytes Str.bytes
  rw [List.map_map,show (UInt8.ofBitVec ∘ UInt8.toBitVec)=id from rfl,List.map_id]
theorem bytes_len (s:Str):(Str.bytes s).length=s.length:=by simp [Str.bytes]
theorem ofBytes_len (l:List (BitVec 8)):(Str.ofBytes l).length=l.length:=by simp [Str.ofBytes]
def headB (t:Note):List (BitVec 8):=[BitVec.ofInt 8 t.Kind,BitVec.ofInt 8 t.From,BitVec.ofInt 8 t.To]++([t.View,t.Seq]++t.At.toList).flatMap fun x=>b3 x.toNat
theorem headB_len (t:Note):(headB t).length=27:=by
  have hf:∀ l:List Int,(l.flatMap fun x=>b3 x.toNat).length=3 * l.length:=fun l=>by
    induction l with
    | nil=>rfl
    | cons a l ih=>rw [List.flatMap_cons,List.length_append,ih,List.length_cons]; have:(b3 a.toNat).length=3:=rfl; omega
  unfold headB
  rw [List.length_append,hf]
  simp
def bodyS (t:Note):Str:=Str.ofBytes (headB t)++t.Text
def packS (t:Note):Str:=bodyS t++Str.ofBytes (b4 (sumV (bodyS t)))
theorem bodyS_len (t:Note):(bodyS t).length=27+t.Text.length:=by unfold bodyS; rw [List.length_append,ofBytes_len,headB_len]
theorem packS_len (t:Note):(packS t).length=31+t.Text.length:=by
  unfold packS; rw [List.length_append,bodyS_len,ofBytes_len]; have:(b4 (sumV (bodyS t))).length=4:=rfl; omega
theorem pack_law {t:Note} (h:NoteOk t):wire_Pack t=some (packS t,0):=by
  have hat:t.At.toList.length=6:=by simp
  have hlen:([t.View,t.Seq]++t.At.toList).length=8:=by simp
  have hr:∀ x∈([t.View,t.Seq]++t.At.toList),0≤x:=by
    intro x hx
    rcases List.mem_append.1 hx with hx | hx
    · rcases List.mem_cons.1 hx with rfl | hx
      · exact h.view.1
      · rw [List.mem_singleton] at hx; subst hx; exact h.seq.1
    · exact (h.at_ x hx).1
  have e1:=pack_from hr (by omega) 8 0 [BitVec.ofInt 8 t.Kind,BitVec.ofInt 8 t.From,BitVec.ofInt 8 t.To] (by omega) (by simp)
  rw [List.drop_zero] at e1
  have e2:rangeF (wire_Pack_B0 ([t.View,t.Seq]++t.At.toList)) 8 0 [BitVec.ofInt 8 t.Kind,BitVec.ofInt 8 t.From,BitVec.ofInt 8 t.To]=some (headB t):=e1
  have ht:=h.text
  have hbl:=bytes_len t.Text
  have hhl:=headB_len t
  have hb4:∀ r,(b4 r).length=4:=fun _=>rfl
  have hb:=bodyS_len t
  unfold wire_Pack
  rw [check_ok h,Obs,show ((0:Int) != 0)=false from rfl,cff,room_ok (by rw [hat]; simp),Obs,Let_eq,upTo_ok (by omega),Obs,tnc,hlen,e2,Obs,room_ok (by omega),Obs,
    ofBytes_append,ofBytes_bytes,show Str.ofBytes (headB t)++t.Text=bodyS t from rfl,sum_eq _ (by omega),Obs,four_eq,Obs,room_ok (by rw [List.length_append,hb4]; omega),Obs,ofBytes_append,ofBytes_append,ofBytes_bytes]
  rfl
theorem pack_bad {t:Note} (h:¬ NoteOk t):∃ c,wire_Pack t=some (([]:Str),c)∧(c==0)=false:=by
  obtain ⟨c,e,hc⟩:=check_bad h
  refine ⟨c,?_,?_⟩
  · unfold wire_Pack
    rw [e,Obs,hc,ctt]
  · simpa using hc
def byt (s:Str) (i:Nat):Nat:=(s[i]?.getD 0).toBitVec.toNat
theorem byt_lt (s:Str) (i:Nat):byt s i < 256:=(s[i]?.getD 0).toBitVec.isLt
theorem lat_byt {s:Str} {i:Nat} (h:i < s.length):∃ c:UInt8,lat s (i:Int)=some c∧c.toBitVec.toNat=byt s i:=⟨s[i],by rw [lat_nat,List.getElem?_eq_getElem h],by simp [byt,h]⟩
def v3 (s:Str) (b:Nat):Nat:=byt s b+256 * byt s (b+1)+65536 * byt s (b+2)
theorem or_add {p q k:Nat} (hp:p < 2 ^ k):p ||| (q * 2 ^ k)=p+q * 2 ^ k:=by
  have h:=Nat.shiftLeft_add_eq_or_of_lt hp q
  rw [Nat.shiftLeft_eq] at h
  rw [Nat.or_comm,← h,Nat.add_comm]
theorem ofI (n:Nat) (h:n < 2 ^ 63):(BitVec.ofInt 64 (n:Int)).toNat=n:=by
  rw [BitVec.ofInt_natCast,BitVec.toNat_ofNat,Nat.mod_eq_of_lt (by omega)]
theorem rd3 {p q r:Nat} (hp:p < 256) (hq:q < 256) (hr:r < 256):w64 ((BitVec.ofInt 64 (w64 ((BitVec.ofInt 64 (p:Int) ||| BitVec.ofInt 64 (w64 ((q:Int) * 2 ^ (min 8 64)))).toNat:Int)) ||| BitVec.ofInt 64 (w64 ((r:Int) * 2 ^ (min 16 64)))).toNat:Int)=((p+256 * q+65536 * r:Nat):Int):=by
  have c1:((q:Int) * 2 ^ (min 8 64))=((q * 2 ^ 8:Nat):Int):=by
    rw [Int.natCast_mul]; rfl
  have c2:((r:Int) * 2 ^ (min 16 64))=((r * 2 ^ 16:Nat):Int):=by
    rw [Int.natCast_mul]; rfl
  rw [c1,c2,w64_id (x:=((q * 2 ^ 8:Nat):Int)) (by omega) (by omega),w64_id (x:=((r * 2 ^ 16:Nat):Int)) (by omega) (by omega)]
  rw [BitVec.toNat_or,BitVec.toNat_or,ofI p (by omega),ofI (q * 2 ^ 8) (by omega),or_add (k:=8) (by omega),w64_id (x:=((p+q * 2 ^ 8:Nat):Int)) (by omega) (by omega),ofI _ (by omega),ofI (r * 2 ^ 16) (by omega),or_add (k:=16) (by omega),w64_id (by omega) (by omega)]
  omega
theorem wire_read1 {s:Str} {k:Nat} (hs:s.length≤1000) (h:3 * k+5 < s.length):wire_Read_1 (k:Int) s=some ((v3 s (3+3 * k):Nat):Int):=by
  have e1:w64 ((3:Int) * (k:Int))=((3 * k:Nat):Int):=by rw [w64_id (by omega) (by omega)]; omega
  have e2:w64 ((3:Int)+((3 * k:Nat):Int))=((3+3 * k:Nat):Int):=by rw [w64_id (by omega) (by omega)]; omega
  have e3:w64 (((3+3 * k:Nat):Int)+1)=((3+3 * k+1:Nat):Int):=by rw [w64_id (by omega) (by omega)]; omega
  have e4:w64 (((3+3 * k:Nat):Int)+2)=((3+3 * k+2:Nat):Int):=by rw [w64_id (by omega) (by omega)]; omega
  obtain ⟨c1,h1,g1⟩:=lat_byt (s:=s) (i:=3+3 * k) (by omega)
  obtain ⟨c2,h2,g2⟩:=lat_byt (s:=s) (i:=3+3 * k+1) (by omega)
  obtain ⟨c3,h3,g3⟩:=lat_byt (s:=s) (i:=3+3 * k+2) (by omega)
  unfold wire_Read_1
  rw [e1,e2,e3,e4,h1,h2,h3]
  simp only [Obs]
  rw [g1,g2,g3,rd3 (byt_lt _ _) (byt_lt _ _) (byt_lt _ _)]
  rfl
theorem byt_ofB (l:List (BitVec 8)) (u:Str) (i:Nat) (h:i < l.length):byt (Str.ofBytes l++u) i=(l[i]).toNat:=by
  unfold byt
  rw [List.getElem?_append_left (by rw [ofBytes_len]; exact h)]
  unfold Str.ofBytes
  rw [List.getElem?_map,List.getElem?_eq_getElem h]
  rfl
theorem ofn (n:Nat) (h:n < 16777216):(BitVec.ofNat 8 n).toNat+256 * (BitVec.ofNat 8 (n / 256)).toNat+65536 * (BitVec.ofNat 8 (n / 65536)).toNat=n:=by
  simp only [BitVec.toNat_ofNat]; omega
theorem ofi8 {x:Int} (h0:0≤x) (h1:x≤255):((BitVec.ofInt 8 x).toNat:Int)=x:=by
  obtain ⟨n,rfl⟩:=int_nat h0
  rw [of8,BitVec.toNat_ofNat]; omega
theorem read_pack {t:Note} (h:NoteOk t):wire_Read (packS t)=some (t,0):=by
  have hL:=packS_len t
  have hB:=bodyS_len t
  have ht:=h.text
  have hb4:(b4 (sumV (bodyS t))).length=4:=rfl
  obtain ⟨m,hm⟩:∃ m,m=bodyS t:=⟨_,rfl⟩
  obtain ⟨L,hL'⟩:∃ L,(packS t).length=L:=⟨_,rfl⟩
  rw [hL'] at hL
  have e0:w64 ((L:Int) - 4)=((L - 4:Nat):Int):=by rw [w64_id (by omega) (by omega)]; omega
  have c1:cutL (packS t) 0 ((L - 4:Nat):Int)=some m:=by
    unfold cutL; rw [if_pos (by omega)]
    simp only [tnc,Int.toNat_zero,List.drop_zero,Nat.sub_zero]
    rw [hm]; unfold packS
    rw [List.take_left' (by omega)]
  have c2:cutL (packS t) ((L - 4:Nat):Int) (L:Int)=some (Str.ofBytes (b4 (sumV (bodyS t)))):=by
    unfold cutL; rw [if_pos (by omega)]
    simp only [tnc]
    unfold packS
    rw [List.drop_left' (by omega),List.take_of_length_le (by rw [ofBytes_len]; omega)]
  have hml:m.length=27+t.Text.length:=by rw [hm,hB]
  have hA:decide ((L:Int) > 231)=false:=dff (by omega)
  have hA2:decide ((L:Int) < 31)=false:=dff (by omega)
  obtain ⟨kd,fr,to,vw,sq,At,tx⟩:=t
  obtain ⟨x0,x1,x2,x3,x4,x5,hAt⟩:∃ x0 x1 x2 x3 x4 x5,At=(#v[x0,x1,x2,x3,x4,x5]:Vector Int 6):=by
    refine ⟨At[0],At[1],At[2],At[3],At[4],At[5],?_⟩
    apply Vector.ext
    intro i hi
    match i,hi with
    | 0,_=>rfl
    | 1,_=>rfl
    | 2,_=>rfl
    | 3,_=>rfl
    | 4,_=>rfl
    | 5,_=>rfl
  subst hAt
  have hx:=h.at_
  have g0:=hx x0 (by simp)
  have g1:=hx x1 (by simp)
  have g2:=hx x2 (by simp)
  have g3:=hx x3 (by simp)
  have g4:=hx x4 (by simp)
  have g5:=hx x5 (by simp)
  have gk:=h.kind
  have gf:=h.from_
  have gt:=h.to
  have gv:=h.view
  have gs:=h.seq
  simp only at gk gf gt gv gs ht hml
  have hbyt:∀ (i:Nat) (hi:i < 27),byt m i=((headB ⟨kd,fr,to,vw,sq,#v[x0,x1,x2,x3,x4,x5],tx⟩)[i]'(by rw [headB_len]; exact hi)).toNat:=fun i hi=>by
    rw [hm]; exact byt_ofB _ _ i (by rw [headB_len]; exact hi)
  have hv:∀ (k:Nat) (x:Int) (hk:k < 8),0≤x→x≤16777215→([vw,sq,x0,x1,x2,x3,x4,x5]:List Int)[k]? = some x→v3 m (3+3 * k)=x.toNat:=fun k x hk h0 h1 he=>by
    unfold v3
    rw [hbyt _ (by omega),hbyt _ (by omega),hbyt _ (by omega)]
    match k,hk with
    | 0,_=>cases he; exact ofn vw.toNat (by omega)
    | 1,_=>cases he; exact ofn sq.toNat (by omega)
    | 2,_=>cases he; exact ofn x0.toNat (by omega)
    | 3,_=>cases he; exact ofn x1.toNat (by omega)
    | 4,_=>cases he; exact ofn x2.toNat (by omega)
    | 5,_=>cases he; exact ofn x3.toNat (by omega)
    | 6,_=>cases he; exact ofn x4.toNat (by omega)
    | 7,_=>cases he; exact ofn x5.toNat (by omega)
  have rd:∀ (k:Nat) (x:Int) (hk:k < 8),0≤x→x≤16777215→([vw,sq,x0,x1,x2,x3,x4,x5]:List Int)[k]? = some x→wire_Read_1 (k:Int) m=some x:=fun k x hk h0 h1 he=>by
    rw [wire_read1 (by omega) (by omega),hv k x hk h0 h1 he]
    congr 1; omega
  obtain ⟨y0,f0,q0⟩:=lat_byt (s:=m) (i:=0) (by omega)
  obtain ⟨y1,f1,q1⟩:=lat_byt (s:=m) (i:=1) (by omega)
  obtain ⟨y2,f2,q2⟩:=lat_byt (s:=m) (i:=2) (by omega)
  rw [hbyt 0 (by omega)] at q0
  rw [hbyt 1 (by omega)] at q1
  rw [hbyt 2 (by omega)] at q2
  have z0:((y0.toBitVec.toNat:Nat):Int)=kd:=by rw [q0]; exact ofi8 gk.1 gk.2
  have z1:((y1.toBitVec.toNat:Nat):Int)=fr:=by rw [q1]; exact ofi8 (x:=fr) gf.1 (by omega)
  have z2:((y2.toBitVec.toNat:Nat):Int)=to:=by rw [q2]; exact ofi8 (x:=to) gt.1 (by omega)
  have c4:cutL m (27:Int) (m.length:Int)=some tx:=by
    unfold cutL; rw [if_pos (by omega)]
    have:m.drop 27=tx:=by rw [hm]; unfold bodyS; exact List.drop_left' (by rw [ofBytes_len,headB_len])
    show some ((m.drop 27).take _)=_
    rw [this,List.take_of_length_le (by simp only [tnc]; omega)]
  have step:∀ (i:Nat) (x:Int) (hi:i < 6) (y:Note),0≤x→x≤16777215→([vw,sq,x0,x1,x2,x3,x4,x5]:List Int)[i+2]? = some x→wire_Read_B1 m i y=some {y with At:=y.At.setIfInBounds i x}:=fun i x hi y h0 h1 he=>by
    have e1:w64 ((2:Int)+(i:Int))=((i+2:Nat):Int):=by rw [w64_id (by omega) (by omega)]; omega
    unfold wire_Read_B1
    rw [e1,rd (i+2) x (by omega) h0 h1 he,Obs,vat_lt _ hi,Obs,Let_eq,tnc]
  have loop:∀ y:Note,y.At=Vector.replicate 6 0→rangeF (wire_Read_B1 m) 6 0 y=some {y with At:=#v[x0,x1,x2,x3,x4,x5]}:=fun y hy=>by
    unfold rangeF; rw [step 0 x0 (by omega) _ g0.1 g0.2 rfl,Obs]
    unfold rangeF; rw [step 1 x1 (by omega) _ g1.1 g1.2 rfl,Obs]
    unfold rangeF; rw [step 2 x2 (by omega) _ g2.1 g2.2 rfl,Obs]
    unfold rangeF; rw [step 3 x3 (by omega) _ g3.1 g3.2 rfl,Obs]
    unfold rangeF; rw [step 4 x4 (by omega) _ g4.1 g4.2 rfl,Obs]
    unfold rangeF; rw [step 5 x5 (by omega) _ g5.1 g5.2 rfl,Obs]
    unfold rangeF
    rw [hy]
    rfl
  have r0:wire_Read_1 (0:Int) m=some vw:=rd 0 vw (by omega) gv.1 gv.2 rfl
  have r1:wire_Read_1 (1:Int) m=some sq:=rd 1 sq (by omega) gs.1 gs.2 rfl
  have f0':lat m (0:Int)=some y0:=f0
  have f1':lat m (1:Int)=some y1:=f1
  have f2':lat m (2:Int)=some y2:=f2
  unfold wire_Read
  rw [hL',hA,hA2,cff,cff,e0,c1,c2,Obs,Obs,sum_eq _ (by omega),Obs,four_eq,Obs,← hm,dtt rfl]
  simp only [Bool.not_true,cff]
  rw [f0',f1',f2',Obs,Obs,Obs,r0,r1,Obs,Obs,c4,Obs,z0,z1,z2,loop _ rfl,Obs]
  have hok:wire_Check ({Note.zero with Kind:=kd,From:=fr,To:=to,View:=vw,Seq:=sq,Text:=tx,At:=#v[x0,x1,x2,x3,x4,x5]}:Note)=some 0:=check_ok h
  rw [hok]
  rfl
end Go.Proofs.YtchmclllcdknjaaGreatDoor
namespace Go.Proofs.YtchmclllcdknjaaGreatDoor
open Enc
theorem lmid_eq {i j:Nat} (h:i+j≤2 ^ 40):w64 (((BitVec.ofInt 64 (w64 ((i:Int)+(j:Int)))) >>> 1).toNat:Int)=(((i+j) / 2:Nat):Int):=by
  rw [w64_id (x:=(i:Int)+(j:Int)) (by omega) (by omega),BitVec.toNat_ushiftRight,BitVec.toNat_ofInt,Nat.shiftRight_eq_div_pow]
  have:(((i:Int)+(j:Int)) % ((2 ^ 64:Nat):Int)).toNat=i+j:=by omega
  rw [this]
  exact w64_id (by omega) (by omega)
theorem lin_eq (a b c:Int):lane_in a b c=some (decide (a≥b)&&decide (a≤c)):=by
  unfold lane_in
  rw [and_some,Obs]
def SLt (x y:Parcel):Prop:=x.Seq < y.Seq
structure GoodT (r:To):Prop where
  lo:0≤r.Next
  hi:r.Next≤16777215
  len:r.Early.length≤16
  inc:r.Early.Pairwise SLt
  rng:∀ x∈r.Early,r.Next < x.Seq∧x.Seq≤r.Next+15
  txt:∀ x∈r.Early,x.Text.length≤200
theorem inc_at {l:List Parcel} (h:l.Pairwise SLt) {i j:Nat} {x y:Parcel} (hij:i < j) (hx:l[i]? = some x) (hy:l[j]? = some y):x.Seq < y.Seq:=by
  obtain ⟨h1,rfl⟩:=gsi hx
  obtain ⟨h2,rfl⟩:=gsi hy
  exact List.pairwise_iff_getElem.1 h i j h1 h2 hij
theorem take_snoc {α:Type} {l:List α} {i:Nat} {x:α} (hx:l[i]? = some x):l.take (i+1)=l.take i++[x]:=by
  rw [List.take_add_one,hx]; rfl
theorem long_eq (t:Str):lane_long t=some (decide ((t.length:Int) > 200)):=rfl
theorem to_loop {r:To} (h:GoodT r):∀ (k i:Nat) (z:Int),i+k=r.Early.length→r.Next≤z→(∀ x,r.Early[i]? = some x→z < x.Seq)→∃ y,rangeM (lane_CheckTo_B1 r) k i z=some (.inl y)
  | 0,i,z,_,_,_=>⟨z,rfl⟩
  | k+1,i,z,hk,hz,hx=>by
    have hi:i < r.Early.length:=by omega
    have hx':r.Early[i]? = some r.Early[i]:=by simp [hi]
    generalize r.Early[i]=x at hx'
    have hlt:=hx x hx'
    have hr:=h.rng x (mog hx')
    have ht:=h.txt x (mog hx')
    have hlo:=h.lo
    have hhi:=h.hi
    obtain ⟨y,hy⟩:=to_loop h k (i+1) x.Seq (by omega) (by omega) fun x2 h2=>inc_at h.inc (Nat.lt_succ_self i) hx' h2
    refine ⟨y,?_⟩
    have hb:lane_CheckTo_B1 r i z=some (.go x.Seq):=by
      unfold lane_CheckTo_B1
      rw [lat_nat,hx',Obs,w64_id (show -9223372036854775808≤r.Next+16 by omega) (by omega),long_eq,dff (show ¬ x.Seq≤z by omega),dff (show ¬ x.Seq≥r.Next+16 by omega),dff (show ¬ (x.Text.length:Int) > 200 by omega)]
      rfl
    unfold rangeM
    rw [hb,Obs]
    exact hy
theorem to_ok {r:To} (h:GoodT r):lane_CheckTo r=some 0:=by
  have h1:=h.lo
  have h2:=h.hi
  have h3:=h.len
  obtain ⟨y,hy⟩:=to_loop h r.Early.length 0 r.Next (by omega) (Int.le_refl _) fun x hx=>(h.rng x (mog hx)).1
  unfold lane_CheckTo
  rw [lin_eq,Obs,dtt (show r.Next≥0 by omega),dtt (show r.Next≤16777215 by omega),dff (show ¬ (r.Early.length:Int) > 16 by omega)]
  simp only [Bool.and_self,Bool.not_true,cff]
  rw [hy]
  rfl
def Rep (f:Int→Option Str) (a:Int) (l:List Parcel):Prop:=∀ s t,(⟨s,t⟩:Parcel)∈l↔a≤s∧f s=some t
theorem inc_ext:∀ {l m:List Parcel},l.Pairwise SLt→m.Pairwise SLt→(∀ s t,(⟨s,t⟩:Parcel)∈l↔(⟨s,t⟩:Parcel)∈m)→l=m
  | [],[],_,_,_=>rfl
  | [],y::m,_,_,h=>by have:=(h y.Seq y.Text).2 (by simp); cases this
  | x::l,[],_,_,h=>by have:=(h x.Seq x.Text).1 (by simp); cases this
  | x::l,y::m,h1,h2,h=>by
    have h1':=List.pairwise_cons.1 h1
    have h2':=List.pairwise_cons.1 h2
    have hxy:x=y:=by
      rcases List.mem_cons.1 ((h x.Seq x.Text).1 (by simp)) with e | e
      · exact e
      · rcases List.mem_cons.1 ((h y.Seq y.Text).2 (by simp)) with e' | e'
        · exact e'.symm
        · have a1:y.Seq < x.Seq:=h2'.1 _ e
          have a2:x.Seq < y.Seq:=h1'.1 _ e'
          omega
    subst hxy
    congr 1
    refine inc_ext h1'.2 h2'.2 fun s t=>?_
    constructor
    · intro hm
      rcases List.mem_cons.1 ((h s t).1 (List.mem_cons_of_mem _ hm)) with e | e
      · have a1:x.Seq < s:=h1'.1 _ hm
        rw [← e] at a1; simp at a1
      · exact e
    · intro hm
      rcases List.mem_cons.1 ((h s t).2 (List.mem_cons_of_mem _ hm)) with e | e
      · have a1:x.Seq < s:=h2'.1 _ hm
        rw [← e] at a1; simp at a1
      · exact e
theorem lbs_law {l:List Parcel} {t:Int} (hinc:l.Pairwise SLt) (hlen:l.length≤100) (hr:∀ x∈l,-1000000000≤x.Seq∧x.Seq≤1000000000) (ht:-1000000000≤t∧t≤1000000000) {fu:Nat} (hf:110 < fu) :
    ∃ (k:Nat) (b:Bool),slices_BinarySearchFunc_api_Parcel_api_Parcel_int_Take_1 fu l t=some ((k:Int),b)∧k≤l.length∧(∀ (j:Nat) x,j < k→l[j]? = some x→x.Seq < t)∧(∀ (j:Nat) x,k≤j→l[j]? = some x→t≤x.Seq)∧(b=true↔∃ x∈l,x.Seq=t):=by
  have key:Tot (whileM (slices_BinarySearchFunc_api_Parcel_api_Parcel_int_Take_1_B0 l t) fu ((0:Int),(l.length:Int))) fun o=>∃ (k:Nat) (j:Int),o=.inl ((k:Int),j)∧k≤l.length∧(∀ (j:Nat) x,j < k→l[j]? = some x→x.Seq < t)∧(∀ (j:Nat) x,k≤j→l[j]? = some x→t≤x.Seq):=by
    refine Tot.whileM (fun z=>∃ i j:Nat,z=((i:Int),(j:Int))∧i≤j∧j≤l.length∧(∀ (k:Nat) x,k < i→l[k]? = some x→x.Seq < t)∧∀ (k:Nat) x,j≤k→l[k]? = some x→t≤x.Seq) (fun z=>(z.2 - z.1).toNat)
      ⟨0,l.length,rfl,by omega,Nat.le_refl _,fun k x h=>by omega,fun k x h hx=>by have:=(gsi hx).1; omega⟩ (by simp only; omega) ?_
    rintro _ ⟨i,j,rfl,h1,h2,h3,h4⟩
    unfold slices_BinarySearchFunc_api_Parcel_api_Parcel_int_Take_1_B0
    simp only
    rw [Tot.ite_iff]
    refine ⟨fun q=>?_,fun q=>?_⟩
    · have q:i < j:=by simpa using q
      have hh:(i+j) / 2 < l.length:=by omega
      have hx:l[(i+j) / 2]? = some l[(i+j) / 2]:=by simp [hh]
      generalize l[(i+j) / 2]=x at hx
      have hrx:=hr x (mog hx)
      rw [lmid_eq (by omega),lat_nat,hx,Obs]
      unfold lane_Take_1
      rw [Obs,w64_id (show -9223372036854775808≤x.Seq - t by omega) (by omega),Tot.ite_iff]
      refine ⟨fun c=>?_,fun c=>?_⟩
      · have c:x.Seq - t < 0:=by simpa using c
        rw [Tot.some_iff]
        have e1:w64 ((((i+j) / 2:Nat):Int)+1)=(((i+j) / 2+1:Nat):Int):=by rw [w64_id (by omega) (by omega)]; rfl
        refine Tot.go_iff.2 ⟨⟨(i+j) / 2+1,j,by rw [e1],by omega,h2,fun k y hk hy=>?_,h4⟩,by rw [e1]; simp only; omega⟩
        by_cases e:k=(i+j) / 2
        · subst e; rw [hx] at hy; rw [← Option.some.inj hy]; omega
        · have:=inc_at hinc (show k < (i+j) / 2 by omega) hy hx; omega
      · have c:¬ x.Seq - t < 0:=by simpa using c
        rw [Tot.some_iff]
        refine Tot.go_iff.2 ⟨⟨i,(i+j) / 2,rfl,by omega,by omega,h3,fun k y hk hy=>?_⟩,by simp only; omega⟩
        by_cases e:k=(i+j) / 2
        · subst e; rw [hx] at hy; rw [← Option.some.inj hy]; omega
        · have:=inc_at hinc (show (i+j) / 2 < k by omega) hx hy; omega
    · have q:¬ i < j:=by simpa using q
      have:i=j:=by omega
      subst this
      rw [Tot.some_iff]
      exact Tot.brk_iff.2 ⟨i,_,rfl,h2,h3,h4⟩
  obtain ⟨o,e,k,j,rfl,h1,h2,h3⟩:=key
  unfold slices_BinarySearchFunc_api_Parcel_api_Parcel_int_Take_1
  rw [e,andThen_inl]
  simp only
  by_cases hk:k < l.length
  · have hx:l[k]? = some l[k]:=by simp [hk]
    generalize l[k]=x at hx
    have hrx:=hr x (mog hx)
    rw [dtt (show (k:Int) < l.length by omega),ctt,lat_nat,hx,Obs]
    unfold lane_Take_1
    rw [Obs,Obs,w64_id (show -9223372036854775808≤x.Seq - t by omega) (by omega)]
    refine ⟨k,x.Seq - t==0,rfl,h1,h2,h3,?_⟩
    rw [beq_iff_eq]
    constructor
    · intro q; exact ⟨x,mog hx,by omega⟩
    · rintro ⟨y,hy,q⟩
      obtain ⟨m,hm⟩:=List.getElem?_of_mem hy
      rcases Nat.lt_trichotomy m k with c | c | c
      · have:=h2 m y c hm; omega
      · subst c; rw [hx] at hm; rw [Option.some.inj hm]; omega
      · have:=inc_at hinc c hx hm
        have:=h3 k x (Nat.le_refl _) hx
        omega
  · rw [dff (show ¬ (k:Int) < l.length by omega),cff]
    refine ⟨k,false,rfl,h1,h2,h3,?_⟩
    constructor
    · intro q; cases q
    · rintro ⟨y,hy,q⟩
      obtain ⟨m,hm⟩:=List.getElem?_of_mem hy
      have:=(gsi hm).1
      have:=h2 m y (by omega) hm
      omega
def tl (f:Int→Option Str) (a:Int) (k:Nat):List Str:=(List.range k).map fun j:Nat=>(f (a+j)).getD []
theorem tl_succ {f:Int→Option Str} {a:Int} {k:Nat}:tl f a (k+1)=tl f a k++[(f (a+k)).getD []]:=by
  unfold tl; rw [List.range_succ,List.map_append]; rfl
theorem tl_len {f:Int→Option Str} {a:Int} {k:Nat}:(tl f a k).length=k:=by simp [tl]
theorem code_told {f:Int→Option Str} {N:Int} {E:List Parcel} {fu:Nat} (hN:0≤N∧N≤1000000000) (hE:E.Pairwise SLt) (hR:Rep f (N+1) E) (hlen:E.length≤16) (h0:(f N).isSome=true) (hf:40 < fu) :
    ∃ (k:Nat) (E':List Parcel),whileM lane_Take_B1 fu ((⟨N+1,E⟩:To),tl f N 1,E)=some (.inl ((⟨N+k,E'⟩:To),tl f N k,E'))∧(∀ j:Nat,j < k→(f (N+j)).isSome=true)∧f (N+k)=none∧E'.Pairwise SLt∧Rep f (N+k) E'∧E'.length≤16∧k≤17∧∀ x∈E',x∈E:=by
  have key:Tot (whileM lane_Take_B1 fu ((⟨N+1,E⟩:To),tl f N 1,E)) fun o=>∃ (k:Nat) (E':List Parcel),o=.inl ((⟨N+k,E'⟩:To),tl f N k,E')∧(∀ j:Nat,j < k→(f (N+j)).isSome=true)∧f (N+k)=none∧E'.Pairwise SLt∧Rep f (N+k) E'∧E'.length≤16∧k≤17∧∀ x∈E',x∈E:=by
    refine Tot.whileM (fun z=>∃ (k:Nat) (E':List Parcel) (y:List Parcel),z=((⟨N+k,y⟩:To),tl f N k,E')∧(∀ j:Nat,j < k→(f (N+j)).isSome=true)∧E'.Pairwise SLt∧Rep f (N+k) E'∧(E'.length+k≤E.length+1∧1≤k)∧∀ x∈E',x∈E) (fun z=>z.2.2.length)
      ⟨1,E,E,rfl,fun j hj=>?_,hE,hR,⟨Nat.le_refl _,Nat.le_refl _⟩,fun x h=>h⟩ (by simp only; omega) ?_
    · have:j=0:=by omega
      subst this; simpa using h0
    · rintro _ ⟨k,E',y,rfl,h1,h2,h3,h4,h5⟩
      unfold lane_Take_B1
      simp only
      have stop:f (N+k)=none→Tot (some (Ctl.brk (({(⟨N+k,y⟩:To) with Early:=E'}:To),tl f N k,E')):Option (Ctl (To×List Str×List Parcel) (To×List Str×Int))) (Tot.CtlOk (fun s'=>(∃ (k:Nat) (E':List Parcel) (y:List Parcel),s'=((⟨N+k,y⟩:To),tl f N k,E')∧(∀ j:Nat,j < k→(f (N+j)).isSome=true)∧E'.Pairwise SLt∧Rep f (N+k) E'∧(E'.length+k≤E.length+1∧1≤k)∧∀ x∈E',x∈E)∧s'.2.2.length < E'.length)
          (fun s=>∃ (k:Nat) (E':List Parcel),(Sum.inl s:(To×List Str×List Parcel) ⊕ (To×List Str×Int))=.inl ((⟨N+k,E'⟩:To),tl f N k,E')∧(∀ j:Nat,j < k→(f (N+j)).isSome=true)∧f (N+k)=none∧E'.Pairwise SLt∧Rep f (N+k) E'∧E'.length≤16∧k≤17∧∀ x∈E',x∈E)
          (fun t=>∃ (k:Nat) (E':List Parcel),(Sum.inr t:(To×List Str×List Parcel) ⊕ (To×List Str×Int))=.inl ((⟨N+k,E'⟩:To),tl f N k,E')∧(∀ j:Nat,j < k→(f (N+j)).isSome=true)∧f (N+k)=none∧E'.Pairwise SLt∧Rep f (N+k) E'∧E'.length≤16∧k≤17∧∀ x∈E',x∈E)):=fun hno=>Tot.some_iff.2 (Tot.brk_iff.2 ⟨k,E',rfl,h1,hno,h2,h3,by omega,by omega,h5⟩)
      cases E' with
      | nil =>
        rw [show decide ((([]:List Parcel).length:Int) > 0)=false from rfl,cff,Obs,cff]
        refine stop ?_
        cases hg:f (N+k) with
        | none=>rfl
        | some t=>have:=(h3 _ _).2 ⟨Int.le_refl _,hg⟩; cases this
      | cons x E2 =>
        have h2':=List.pairwise_cons.1 h2
        have hx:(x::E2)[0]? = some x:=rfl
        have el:lat (x::E2) (0:Int)=some x:=lat_nat (x::E2) 0
        rw [dtt (show ((x::E2).length:Int) > 0 by simp only [List.length_cons]; omega),ctt,el,Obs,Obs,Tot.ite_iff]
        have hxf:=(h3 x.Seq x.Text).1 (by simp)
        refine ⟨fun c=>?_,fun c=>?_⟩
        · have c:x.Seq=N+k:=by simpa using c
          have hg:f (N+k)=some x.Text:=by rw [← c]; exact hxf.2
          have ec:cutL (x::E2) 1 ((x::E2).length:Int)=some E2:=by
            unfold cutL
            rw [if_pos (by simp; omega)]
            simp
          rw [Obs,room_ok (by have:=h4.1; rw [tl_len]; simp at this ⊢; omega),Obs,ec,Obs,Tot.let_iff,Tot.some_iff,w64_id (show -9223372036854775808≤N+(k:Int)+1 by omega) (by have:=h4.1; simp at this; omega)]
          refine Tot.go_iff.2 ⟨⟨k+1,E2,E2,?_,fun j hj=>?_,h2'.2,fun s t=>?_,⟨by have:=h4.1; simp at this; omega,by omega⟩,fun z hz=>h5 z (List.mem_cons_of_mem _ hz)⟩,by simp⟩
          · rw [tl_succ,hg]; simp; omega
          · by_cases e:j=k
            · subst e; rw [hg]; rfl
            · exact h1 j (by omega)
          · constructor
            · intro hm
              have a1:x.Seq < s:=h2'.1 _ hm
              exact ⟨by push_cast; omega,((h3 s t).1 (List.mem_cons_of_mem _ hm)).2⟩
            · rintro ⟨a,b⟩
              have hm:=(h3 s t).2 ⟨by push_cast at a; omega,b⟩
              rcases List.mem_cons.1 hm with e | e
              · rw [← e] at c; simp only at c; push_cast at a; omega
              · exact e
        · have c:¬ x.Seq=N+k:=by simpa using c
          refine stop ?_
          cases hg:f (N+k) with
          | none=>rfl
          | some t =>
            have hm:=(h3 _ _).2 ⟨Int.le_refl _,hg⟩
            rcases List.mem_cons.1 hm with e | e
            · rw [← e] at c; exact absurd rfl c
            · have a1:x.Seq < N+k:=h2'.1 _ e
              have:=hxf.1
              omega
  obtain ⟨o,e,k,E',rfl,h1⟩:=key
  exact ⟨k,E',e,h1⟩
theorem insert_inc {l:List Parcel} {p:Parcel} {k:Nat} (h:l.Pairwise SLt) (hk:k≤l.length) (h1:∀ (j:Nat) x,j < k→l[j]? = some x→x.Seq < p.Seq) (h2:∀ (j:Nat) x,k≤j→l[j]? = some x→p.Seq < x.Seq) :
    (l.take k++[p]++l.drop k).Pairwise SLt∧∀ x,x∈l.take k++[p]++l.drop k↔x∈l∨x=p:=by
  have hd:(l.take k++l.drop k).Pairwise SLt:=by rw [List.take_append_drop]; exact h
  have hd:=List.pairwise_append.1 hd
  refine ⟨?_,fun x=>?_⟩
  · rw [List.append_assoc,List.pairwise_append]
    refine ⟨hd.1,?_,fun a ha b hb=>?_⟩
    · rw [List.singleton_append,List.pairwise_cons]
      refine ⟨fun b hb=>?_,hd.2.1⟩
      obtain ⟨j,hj⟩:=List.getElem?_of_mem hb
      rw [List.getElem?_drop] at hj
      exact h2 _ b (by omega) hj
    · rcases List.mem_append.1 hb with hb | hb
      · rw [List.mem_singleton.1 hb]
        obtain ⟨j,hj⟩:=List.getElem?_of_mem ha
        have hji:j < k:=by have:=(gsi hj).1; simp at this; omega
        rw [List.getElem?_take,if_pos hji] at hj
        exact h1 j a hji hj
      · exact hd.2.2 a ha b hb
  · have:x∈l↔x∈l.take k∨x∈l.drop k:=by
      conv=>lhs; rw [← List.take_append_drop k l]
      exact List.mem_append
    rw [this,List.mem_append,List.mem_append,List.mem_singleton]
    constructor
    · rintro ((a | a) | a)
      · exact .inl (.inl a)
      · exact .inr a
      · exact .inl (.inr a)
    · rintro ((a | a) | a)
      · exact .inl (.inl a)
      · exact .inr a
      · exact .inl (.inr a)
theorem first_none {f:Int→Option Str} {N:Int} {k k':Nat} (h1:∀ j:Nat,j < k→(f (N+j)).isSome=true) (h2:f (N+k)=none) (g1:∀ j:Nat,j < k'→(f (N+j)).isSome=true) (g2:f (N+k')=none):k=k':=by
  rcases Nat.lt_trichotomy k k' with c | c | c
  · have:=g1 k c; rw [h2] at this; cases this
  · exact c
  · have:=h1 k' c; rw [g2] at this; cases this
structure Took (r:To) (p:Parcel) (o:To) (ts:List Str):Prop where
  next:o.Next=r.Next+ts.length
  inc:o.Early.Pairwise SLt
  rng:∀ x∈o.Early,o.Next < x.Seq∧x.Seq≤r.Next+15∧(x∈r.Early∨x=p)
  txt:∀ x∈o.Early,x.Text.length≤200
  len:o.Early.length≤16
  from_:∀ (i:Nat) t,ts[i]? = some t→(⟨r.Next+i,t⟩:Parcel)∈r.Early∨(⟨r.Next+i,t⟩:Parcel)=p
theorem tl_get {f:Int→Option Str} {a:Int} {k i:Nat} {t:Str} (h:(tl f a k)[i]? = some t) (hs:∀ j:Nat,j < k→(f (a+j)).isSome=true):f (a+i)=some t:=by
  have hi:i < k:=by have:=(gsi h).1; rwa [tl_len] at this
  unfold tl at h
  rw [List.getElem?_map,List.getElem?_range hi] at h
  simp only [Option.map_some,Option.some.injEq] at h
  have:=hs i hi
  cases e:f (a+i) with
  | none=>rw [e] at this; cases this
  | some u=>rw [e] at h; simp at h; rw [h]
def fnd (l:List Parcel) (s:Int):Option Str:=(l.find? fun x=>x.Seq==s).map (·.Text)
theorem fnd_iff {l:List Parcel} (h:l.Pairwise SLt) (s:Int) (t:Str):fnd l s=some t↔(⟨s,t⟩:Parcel)∈l:=by
  unfold fnd
  constructor
  · intro q
    obtain ⟨y,hy,rfl⟩:=Option.map_eq_some_iff.1 q
    have:=List.find?_some hy
    have e:y.Seq=s:=by simpa using this
    subst e
    exact List.mem_of_find?_eq_some hy
  · intro hm
    cases hy:l.find? fun x=>x.Seq==s with
    | none =>
      have:=List.find?_eq_none.1 hy _ hm
      simp at this
    | some y =>
      have e:y.Seq=s:=by simpa using List.find?_some hy
      have hym:=List.mem_of_find?_eq_some hy
      obtain ⟨i,hi⟩:=List.getElem?_of_mem hm
      obtain ⟨j,hj⟩:=List.getElem?_of_mem hym
      rcases Nat.lt_trichotomy i j with c | c | c
      · have:=inc_at h c hi hj; simp only at this; omega
      · subst c; rw [hi] at hj; rw [← Option.some.inj hj]; rfl
      · have:=inc_at h c hj hi; simp only at this; omega
theorem inc_len {l:List Parcel} {a:Int} (h:l.Pairwise SLt) (hr:∀ x∈l,a < x.Seq∧x.Seq≤a+15):l.length≤15:=by
  have key:∀ (i:Nat) x,l[i]? = some x→a+1+i≤x.Seq:=by
    intro i
    induction i with
    | zero=>intro x hx; have:=hr x (mog hx); push_cast; omega
    | succ i ih =>
      intro x hx
      have hi:i < l.length:=by have:=(gsi hx).1; omega
      have hy:l[i]? = some l[i]:=by simp [hi]
      have:=ih _ hy
      have:=inc_at h (Nat.lt_succ_self i) hy hx
      push_cast; omega
  rcases Nat.lt_or_ge 15 l.length with c | c
  · have hy:l[15]? = some l[15]:=by simp [c]
    have:=key 15 _ hy
    have:=hr _ (mog hy)
    omega
  · exact c
theorem clone_parcels {l:List Parcel} (h:l.length≤2 ^ 40):slices_Clone_api_Parcel_api_Parcel l=some l:=by
  unfold slices_Clone_api_Parcel_api_Parcel
  rw [room_ok (by simpa using h)]
  rfl
theorem take_code {r:To} {p:Parcel} {fu:Nat} (hfu:200 < fu) (h:GoodT r) (hp:0≤p.Seq∧p.Seq≤16777214) (ht:p.Text.length≤200) :
    ∃ o ts,lane_Take fu r p=some (o,ts,0)∧Took r p o ts∧(p.Seq=r.Next→1≤ts.length)∧ts.length≤17:=by
  have hN:0≤r.Next∧r.Next≤1000000000:=by have:=h.lo; have:=h.hi; omega
  have hN2:=h.hi
  have w16:w64 (r.Next+16)=r.Next+16:=w64_id (by omega) (by omega)
  have hlen:=h.len
  obtain ⟨k,b,eb,hk,hk1,hk2,hb⟩:=lbs_law (t:=p.Seq) (fu:=fu) h.inc (by omega) (fun x hx=>by have:=h.rng x hx; omega) (by omega) (by omega)
  unfold lane_Take
  rw [to_ok h,Obs]
  simp only [bne_self_eq_false,cff]
  rw [lin_eq,Obs,dtt (show p.Seq≥0 by omega),dtt (show p.Seq≤16777214 by omega)]
  unfold lane_long
  simp only [Bool.and_self,Bool.not_true,cff,Obs]
  rw [dff (show ¬ (p.Text.length:Int) > 200 by omega),cff,clone_parcels (by omega),Obs]
  simp only [Let]
  rw [eb,Obs,or_some,Obs,or_some,Obs,w16]
  by_cases hin:r.Next≤p.Seq∧p.Seq < r.Next+16∧b=false
  · obtain ⟨i1,i2,rfl⟩:=hin
    rw [dff (show ¬ p.Seq < r.Next by omega),dff (show ¬ p.Seq≥r.Next+16 by omega)]
    simp only [Bool.or_self,cff]
    have hno:∀ t,(⟨p.Seq,t⟩:Parcel) ∉ r.Early:=fun t q=>by
      have:=hb.2 ⟨_,q,rfl⟩; cases this
    by_cases c:p.Seq > r.Next
    · rw [dtt c,ctt]
      have ei:slices_Insert_api_Parcel_api_Parcel r.Early (k:Int) [p]=some (r.Early.take k++[p]++r.Early.drop k):=by
        unfold slices_Insert_api_Parcel_api_Parcel
        have ec:∃ x,cutL r.Early (k:Int) (r.Early.length:Int)=some x:=⟨_,by unfold cutL; rw [if_pos (by omega)]⟩
        obtain ⟨x,ec⟩:=ec
        rw [ec,Obs,room_ok (by simp; omega),Obs,tnc]
      obtain ⟨n1,n2⟩:=insert_inc (p:=p) h.inc hk hk1 (fun j x hj hx=>by
        have:=hk2 j x hj hx
        have hne:x.Seq≠p.Seq:=fun e=>by
          have:=hb.2 ⟨x,mog hx,e⟩; cases this
        omega)
      rw [ei,Obs]
      have hrg:∀ x∈r.Early.take k++[p]++r.Early.drop k,r.Next < x.Seq∧x.Seq≤r.Next+15:=fun x hx=>by
        rcases (n2 x).1 hx with y | y
        · exact h.rng x y
        · subst y; omega
      refine ⟨⟨r.Next,r.Early.take k++[p]++r.Early.drop k⟩,[],rfl,⟨by simp,n1,fun x hx=>⟨(hrg x hx).1,(hrg x hx).2,(n2 x).1 hx⟩,fun x hx=>?_,?_,fun i t hi=>by simp at hi⟩,fun e=>by omega,by simp⟩
      · rcases (n2 x).1 hx with y | y
        · exact h.txt x y
        · subst y; exact ht
      · have:=inc_len n1 hrg; simp only; omega
    · have hpN:p.Seq=r.Next:=by omega
      rw [dff c,cff,w64_id (show -9223372036854775808≤r.Next+1 by omega) (by omega)]
      obtain ⟨f,hf⟩:∃ f:Int→Option Str,f=fun s=>if s=p.Seq then some p.Text else fnd r.Early s:=⟨_,rfl⟩
      have hmm:∀ s t,f s=some t↔(⟨s,t⟩:Parcel)∈r.Early∨(⟨s,t⟩:Parcel)=p:=fun s t=>by
        rw [hf]
        simp only
        by_cases e:s=p.Seq
        · subst e
          rw [if_pos rfl]
          constructor
          · intro q; right; rw [← Option.some.inj q]
          · rintro (q | q)
            · exact absurd q (hno t)
            · rw [← q]
        · rw [if_neg e,fnd_iff h.inc]
          constructor
          · exact .inl
          · rintro (q | q)
            · exact q
            · rw [← q] at e; exact absurd rfl e
      have hf0:f r.Next=some p.Text:=by rw [hf]; simp only; rw [if_pos hpN.symm]
      obtain ⟨q',E',c1,c2,c3,c4,c5,c6,c7,c8⟩:=code_told (f:=f) (N:=r.Next) (E:=r.Early) (fu:=fu) hN h.inc (fun s t=>by
        rw [hmm s t]
        constructor
        · intro x; have:=h.rng _ x; simp only at this; exact ⟨by omega,.inl x⟩
        · rintro ⟨a,x | x⟩
          · exact x
          · rw [← x] at hpN; simp only at hpN; omega) hlen (by rw [hf0]; rfl) (by omega)
      have e1:tl f r.Next 1=[p.Text]:=by simp [tl,hf0]
      rw [e1] at c1
      have c1':whileM lane_Take_B1 fu (({To.zero with Next:=r.Next+1,Early:=r.Early}:To),([p.Text]:List Str),r.Early)=some (.inl ((⟨r.Next+q',E'⟩:To),tl f r.Next q',E')):=c1
      rw [c1',andThen_inl]
      simp only
      rw [clone_parcels (by omega),Obs]
      have hq:1≤q':=by
        rcases Nat.eq_zero_or_pos q' with e | e
        · subst e; simp [hf0] at c3
        · exact e
      refine ⟨⟨r.Next+q',E'⟩,tl f r.Next q',rfl,⟨by rw [tl_len],c4,fun x hx=>?_,fun x hx=>h.txt x (c8 x hx),c6,fun i t hi=>(hmm _ _).1 (tl_get hi c2)⟩,fun _=>by rw [tl_len]; exact hq,by rw [tl_len]; exact c7⟩
      have a1:=(c5 x.Seq x.Text).1 hx
      have a2:=h.rng x (c8 x hx)
      have a3:x.Seq≠r.Next+q':=fun y=>by have:=a1.2; rw [y,c3] at this; cases this
      exact ⟨by simp only; omega,a2.2,.inl (c8 x hx)⟩
  · have e1:((decide (p.Seq < r.Next)||decide (p.Seq≥r.Next+16))||b)=true:=by
      cases b
      · simp only [Bool.or_false,Bool.or_eq_true,decide_eq_true_eq]
        have:¬ (r.Next≤p.Seq∧p.Seq < r.Next+16):=fun x=>hin ⟨x.1,x.2,rfl⟩
        omega
      · simp
    rw [e1,ctt]
    refine ⟨⟨r.Next,r.Early⟩,[],rfl,⟨by simp,h.inc,fun x hx=>?_,h.txt,hlen,fun i t hi=>by simp at hi⟩,fun e=>?_,by simp⟩
    · have:=h.rng x hx
      exact ⟨this.1,this.2,.inl hx⟩
    · cases b with
      | false=>exact absurd ⟨by omega,by omega,rfl⟩ hin
      | true =>
        obtain ⟨x,hx,q⟩:=hb.1 rfl
        have:=h.rng x hx
        omega
end Go.Proofs.YtchmclllcdknjaaGreatDoor
namespace Go.Proofs.YtchmclllcdknjaaGreatDoor
open Enc
def isd (c:UInt8):Bool:=decide (48≤c.toNat)&&decide (c.toNat≤57)
theorem isd_iff {c:UInt8}:isd c=true↔48≤c.toNat∧c.toNat≤57:=by unfold isd; simp
def dval:Int→Str→Int
  | z,[]=>z
  | z,c::t=>dval (z * 10+c.toNat - 48) t
theorem dval_le:∀ (t:Str) (z:Int) (k:Nat),0≤z→z < 10 ^ k→t.all isd=true→0≤dval z t∧dval z t < 10 ^ (k+t.length)
  | [],z,k,h0,h1,_=>⟨h0,h1⟩
  | c::t,z,k,h0,h1,h=>by
    rw [List.all_cons,Bool.and_eq_true,isd_iff] at h
    have hk:(10:Int) ^ (k+1)=10 ^ k * 10:=by rw [Int.pow_succ]
    have:=dval_le t (z * 10+c.toNat - 48) (k+1) (by omega) (by rw [hk]; omega) h.2
    rw [show k+1+t.length=k+(c::t).length by simp; omega] at this
    exact this
theorem bytes_at {t:Str} {i:Nat} {c:UInt8} (h:t[i]? = some c):lat (Str.bytes t) (i:Int)=some c.toBitVec:=by
  rw [lat_nat]; unfold Str.bytes; rw [List.getElem?_map,h]; rfl
theorem drop_at {α:Type} {t:List α} {i:Nat} {c:α} (h:t[i]? = some c):t.drop i=c::t.drop (i+1):=by
  obtain ⟨h1,rfl⟩:=gsi h
  exact List.drop_eq_getElem_cons h1
theorem sub48 {c:UInt8} (h:isd c=true):((c.toBitVec - (48:BitVec 8)).toNat:Int)=(c.toNat:Int) - 48:=by
  have h:=isd_iff.1 h
  have e:c.toBitVec.toNat=c.toNat:=rfl
  rw [BitVec.toNat_sub,e]
  have:=c.toNat_lt
  have e2:(48:BitVec 8).toNat=48:=rfl
  rw [e2]
  omega
theorem code_digits {t:Str}:∀ (k i:Nat) (z:Int) (b:Nat),i+k=t.length→i≤b→0≤z→z < 10 ^ b→b+k≤12→(t.drop i).all isd=true →
    rangeM (internal_strconv_Atoi_B0 t) k i z=some (.inl (dval z (t.drop i)))
  | 0,i,z,b,h,_,_,_,_,_=>by
    rw [List.drop_of_length_le (by omega)]; rfl
  | k+1,i,z,b,h,hb,h0,h1,h2,ha=>by
    have hi:i < t.length:=by omega
    have hx:t[i]? = some t[i]:=by simp [hi]
    generalize t[i]=c at hx
    rw [drop_at hx,List.all_cons,Bool.and_eq_true] at ha
    rw [drop_at hx]
    have hz:(10:Int) ^ b≤10 ^ 11:=by
      have:(10:Nat) ^ b≤10 ^ 11:=Nat.pow_le_pow_right (by omega) (by omega)
      exact_mod_cast this
    have hz2:(10:Int) ^ (b+1)=10 ^ b * 10:=by rw [Int.pow_succ]
    unfold rangeM internal_strconv_Atoi_B0
    rw [bytes_at hx,Obs,sub48 ha.1,show ((9:BitVec 8).toNat:Int)=9 from rfl]
    have hd':=isd_iff.1 ha.1
    rw [dff (show ¬ (c.toNat:Int) - 48 > 9 by omega),cff,w64_id (show -9223372036854775808≤z * 10 by omega) (by omega),w64_id (show -9223372036854775808≤z * 10+((c.toNat:Int) - 48) by omega) (by omega)]
    rw [show z * 10+((c.toNat:Int) - 48)=z * 10+(c.toNat:Int) - 48 by omega]
    exact code_digits k (i+1) _ (b+1) (by omega) (by omega) (by omega) (by rw [hz2]; omega) (by omega) ha.2
theorem atoi_law {s:Str} (h1:1≤s.length) (h2:s.length≤9) (ha:s.all isd=true):strconv_Atoi s=some (dval 0 s,()):=by
  obtain ⟨c,s',rfl⟩:∃ c s',s=c::s':=by
    cases s with
    | nil=>simp at h1
    | cons c s'=>exact ⟨c,s',rfl⟩
  have hc:isd c=true:=by rw [List.all_cons,Bool.and_eq_true] at ha; exact ha.1
  have hc':=isd_iff.1 hc
  have ec:c.toBitVec.toNat=c.toNat:=rfl
  have el:lat (c::s') (0:Int)=some c:=lat_nat (c::s') 0
  have e45:((c.toBitVec.toNat:Int)==((45:BitVec 8).toNat:Int))=false:=by
    rw [ec,show ((45:BitVec 8).toNat:Int)=45 from rfl]; simp; omega
  have e43:((c.toBitVec.toNat:Int)==((43:BitVec 8).toNat:Int))=false:=by
    rw [ec,show ((43:BitVec 8).toNat:Int)=43 from rfl]; simp; omega
  have hbl:(Str.bytes (c::s')).length=(c::s').length:=by simp [Str.bytes]
  have cd:=code_digits (t:=c::s') (c::s').length 0 0 0 (by omega) (by omega) (by omega) (by omega) (by omega) (by simpa using ha)
  rw [List.drop_zero] at cd
  unfold strconv_Atoi internal_strconv_Atoi
  rw [dtt (show (0:Int) < ((c::s').length:Int) by omega),ctt,dtt (show ((c::s').length:Int) < 19 by omega),Obs,ctt,el,Obs,e45,cff,Obs,e43,Obs,cff,andThen_inl,room_ok (by simp only [List.length_nil]; omega),Obs,hbl,cd,andThen_inl,Obs,e45,cff,Obs,Obs]
theorem dval_app:∀ (a b:Str) (z:Int),dval z (a++b)=dval (dval z a) b
  | [],b,z=>rfl
  | c::a,b,z=>by rw [List.cons_append]; exact dval_app a b _
theorem dig_isd {u:Nat} (h:u < 10):isd (UInt8.ofNat (48+u))=true:=by
  rw [isd_iff]; simp; omega
theorem dig_val {u:Nat} (h:u < 10):((UInt8.ofNat (48+u)).toNat:Int)=48+u:=by simp; omega
theorem dec_spec:∀ (k n:Nat),n < 10 ^ k→1≤k→1≤(Lib.decDigits n).length∧(Lib.decDigits n).length≤k∧(Lib.decDigits n).all isd=true∧dval 0 (Lib.decDigits n)=n
  | 0,n,h,hk=>by omega
  | k+1,n,h,hk=>by
    rw [Lib.decDigits]
    split
    · rename_i hn
      refine ⟨by simp,by simp,?_,?_⟩
      · rw [List.all_cons,dig_isd hn]; rfl
      · show 0 * 10+((UInt8.ofNat (48+n)).toNat:Int) - 48=n
        rw [dig_val hn]; omega
    · rename_i hn
      have hk0:1≤k:=by
        rcases Nat.eq_zero_or_pos k with e | e
        · subst e; simp at h; omega
        · exact e
      obtain ⟨a1,a2,a3,a4⟩:=dec_spec k (n / 10) (by rw [Nat.pow_succ] at h; omega) hk0
      have hd:n % 10 < 10:=Nat.mod_lt _ (by omega)
      refine ⟨by rw [List.length_append]; simp,by rw [List.length_append]; simp only [List.length_cons,List.length_nil]; omega,?_,?_⟩
      · rw [List.all_append,a3,List.all_cons,dig_isd hd]; rfl
      · rw [dval_app,a4]
        show ((n / 10:Nat):Int) * 10+((UInt8.ofNat (48+n % 10)).toNat:Int) - 48=n
        rw [dig_val hd]; omega
def itS (n:Int):Str:=Lib.itoa n
theorem itoa_law {n:Int} (h0:0≤n) (h1:n < 1000000000):strconv_Itoa n=some (itS n)∧1≤(itS n).length∧(itS n).length≤9∧(itS n).all isd=true∧strconv_Atoi (itS n)=some (n,()):=by
  obtain ⟨m,rfl⟩:=int_nat h0
  have e:itS (m:Int)=Lib.decDigits m:=by unfold itS Lib.itoa; rw [if_neg (by omega)]; simp
  obtain ⟨a1,a2,a3,a4⟩:=dec_spec 9 m (by omega) (by omega)
  refine ⟨?_,by rw [e]; exact a1,by rw [e]; exact a2,by rw [e]; exact a3,?_⟩
  · unfold strconv_Itoa itoaR
    rw [if_pos (by omega)]; rfl
  · rw [e,atoi_law a1 a2 a3,a4]
theorem idx_at:∀ (d t:Str),d.all isd=true→Lib.indexByte (d++58::t) 58=(d.length:Int)
  | [],t,_=>by
    show Lib.indexByte (58::t) 58=0
    unfold Lib.indexByte; rw [if_pos (by decide)]
  | c::d,t,h=>by
    rw [List.all_cons,Bool.and_eq_true] at h
    have hc:=isd_iff.1 h.1
    have hne:¬ (c==58)=true:=fun q=>by
      have:c=58:=by simpa using q
      subst this
      have:(58:UInt8).toNat=58:=rfl
      omega
    have ih:=idx_at d t h.2
    rw [List.cons_append]
    unfold Lib.indexByte
    rw [if_neg hne,ih]
    have h2:¬ ((d.length:Int)==-1)=true:=fun q=>by have:=beq_iff_eq.1 q; omega
    rw [if_neg h2,List.length_cons]
    omega
theorem cut_law {d t:Str} (h1:1≤d.length) (hd:d.all isd=true) (hl:(d++58::t).length≤2 ^ 40):strings_Cut (d++58::t) ([58]:Str)=some (d,t,true):=by
  have hne:¬ (([58]:Str)=d++58::t):=fun q=>by
    have:=congrArg List.length q
    simp at this
    omega
  have e1:((([58]:Str).length:Int)==0)=false:=rfl
  have e2:((([58]:Str).length:Int)==1)=true:=rfl
  have e3:lat ([58]:Str) 0=some 58:=rfl
  have hi:sIdx (d++58::t) ((58:UInt8).toBitVec)=(d.length:Int):=idx_at d t hd
  have hl':(d++58::t).length=d.length+1+t.length:=by simp; omega
  have ex:internal_stringslite_Index (d++58::t) ([58]:Str)=some (d.length:Int):=by
    unfold internal_stringslite_Index internal_stringslite_IndexByte
    rw [e1,cff,Obs,dff hne,cff,e2,ctt,e3,Obs,Obs,hi]
  have c1:cutL (d++58::t) 0 (d.length:Int)=some d:=by
    unfold cutL; rw [if_pos (by omega)]
    simp
  have c2:cutL (d++58::t) ((d.length+1:Nat):Int) ((d++58::t).length:Int)=some t:=by
    unfold cutL; rw [if_pos (by omega)]
    simp only [tnc]
    rw [hl',show d++58::t=(d++[58])++t by simp,List.drop_left' (by simp),List.take_of_length_le (by omega)]
  have e4:(([58]:Str).length:Int)=1:=rfl
  unfold strings_Cut internal_stringslite_Cut
  rw [ex,Obs,dtt (show (d.length:Int)≥0 by omega),ctt,c1,Obs,e4,w64_id (show -9223372036854775808≤(d.length:Int)+1 by omega) (by omega),show (d.length:Int)+1=((d.length+1:Nat):Int) by rfl,c2,Obs,Obs]
end Go.Proofs.YtchmclllcdknjaaGreatDoor
namespace Go.Proofs.YtchmclllcdknjaaGreatDoor
open Enc
structure AW where
  view:View
  ps:List Procs
  ord:List (Int×Int×Str)
  way:List Note
def enc3 (m:Int×Int×Str):Str:=(((itS m.1++([58]:Str))++itS m.2.1)++([58]:Str))++m.2.2
def AW.w (a:AW):Wld:=⟨a.view,a.ps,a.ord.map enc3,a.way.map packS⟩
def G3 (m:Int×Int×Str):Prop:=(0≤m.1∧m.1≤5)∧(0≤m.2.1∧m.2.1≤16777300)∧m.2.2.length≤150
theorem enc3_len {m:Int×Int×Str} (h:G3 m):(enc3 m).length≤170:=by
  obtain ⟨_,_,h1,_⟩:=itoa_law h.1.1 (show m.1 < 1000000000 by have:=h.1.2; omega)
  obtain ⟨_,_,h2,_⟩:=itoa_law h.2.1.1 (show m.2.1 < 1000000000 by have:=h.2.1.2; omega)
  have:=h.2.2
  unfold enc3
  simp only [List.length_append,List.length_cons,List.length_nil]
  omega
structure GP (B:Nat) (x:Procs):Prop where
  log:x.log.length≤B
  txt:∀ s∈x.log,s.Text.length≤150
  base:0≤x.from_.Base∧x.from_.Base+x.from_.Late.length≤16777215
  late:x.from_.Late.length≤16∧∀ t∈x.from_.Late,t.length≤150
  to:GoodT x.to∧∀ p∈x.to.Early,p.Seq≤16777214∧∃ m,G3 m∧p.Text=enc3 m
  ords:GoodT x.orders∧∀ p∈x.orders.Early,p.Seq≤16777214∧p.Text.length≤150
def GN (n:Note):Prop:=NoteOk n∧(n.Kind=1→n.Text.length≤150)∧(n.Kind=2→∃ m,G3 m∧n.Text=enc3 m)
structure GA (B:Nat) (a:AW):Prop where
  n:1≤a.ps.length∧a.ps.length≤6
  ps:∀ x∈a.ps,GP B x
  ord:a.ord.length≤B∧∀ m∈a.ord,G3 m
  way:a.way.length≤60∧∀ n∈a.way,GN n
  num:0≤a.view.Num∧a.view.Num≤16777215
theorem GP.mono {B C:Nat} {x:Procs} (h:GP B x) (hc:B≤C):GP C x:=⟨Nat.le_trans h.log hc,h.txt,h.base,h.late,h.to,h.ords⟩
theorem GA.mono {B C:Nat} {a:AW} (h:GA B a) (hc:B≤C):GA C a:=⟨h.n,fun x hx=>(h.ps x hx).mono hc,⟨Nat.le_trans h.ord.1 hc,h.ord.2⟩,h.way,h.num⟩
theorem GA.set {B:Nat} {a:AW} (h:GA B a) (i:Nat) {x:Procs} (hx:GP B x):GA B {a with ps:=a.ps.set i x}:=by
  refine ⟨by simpa using h.n,fun y hy=>?_,h.ord,h.way,h.num⟩
  rcases List.mem_or_eq_of_mem_set hy with q | q
  · exact h.ps y q
  · exact q ▸ hx
theorem winn_eq (a b c:Int):world_in a b c=some (decide (a≥b)&&decide (a≤c)):=by
  unfold world_in
  rw [and_some,Obs]
def knw (a:AW) (p:Int):Bool:=decide (p≥0)&&decide (p≤(a.ps.length:Int) - 1)
theorem knw_iff {a:AW} {p:Int}:knw a p=true↔∃ i:Nat,p=(i:Int)∧i < a.ps.length:=by
  unfold knw
  rw [Bool.and_eq_true,decide_eq_true_eq,decide_eq_true_eq]
  constructor
  · rintro ⟨h1,h2⟩
    obtain ⟨i,rfl⟩:=int_nat h1
    exact ⟨i,rfl,by omega⟩
  · rintro ⟨i,rfl,h⟩
    exact ⟨by omega,by omega⟩
def isIn (m:BitVec 8) (i:Nat):Bool:=(((m >>> i) &&& (1:BitVec 8)).toNat:Int)==((1:BitVec 8).toNat:Int)
def act (a:AW) (p:Int):Bool:=knw a p&&isIn a.view.Members p.toNat&&(match a.ps[p.toNat]? with | some x=>!x.fallen | none=>false)
def who (a:AW) (p:Int):Int:=bif !knw a p then 1 else bif !act a p then 11 else 0
theorem known_law {a:AW} (hn:1≤a.ps.length∧a.ps.length≤6) (p:Int):world_World_known a.w p=some (bif !knw a p then 1 else 0):=by
  unfold world_World_known
  have e:a.w.all=a.ps:=rfl
  rw [e,winn_eq,Obs,w64_id (by omega) (by omega)]
  have ek:(decide (p≥0)&&decide (p≤(a.ps.length:Int) - 1))=knw a p:=rfl
  rw [ek]
  cases knw a p <;> rfl
theorem cnt_nat (i:Nat):cnt (i:Int)=some i:=by unfold cnt; rw [if_pos (by omega)]; rfl
theorem active_law {a:AW} (hn:1≤a.ps.length∧a.ps.length≤6) (p:Int):world_World_active a.w p=some (act a p):=by
  unfold world_World_active
  have e:a.w.all=a.ps:=rfl
  rw [e,winn_eq,Obs,w64_id (by omega) (by omega)]
  have ek:(decide (p≥0)&&decide (p≤(a.ps.length:Int) - 1))=knw a p:=rfl
  rw [ek]
  unfold act
  cases hk:knw a p with
  | false=>rfl
  | true =>
    obtain ⟨i,rfl,hi⟩:=knw_iff.1 hk
    have hx:a.ps[i]? = some a.ps[i]:=by simp [hi]
    rw [ctt,cnt_nat,Obs,Obs,lat_nat,tnc,hx]
    have ei:((((a.w.view.Members >>> i) &&& (1:BitVec 8)).toNat:Int)==((1:BitVec 8).toNat:Int))=isIn a.view.Members i:=rfl
    rw [ei]
    cases isIn a.view.Members i <;> rfl
theorem working_law {a:AW} (hn:1≤a.ps.length∧a.ps.length≤6) (p:Int):world_World_working a.w p=some (who a p):=by
  unfold world_World_working
  rw [known_law hn,Obs,active_law hn]
  unfold who
  cases knw a p
  · rfl
  · cases act a p <;> rfl
theorem who_zero {a:AW} {p:Int} (h:(who a p != 0)=false):∃ (i:Nat) (x:Procs),p=(i:Int)∧a.ps[i]? = some x∧act a p=true:=by
  unfold who at h
  cases hk:knw a p with
  | false=>rw [hk] at h; cases h
  | true =>
    rw [hk] at h
    obtain ⟨i,rfl,hi⟩:=knw_iff.1 hk
    cases ha:act a (i:Int) with
    | false=>rw [ha] at h; cases h
    | true=>exact ⟨i,a.ps[i],rfl,by simp [hi],rfl⟩
def sq (v:View):Int:=((view_First v).getD ((0:Int),(0:Int))).1
theorem vcheck_tot (v:View):∃ c,view_Check v=some c:=by
  unfold view_Check view_outside
  rw [or_some,Obs,or_some,Obs,Obs,or_some,Obs]
  cases (((decide (v.Num < 0)||decide (v.Num > 16777215))||((v.Members.toNat:Int)==((0:BitVec 8).toNat:Int)))||(((v.Members >>> 6).toNat:Int) != ((0:BitVec 8).toNat:Int))) <;> exact ⟨_,rfl⟩
theorem lat_at {α:Type} {l:List α} {i:Nat} (h:i < l.length):lat l (i:Int)=some l[i]:=by rw [lat_nat]; simp [h]
set_option maxRecDepth 20000 in
theorem first_tot (v:View):∃ r,view_First v=some r:=by
  unfold view_First
  obtain ⟨c,e⟩:=vcheck_tot v
  rw [e,Obs]
  cases (c != 0) with
  | true=>exact ⟨_,rfl⟩
  | false =>
    unfold math_bits_TrailingZeros8
    rw [cff,lat_at (by have:=v.Members.isLt; exact this),Obs,Obs]
    exact ⟨_,rfl⟩
theorem seq_law (w:Wld):world_World_sequencer w=some (sq w.view):=by
  unfold world_World_sequencer sq
  obtain ⟨r,e⟩:=first_tot w.view
  rw [e,Obs]; rfl
def okN (t:Note):Bool:=match wire_Check t with | some c=>c==0 | none=>false
theorem okN_iff {t:Note}:okN t=true↔NoteOk t:=by
  obtain ⟨c,e,hc⟩:=check_law t
  unfold okN; rw [e,beq_iff_eq]; exact hc
def noteM (v:View) (k f t s:Int) (x:Str):Note:={Note.zero with Kind:=k,From:=f,To:=t,View:=v.Num,Seq:=s,Text:=x}
def sendM (a:AW) (k f t s:Int) (x:Str):AW:=bif okN (noteM a.view k f t s x)&&decide (a.way.length < 60) then {a with way:=a.way++[noteM a.view k f t s x]} else a
theorem send_law {a:AW} (h:a.way.length≤60) (k f t s:Int) (x:Str):world_World_send a.w k f t s x=some ((sendM a k f t s x).w.way,(sendM a k f t s x).w):=by
  unfold world_World_send
  have e:({Note.zero with Kind:=k,From:=f,To:=t,View:=a.w.view.Num,Seq:=s,Text:=x}:Note)=noteM a.view k f t s x:=rfl
  have el:(a.w.way.length:Int)=(a.way.length:Int):=by show ((a.way.map packS).length:Int)=_; rw [List.length_map]
  rw [e,el]
  unfold sendM
  by_cases hok:NoteOk (noteM a.view k f t s x)
  · rw [pack_law hok,Obs,okN_iff.2 hok]
    simp only [beq_self_eq_true,ctt,Obs,Bool.true_and]
    by_cases hl:a.way.length < 60
    · rw [dtt (show (a.way.length:Int) < 60 by omega),dtt hl,ctt,ctt,room_ok (by show (a.way.map packS).length+1≤_; rw [List.length_map]; omega),Obs]
      refine congrArg some ?_
      have e2:(a.way++[noteM a.view k f t s x]).map packS=a.w.way++[packS (noteM a.view k f t s x)]:=by rw [List.map_append]; rfl
      refine Prod.ext e2.symm ?_
      show (⟨a.view,a.ps,a.ord.map enc3,a.w.way++[packS (noteM a.view k f t s x)]⟩:Wld)=⟨a.view,a.ps,a.ord.map enc3,(a.way++[noteM a.view k f t s x]).map packS⟩
      rw [e2]
    · rw [dff (show ¬ (a.way.length:Int) < 60 by omega),dff hl,cff,cff]
  · obtain ⟨c,ec,hc⟩:=pack_bad hok
    have:okN (noteM a.view k f t s x)=false:=by rw [Bool.eq_false_iff]; exact fun q=>hok (okN_iff.1 q)
    rw [ec,Obs,this,hc]
    rfl
theorem sendM_view (a:AW) (k f t s:Int) (x:Str):(sendM a k f t s x).view=a.view:=by
  unfold sendM; cases (okN (noteM a.view k f t s x)&&decide (a.way.length < 60)) <;> rfl
theorem sendM_ps (a:AW) (k f t s:Int) (x:Str):(sendM a k f t s x).ps=a.ps:=by
  unfold sendM; cases (okN (noteM a.view k f t s x)&&decide (a.way.length < 60)) <;> rfl
theorem sendM_ord (a:AW) (k f t s:Int) (x:Str):(sendM a k f t s x).ord=a.ord:=by
  unfold sendM; cases (okN (noteM a.view k f t s x)&&decide (a.way.length < 60)) <;> rfl
theorem sendM_way (a:AW) (k f t s:Int) (x:Str):∀ n∈(sendM a k f t s x).way,n∈a.way∨n=noteM a.view k f t s x:=fun n hn=>by
  unfold sendM at hn
  cases hc:(okN (noteM a.view k f t s x)&&decide (a.way.length < 60)) with
  | false=>rw [hc] at hn; exact .inl hn
  | true =>
    rw [hc] at hn
    rcases List.mem_append.1 hn with q | q
    · exact .inl q
    · exact .inr (List.mem_singleton.1 q)
theorem GA.send {B:Nat} {a:AW} (h:GA B a) {k f t s:Int} {x:Str} (h1:k=1→x.length≤150) (h2:k=2→∃ m,G3 m∧x=enc3 m):GA B (sendM a k f t s x):=by
  unfold sendM
  cases hc:(okN (noteM a.view k f t s x)&&decide (a.way.length < 60)) with
  | false=>exact h
  | true =>
    rw [Bool.and_eq_true,decide_eq_true_eq] at hc
    refine ⟨h.n,h.ps,h.ord,⟨by show (a.way++[_]).length≤60; rw [List.length_append]; simp; omega,fun n hn=>?_⟩,h.num⟩
    rcases List.mem_append.1 hn with q | q
    · exact h.way.2 n q
    · rw [List.mem_singleton.1 q]
      exact ⟨okN_iff.1 hc.1,h1,h2⟩
end Go.Proofs.YtchmclllcdknjaaGreatDoor
