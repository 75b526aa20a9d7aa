/-
  What slices.Insert needs: capacities, growth behind a cut, slices that reach over their cells, copies of raw cells, blocks that do not overlap.
-/
import Derived.Test.YtchmclllcdknjaaGreatDoorGoK
import Derived.Lib.Overlaps
namespace Go.Proofs.YtchmclllcdknjaaGreatDoor
open Go.RowKit Enc
section
variable {P:Program} {n:Nat} {w0:World} {ops:Array Oper} {Q:Exit→Act→World→Prop} {K:Act→Prop} {l:List Oper} {e:List (Nat×Value)} {F F0:Frz} {L L':List Item} {v:Value} {dst:Option Nat} {d:Nat} {ty:TypeId} {pos:String} {aft:Array Edge} {gd:Option (Nat×Bool)}
theorem St.reitem {w:World} {i:Nat} {it it':Item} (h:St w0 F L w) (hL:L[i]? = some it) (hf:it'.foot=it.foot) (hh:it'.holds (World.hp w)):St w0 F (L.set i it') w:=by
  have hfe:feet (L.set i it')=feet L:=by
    rw [set_at hL]
    conv=>rhs; rw [split_at hL]
    rw [feet_append,feet_append,feet_cons,feet_cons,hf]
  refine ⟨h.below,h.frz,fun b hb=>h.apart b (by rw [hfe] at hb; exact hb),fun j hj=>?_,by rw [hfe]; exact h.nodup⟩
  rcases List.mem_or_eq_of_mem_set hj with hj | rfl
  · exact h.holds j hj
  · exact hh
theorem Ev.capS {x:Operand} {s:Sl} {t el:TypeId} {ats:Array TypeId} (hx:ev e x=some s.v) (hat:ats[0]? = some t) (hu:∀ w,(underlying t).run P w=.ok (.slice el) w):Ev P n w0 e F L ⟨dst,.call ⟨.builtin .cap,#[x],ats⟩,ty,pos,aft,gd⟩ (.int .i64 (s.cap:Int)):=fun a w h hw=>by
  simp [execOp,resolve,invoke,builtin,Builtin.cap_,hat,h.eval hx,hu,Sl.v,goInt]
theorem Ev.cutTo {x b:Operand} {t el:TypeId} {s:Sl} {j:Int} {m q:Nat} (hx:ev e x=some s.v) (hb:ev e b=some (.int .i64 j)) (hj:j=(q:Int)) (hu:∀ w,(underlying t).run P w=.ok (.slice el) w) (hs:∀ w,(sizeOf el).run P w=.ok m w) (h3:q≤s.cap) :
    Ev P n w0 e F L ⟨dst,.slice t x none (some b) none,ty,pos,aft,gd⟩ (Sl.v ⟨s.a,q,s.cap⟩):=fun ac w h hw=>by
  subst hj
  have h0:∀ a:Addr,a.add 0=a:=fun a=>by unfold Addr.add; simp
  have ha':s.a.map (fun a:Addr=>a.add 0)=s.a:=by cases s.a <;> simp [h0]
  simp [execOp,Instr.sliceAt,h.eval hx,h.eval hb,hu,Sl.v,Instr.slice,Instr.sliceBounds,run_sliceBound (P:=P) (w:=w) (i:=(q:Int)) (m:=s.cap) (by omega) (by omega),hs]
  try simp [ha']
theorem Ev.cutFrom {x b:Operand} {t el:TypeId} {s:Sl} {j:Int} {m q:Nat} (hx:ev e x=some s.v) (hb:ev e b=some (.int .i64 j)) (hj:j=(q:Int)) (hu:∀ w,(underlying t).run P w=.ok (.slice el) w) (hs:∀ w,(sizeOf el).run P w=.ok m w) (h3:q≤s.len) :
    Ev P n w0 e F L ⟨dst,.slice t x (some b) none none,ty,pos,aft,gd⟩ (Sl.v (s.cut q s.len m)):=fun ac w h hw=>by
  subst hj
  simp [execOp,Instr.sliceAt,h.eval hx,h.eval hb,hu,Sl.v,Instr.slice,Instr.sliceBounds,run_sliceBound (P:=P) (w:=w) (i:=(q:Int)) (m:=s.len) (by omega) (by omega),hs,Sl.cut]
theorem liesF.lencap {fr:Nat×Nat} {h:Nat→Option Obj} {s:Sl} {t:TypeId} {m:Nat} {xs:List Value} (hl:liesF fr h s t m xs):s.len≤s.cap:=by
  rcases hl.2.2 with ⟨h1,h2⟩|⟨_,_,_,_,_,_,_,h4,_⟩ <;> omega
theorem Lst.extend {α:Type} [Enc α] {j m q:Nat} {s:Sl} {t:TypeId} {xs:List α} {cs:List Value} (hL:L[j]? = some (.own s t m cs)) (hcs:cs=encs xs) (hm:m=sz α) (hp:0 < sz α) (hq:xs.length+q≤s.cap) (h63:xs.length+q≤2 ^ 63 - 1)
    (h:∀ js:List Value,js.length=q * m→Lst P n w0 ops Q l e F (L.set j (.own ⟨s.a,xs.length+q,s.cap⟩ t m (encs xs++js)))):Lst P n w0 ops Q l e F L:=fun a w ha hw=>by
  subst hcs hm
  have hl:lies (World.hp w) s t (sz α) (encs xs):=hw.get hL
  have hlen:=hl.len hp
  rcases hl.2.2 with ⟨g2,g3⟩|⟨b,off,pre,post,hb,hh,ho,hcap,hcs⟩
  · have h0:q=0:=by omega
    subst h0
    refine h [] (by simp) a w ha ?_
    have hs:(⟨s.a,xs.length+0,s.cap⟩:Sl)=s:=by
      cases s
      simp only at hlen ⊢
      rw [hlen]; rfl
    rw [hs,List.append_nil,set_at hL,← split_at hL]; exact hw
  · have hpl:q * sz α≤post.length:=by
      have h3:(xs.length+q) * sz α≤s.cap * sz α:=Nat.mul_le_mul_right _ hq
      rw [Nat.add_mul] at h3
      rw [List.length_append,encs_len] at hcs
      omega
    refine h (post.take (q * sz α)) (by simp; omega) a w ha (hw.reitem hL rfl ?_)
    refine ⟨by rw [List.length_append,encs_len,List.length_take,Nat.min_eq_left hpl,← Nat.add_mul],h63,.inr ⟨b,off,pre,post.drop (q * sz α),hb,?_,ho,hq,?_⟩⟩
    · rw [List.append_assoc,List.take_append_drop]; exact hh
    · rw [List.append_assoc,List.take_append_drop]; exact hcs
theorem Lst.appendGrow {α:Type} [Enc α] {x y:Operand} {t t2 el:TypeId} {j m i k:Nat} {ki:IntKind} {inf:TypeInfo} {z:Value} {s:Sl} {xs:List α} {cs:List Value} (z0:α) (hg:gd=none) (hdst:dst=some d) (hn:d < n) (hx:ev e x=some (s.cut 0 i m).v) (hy:ev e y=some (.int .i64 (k:Int))) (hu:∀ w,(underlying t).run P w=.ok (.slice el) w)
    (hu2:∀ w,(underlying t2).run P w=.ok (.int ki) w) (hi:∀ w,(typeInfo el).run P w=.ok inf w) (hsz:inf.size=m) (hz:inf.zero=some z) (hzc:z.cells=(enc z0).toArray) (hmm:m=sz α) (hm:(m==0)=false) (hb1:i+k≤2 ^ 40) (hb2:(decide (inf.bytes≤128))=true)
    (hL:L[j]? = some (.own s el m cs)) (hcs:cs=encs xs) (h1:i≤xs.length) (hgr:s.cap < i+k)
    (kk:∀ s':Sl,Lst P n w0 ops Q l ((d,s'.v)::e) F (.own s' el m (encs (xs.take i++List.replicate k z0))::L)):Lst P n w0 ops Q (⟨dst,.call ⟨.builtin .append,#[x,y],#[t,t2]⟩,ty,pos,aft,gd⟩::l) e F L :=
  Lst.wp_plain hg fun a w h hw=>by
    subst hdst hmm hcs
    have h0:0 < sz α:=by have:¬ sz α=0:=by simpa using hm
                         omega
    have hb2':inf.bytes≤128:=by simpa using hb2
    have hl:lies (World.hp w) s el (sz α) (encs xs):=hw.get hL
    have hlen:=hl.len h0
    have hlc:=hl.lencap
    have hw64:IntKind.i64.wrap (k:Int)=k:=w64_id (by omega) (by omega)
    have hbig:¬ ((2:Int) ^ 48 < (k:Int) * (inf.bytes:Int)):=by
      have:k * inf.bytes≤2 ^ 40 * 128:=Nat.mul_le_mul (by omega) hb2'
      omega
    have hn0:¬ ((k:Int) < 0):=by omega
    simp only [Int.reducePow] at hbig
    have hk:¬ (k=0):=by omega
    have hks:¬ (k * sz α=0):=by
      intro hh; rcases Nat.mul_eq_zero.1 hh with h' | h' <;> omega
    have hbytes:(i+k) * inf.bytes≤140737488355328:=Nat.le_trans (Nat.mul_le_mul hb1 hb2') (by decide)
    have hfit:¬ (281474976710656 < Builtin.nextslicecap (i+k) s.cap * inf.bytes):=by
      have:=growslice_fits (need:=i+k) (old:=s.cap) (bytes:=inf.bytes) (by omega) hbytes
      omega
    have h63:¬ (9223372036854775807 < ((i:Int)+(k:Int))):=by omega
    have hgc:i+k≤grownCap w (i+k) s.cap el:=by
      unfold grownCap Question.cut; exact Nat.le_add_right _ _
    have hroom:¬ (i+k≤s.cap):=by omega
    have hzs:z.cells.size=sz α:=by rw [hzc]; simp [Enc.len]
    have hrep:∀ q,(Builtin.zeroCells z.cells q).toList=encs (List.replicate q z0):=fun q=>by
      have:=rep_cells h0 hzc q
      unfold Builtin.zeroCells
      rw [hzs] at this ⊢
      rw [this]
    have eci:(s.cut 0 i (sz α)).len=i:=by simp [Sl.cut]
    have ecc:(s.cut 0 i (sz α)).cap=s.cap:=by simp [Sl.cut]
    have hf1:=run_first (P:=P) (w:={w with drawn:=w.drawn+1}) (hl.cut (Nat.zero_le i) (by omega)).drew
    simp only [Nat.zero_mul,List.drop_zero,Nat.sub_zero] at hf1
    rw [← encs_take,eci] at hf1
    unfold Oper.wp
    have hrun:(execOp a.eval ⟨some d,.call ⟨.builtin .append,#[x,y],#[t,t2]⟩,ty,pos,aft,gd⟩).run P w=.ok (.value (.slice (some ⟨w.heap.size,0,none⟩) (i+k) (grownCap w (i+k) s.cap el)))
        {w with drawn:=w.drawn+1,heap:=w.heap.push (.cells (encs (xs.take i++List.replicate k z0)++(Builtin.zeroCells z.cells (grownCap w (i+k) s.cap el - (i+k))).toList).toArray el)}:=by
      have hz1:Builtin.zeroCells z.cells k=(encs (List.replicate k z0)).toArray:=by apply Array.ext'; rw [hrep]
      simp [Sl.v,eci,ecc] at hf1
      simp [execOp,resolve,invoke,builtin,h.eval hx,h.eval hy,Builtin.append_,hu,hu2,sizeOf,hi,hsz,asInt,asIntOf,hw64,hn0,hbig,zeroValue,hz,Sl.v,eci,ecc,hk,h63,hfit,hroom,Builtin.lenOf,Question.forced,newRow,grownCap]
      rw [hf1]
      simp [hks,hz1]
      generalize Builtin.zeroCells z.cells _=Z
      have harr:(encs (xs.take i)).toArray++((encs (List.replicate k z0)).toArray++Z)=(encs (xs.take i++List.replicate k z0)++Z.toList).toArray:=by apply Array.ext'; simp [encs_append]
      have harr2:(encs (xs.take i)).toArray++(encs (List.replicate k z0)).toArray++Z=(encs (xs.take i++List.replicate k z0)++Z.toList).toArray:=by apply Array.ext'; simp [encs_append]
      first | rfl | (rw [harr]; rfl) | (rw [harr2]; rfl) | simp [encs_append]
    rw [hrun,Oper.upon_value]
    have hnew:=hw.drew
    refine kk ⟨some ⟨w.heap.size,0,none⟩,i+k,grownCap w (i+k) s.cap el⟩ _ _ (h.put hn _) (hnew.new (i:=.own ⟨some ⟨w.heap.size,0,none⟩,i+k,grownCap w (i+k) s.cap el⟩ el (sz α) (encs (xs.take i++List.replicate k z0)))
      (.cells (encs (xs.take i++List.replicate k z0)++(Builtin.zeroCells z.cells (grownCap w (i+k) s.cap el - (i+k))).toList).toArray el) rfl fun g hgb=>?_)
    refine ⟨by rw [encs_len]; simp [Nat.min_eq_left h1],by simp only; omega,.inr ⟨_,0,[],_,rfl,by simpa using hgb,rfl,hgc,?_⟩⟩
    rw [List.length_append,encs_len,hrep,encs_len,List.length_append,List.length_take,List.length_replicate,List.length_replicate,Nat.min_eq_left h1,← Nat.add_mul]
    exact Nat.le_of_eq (by congr 1; simp only; omega)
theorem Lst.copyRaw {α:Type} [Enc α] {x y:Operand} {t t2 el:TypeId} {i m lo hi:Nat} {s s2:Sl} {ys:List α} {cs:List Value} (hg:gd=none) (hdst:dst=some d) (hn:d < n) (hx:ev e x=some (s.cut lo hi m).v) (hy:ev e y=some s2.v) (hu:∀ w,(underlying t).run P w=.ok (.slice el) w)
    (hs:∀ w,(sizeOf el).run P w=.ok m w) (hm:m=sz α) (hp:0 < sz α) (hL:L[i]? = some (.own s el m cs)) (h2:∀ w,St w0 F L w→∃ t fr zs,liesF fr (World.hp w) s2 t m zs∧zs.take (ys.length * m)=encs ys) (hk:min (hi - lo) s2.len=ys.length) (h0:lo≤hi) (h1:hi≤s.len)
    (k:Lst P n w0 ops Q l ((d,.int .i64 (ys.length:Int))::e) F (L.set i (.own s el m (cs.take (lo * m)++(encs ys++cs.drop ((lo+ys.length) * m)))))):Lst P n w0 ops Q (⟨dst,.call ⟨.builtin .copy,#[x,y],#[t,t2]⟩,ty,pos,aft,gd⟩::l) e F L :=
  Lst.wp_plain hg fun a w h hw=>by
    subst hdst hm
    have hl:lies (World.hp w) s el (sz α) cs:=hw.get hL
    have hcl:=hl.1
    obtain ⟨el2,fr2,zs,h3,h4⟩:=h2 w hw
    have hkl:ys.length≤hi - lo:=by omega
    have hrd:=run_firstN (P:=P) h3 (k:=ys.length) (by omega)
    rw [h4] at hrd
    have hq:min s2.len (hi - lo)=ys.length:=by rw [Nat.min_comm]; exact hk
    unfold Oper.wp
    by_cases he:ys.length=0
    · have hy0:ys=[]:=List.length_eq_zero_iff.1 he
      subst hy0
      have hsame:cs.take (lo * sz α)++(encs ([]:List α)++cs.drop ((lo+([]:List α).length) * sz α))=cs:=by
        simp [encs_nil]
      rw [hsame,set_at hL,← split_at hL] at k
      have hrun:(execOp a.eval ⟨some d,.call ⟨.builtin .copy,#[x,y],#[t,t2]⟩,ty,pos,aft,gd⟩).run P w=.ok (.value (.int .i64 ((([]:List α).length:Nat):Int))) w:=by
        have hq0:s2.len.min (hi - lo)=0:=hq
        simp [execOp,resolve,invoke,builtin,Builtin.copy_,h.eval hx,h.eval hy,hu,hs,Sl.v,Builtin.lenOf,Sl.cut,goInt]
        simp [Sl.v,encs_nil] at hrd
        rw [hq0,hrd]
        cases hsa:s.a <;> simp [storeCells]
        split <;> simp
      rw [hrun,Oper.upon_value]
      exact k _ _ (h.put hn _) hw
    · rcases hl.2.2 with ⟨g2,_⟩|⟨b,off,pre,post,hb,hh,ho,hcap,hcs⟩
      · omega
      · have hlc:s.len≤s.cap:=hcap
        have hca:(s.cut lo hi (sz α)).a=some ⟨b,off+lo * sz α,none⟩:=by
          rcases cut_at (s:=s) (lo:=lo) (hi:=hi) (m:=sz α) hb with ⟨_,h9⟩ | h9
          · omega
          · exact h9
        have hmul:(lo+ys.length) * sz α≤s.len * sz α:=Nat.mul_le_mul_right _ (by omega)
        rw [Nat.add_mul] at hmul
        have hput0:Put cs (lo * sz α) (encs ys) (cs.take (lo * sz α)++(encs ys++cs.drop ((lo+ys.length) * sz α))):=by
          refine ⟨cs.take (lo * sz α),(cs.drop (lo * sz α)).take (ys.length * sz α),cs.drop ((lo+ys.length) * sz α),?_,?_,?_,rfl⟩
          · rw [Nat.add_mul,← List.drop_drop,List.take_append_drop,List.take_append_drop]
          · rw [List.length_take,Nat.min_eq_left (by omega)]
          · rw [encs_len,List.length_take,List.length_drop,Nat.min_eq_left (by omega)]
        have hput:Put (pre++(cs++post)) (off+lo * sz α) (encs ys) (pre++((cs.take (lo * sz α)++(encs ys++cs.drop ((lo+ys.length) * sz α)))++post)):=Put.right ho (Put.left hput0)
        have hst:=run_storeCells_at (P:=P) b (off+lo * sz α) el (encs ys) 0 (pre++(cs++post)).toArray w hh (by have:=hput.le; simp at this ⊢; omega) (by intro u hu'; exact List.all_eq_true.1 (encs_one _) u hu')
        simp only [Nat.add_zero] at hst
        rw [hput.eq] at hst
        have hrun:(execOp a.eval ⟨some d,.call ⟨.builtin .copy,#[x,y],#[t,t2]⟩,ty,pos,aft,gd⟩).run P w=.ok (.value (.int .i64 (ys.length:Int))) (w.setRow b (pre++((cs.take (lo * sz α)++(encs ys++cs.drop ((lo+ys.length) * sz α)))++post)).toArray):=by
          have hcl2:(s.cut lo hi (sz α)).len=hi - lo:=rfl
          simp [Sl.v] at hrd hst
          simp [execOp,resolve,invoke,builtin,Builtin.copy_,h.eval hx,h.eval hy,hu,hs,Sl.v,Builtin.lenOf,hca,hcl2,hq,goInt,hrd,hst]
        rw [hrun,Oper.upon_value]
        refine k _ _ (h.put hn _) (hw.setRow hL (by simp [Item.foot,Sl.foot,hb]) (by simp [Item.foot,Sl.foot,hb]) fun g hgb=>?_)
        have hcl:(cs.take (lo * sz α)++(encs ys++cs.drop ((lo+ys.length) * sz α))).length=cs.length:=hput0.len
        refine ⟨by rw [hcl]; exact hl.1,hl.2.1,.inr ⟨b,off,pre,post,hb,hgb _ _ _ hh,ho,hcap,?_⟩⟩
        rw [List.length_append,hcl,← List.length_append]; exact hcs
theorem raw_from {α:Type} [Enc α] {i m lo:Nat} {s:Sl} {t:TypeId} {cs:List Value} {ys:List α} {rest:List Value} (hL:L[i]? = some (.own s t m cs)) (h1:lo≤s.len) (hc:cs.drop (lo * m)=encs ys++rest) (hm:m=sz α) :
    ∀ w,St w0 F L w→∃ t fr zs,liesF fr (World.hp w) (s.cut lo s.len m) t m zs∧zs.take (ys.length * m)=encs ys:=fun w hw=>by
  subst hm
  have hl:lies (World.hp w) s t (sz α) cs:=hw.get hL
  refine ⟨t,_,_,hl.cut h1 (Nat.le_refl _),?_⟩
  have hcl:=hl.1
  have h2:(cs.drop (lo * sz α)).length=(s.len - lo) * sz α:=by rw [List.length_drop,hcl,Nat.sub_mul]
  rw [List.take_of_length_le (Nat.le_of_eq h2),hc,← encs_len ys,List.take_left']
  rfl
theorem rd_raw {α:Type} [Enc α] {s:Sl} {m:Nat} {ys:List α} (hr:Rd w0 F L s ys) (hm:m=sz α):∀ w,St w0 F L w→∃ t fr zs,liesF fr (World.hp w) s t m zs∧zs.take (ys.length * m)=encs ys:=fun w hw=>by
  subst hm
  obtain ⟨t,fr,h⟩:=hr w hw
  exact ⟨t,fr,_,h,by rw [← encs_len ys,List.take_length]⟩
theorem feet_two {i j:Nat} {x y:Item} (hi:L[i]? = some x) (hj:L[j]? = some y) (hij:i≠j) (hn:(feet L).Nodup) {b:Nat} (hx:b∈x.foot):b ∉ y.foot:=by
  intro hy
  have e:=split_at hi
  rw [e,feet_append,feet_cons] at hn
  have h1:=List.nodup_append.1 hn
  have h2:=List.nodup_append.1 h1.2.1
  rcases Nat.lt_or_gt_of_ne hij with h | h
  · have:y∈L.drop (i+1):=by
      refine List.mem_of_getElem? (i:=j - (i+1)) ?_
      rw [List.getElem?_drop,show i+1+(j - (i+1))=j by omega]; exact hj
    exact h2.2.2 b hx b (mem_feet this hy) rfl
  · have:y∈L.take i:=by
      refine List.mem_of_getElem? (i:=j) ?_
      rw [List.getElem?_take,if_pos h]; exact hj
    exact h1.2.2 b (mem_feet this hy) b (List.mem_append_left _ hx) rfl
theorem Lst.overlapsNo {x y:Operand} {t r el:TypeId} {m i j lo hi:Nat} {s s2:Sl} {cs ds:List Value} {fn:Func} {f:FuncId} {ats:Array TypeId} (hg:gd=none) (hdst:dst=some d) (hn:d < n) (hx:ev e x=some s2.v) (hy:ev e y=some (s.cut lo hi m).v) (hu:P.underlying t=some (.slice el)) (hs:∀ w,(sizeOf el).run P w=.ok m w)
    (hf:P.funcs[f]? = some fn) (hname:(fn.name== "runtime.NumGoroutine")=false) (hb:fn.body.isNone=true) (hnx:Extern.findNext fn=none) (he:Extern.find fn=some (Extern.SlicesOverlaps.overlaps #[t,t] #[r]))
    (hL:L[i]? = some (.own s el m cs)) (hL2:L[j]? = some (.own s2 el m ds)) (hij:i≠j) (h1:0 < s.len) (h2:0 < s2.len) (hm:0 < m)
    (k:Lst P n w0 ops Q l ((d,.bool false)::e) F L):Lst P n w0 ops Q (⟨dst,.call ⟨.value (.func f),#[x,y],ats⟩,ty,pos,aft,gd⟩::l) e F L :=
  Lst.wp_plain hg fun a w h hw=>by
    subst hdst
    have hl:lies (World.hp w) s el m cs:=hw.get hL
    have hl2:lies (World.hp w) s2 el m ds:=hw.get hL2
    rcases hl.2.2 with ⟨g,_⟩|⟨b,off,pre,post,hb1,hh,ho,hcap,hcs⟩
    · omega
    rcases hl2.2.2 with ⟨g,_⟩|⟨b2,off2,pre2,post2,hb2,hh2,ho2,hcap2,hcs2⟩
    · omega
    have hne:b2≠b:=fun q=>by
      subst q
      exact feet_two hL2 hL (Ne.symm hij) hw.nodup (b:=b2) (by simp [Item.foot,Sl.foot,hb2]) (by simp [Item.foot,Sl.foot,hb1])
    have hcut:∃ o,(s.cut lo hi m).a=some ⟨b,o,none⟩:=by
      rcases cut_at (s:=s) (lo:=lo) (hi:=hi) (m:=m) hb1 with ⟨h9,_⟩ | h9
      · exact ⟨_,h9⟩
      · exact ⟨_,h9⟩
    obtain ⟨o,hcut⟩:=hcut
    have hh':w.heap[b]? = some (.cells (pre++(cs++post)).toArray el (0,0)):=hh
    have hh2':w.heap[b2]? = some (.cells (pre2++(ds++post2)).toArray el (0,0)):=hh2
    have hsz:(pre++(cs++post)).toArray.size≠0:=by
      have:0 < s.cap * m:=Nat.mul_pos (by omega) hm
      simp only [List.size_toArray,List.length_append] at hcs ⊢
      omega
    have hov:=Lib.run_overlaps_apart w t r el hu m hs ⟨b2,off2,none⟩ ⟨b,o,none⟩ s2.len s2.cap (s.cut lo hi m).len (s.cut lo hi m).cap hne el el (pre2++(ds++post2)).toArray.size (pre++(cs++post)).toArray.size
      (by unfold World.shape?; rw [hh2']) (by unfold World.shape?; rw [hh']) hsz (by unfold World.frozen?; rw [hh2']; simp) (by unfold World.frozen?; rw [hh2']; simp)
    unfold Oper.wp
    have hrun:(execOp a.eval ⟨some d,.call ⟨.value (.func f),#[x,y],ats⟩,ty,pos,aft,gd⟩).run P w=.ok (.value (.bool false)) w:=by
      have hc:=run_callFunc_extern (P:=P) hf hname hb hnx he #[s2.v,(s.cut lo hi m).v] w
      have hv2:s2.v=.slice (some ⟨b2,off2,none⟩) s2.len s2.cap:=by unfold Sl.v; rw [hb2]
      have hv1:(s.cut lo hi m).v=.slice (some ⟨b,o,none⟩) (s.cut lo hi m).len (s.cut lo hi m).cap:=by unfold Sl.v; rw [hcut]
      rw [hv2,hv1,hov] at hc
      have e1:=h.eval hx
      have e2:=h.eval hy
      rw [hv2] at e1
      rw [hv1] at e2
      simp [execOp,resolve,Deferred.ofValue,Act.eval,invoke,e1,e2]
      simp [Act.eval] at e1 e2
      first | exact hc | (simp [e1,e2]; exact hc) | (rw [hc]; rfl) | (simp [e1,e2,hc]; done)
    rw [hrun,Oper.upon_value]
    exact k _ _ (h.put hn _) hw
end
theorem insert_cells {V J A B:List Value} (hJ:J.length=V.length):(((A++B++J).take (A.length+V.length)++(B++(A++B++J).drop (A.length+V.length+B.length))).take A.length)++(V++(((A++B++J).take (A.length+V.length)++(B++(A++B++J).drop (A.length+V.length+B.length))).drop (A.length+V.length)))=A++V++B:=by
  have h1:(A++B++J).drop (A.length+V.length+B.length)=[]:=List.drop_of_length_le (by simp; omega)
  have h2:((A++B++J).take (A.length+V.length)).length=A.length+V.length:=by simp; omega
  rw [h1,List.append_nil,List.drop_left' h2,List.take_append_of_le_length (by rw [h2]; omega),List.take_take,Nat.min_eq_left (by omega),List.append_assoc,List.take_left' rfl,List.append_assoc]
theorem insert_grow {α:Type} {xs ys:List α} {i:Nat} {z:α} (h:i≤xs.length):copyL (copyL (xs.take i++List.replicate (xs.length+ys.length - i) z) i (xs.take i++List.replicate (xs.length+ys.length - i) z).length ys) (i+ys.length) (copyL (xs.take i++List.replicate (xs.length+ys.length - i) z) i (xs.take i++List.replicate (xs.length+ys.length - i) z).length ys).length (xs.drop i)=xs.take i++ys++xs.drop i:=by
  have hl:(xs.take i++List.replicate (xs.length+ys.length - i) z).length=xs.length+ys.length:=by simp; omega
  have h1:copyL (xs.take i++List.replicate (xs.length+ys.length - i) z) i (xs.take i++List.replicate (xs.length+ys.length - i) z).length ys=xs.take i++(ys++List.replicate (xs.length - i) z):=by
    rw [hl]
    unfold copyL
    rw [List.take_of_length_le (show ys.length≤xs.length+ys.length - i by omega),List.take_left' (by simp; omega)]
    have e:i+min (xs.length+ys.length - i) ys.length=i+ys.length:=by omega
    rw [e,List.drop_append,List.drop_of_length_le (by simp; omega),List.nil_append,List.length_take,Nat.min_eq_left h,List.drop_replicate]
    congr 3; omega
  rw [h1]
  have hl2:(xs.take i++(ys++List.replicate (xs.length - i) z)).length=xs.length+ys.length:=by simp; omega
  rw [hl2]
  unfold copyL
  have e2:(xs.drop i).take (xs.length+ys.length - (i+ys.length))=xs.drop i:=List.take_of_length_le (by simp; omega)
  have e3:i+ys.length+min (xs.length+ys.length - (i+ys.length)) (xs.drop i).length=xs.length+ys.length:=by simp; omega
  have e4:(xs.take i++(ys++List.replicate (xs.length - i) z)).drop (xs.length+ys.length)=[]:=List.drop_of_length_le (by rw [hl2]; omega)
  rw [e2,e3,e4,List.append_nil,← List.append_assoc,List.take_left' (by simp; omega)]
theorem copyL_length {α:Type} {xs ys:List α} {lo hi:Nat} (h1:lo≤hi) (h2:hi≤xs.length):(copyL xs lo hi ys).length=xs.length:=by
  unfold copyL; simp; omega
theorem Rd.cutEnd {α:Type} [Enc α] {w0:World} {F:Frz} {L:List Item} (h0:0 < sz α) {v:Sl} {xs:List α} {lo:Nat} (h:Rd w0 F L v xs) (h1:lo≤xs.length):Rd w0 F L (v.cut lo xs.length (sz α)) (xs.drop lo):=by
  have:=Rd.cut h0 h h1 (Nat.le_refl _)
  rwa [List.take_of_length_le (by simp)] at this
end Go.Proofs.YtchmclllcdknjaaGreatDoor
