/-
  What the strings library needs: entries of the model, the bytes of a string, errors that are nil.
-/
import Derived.Test.YtchmclllcdknjaaGreatDoorGoS
import Derived.Lib.Bytealg
namespace Go.Proofs.YtchmclllcdknjaaGreatDoor
open Go.RowKit Enc
def sIdx (s:Str) (c:BitVec 8):Int:=Lib.indexByte s (UInt8.ofBitVec c)
def sCnt (s:Str) (c:BitVec 8):Int:=((s.count (UInt8.ofBitVec c):Nat):Int)
theorem u8_back (c:BitVec 8):(c.toNat:Int).toNat.toUInt8=UInt8.ofBitVec c:=by
  rw [Int.toNat_natCast]
  apply UInt8.toNat_inj.1
  have:=c.isLt
  simp
section
variable {P:Program} {n:Nat} {w0:World} {ops:Array Oper} {Q:Exit→Act→World→Prop} {K:Act→Prop} {l:List Oper} {e:List (Nat×Value)} {F F0:Frz} {L L':List Item} {v:Value} {dst:Option Nat} {d:Nat} {ty:TypeId} {pos:String} {aft:Array Edge} {gd:Option (Nat×Bool)}
theorem Ev.entry2 {x y:Operand} {u u':Value} {f:FuncId} {ats:Array TypeId} {fn:Func} {E:Array Value→Sem Value} (hx:ev e x=some u) (hy:ev e y=some u') (hf:P.funcs[f]? = some fn) (hname:(fn.name== "runtime.NumGoroutine")=false) (hb:fn.body.isNone=true) (hnx:Extern.findNext fn=none) (he:Extern.find fn=some E)
    (hr:∀ w,(E #[u,u']).run P w=.ok v w):Ev P n w0 e F L ⟨dst,.call ⟨.value (.func f),#[x,y],ats⟩,ty,pos,aft,gd⟩ v:=fun a w h hw=>by
  have hc:=run_callFunc_extern (P:=P) hf hname hb hnx he #[u,u'] w
  rw [hr w] at hc
  have e1:=h.eval hx
  have e2:=h.eval hy
  simp [execOp,resolve,Deferred.ofValue,Act.eval,invoke,e1,e2]
  simp [Act.eval] at e1 e2
  first | exact hc | (simp [e1,e2]; exact hc) | (rw [hc]; rfl) | (simp [e1,e2,hc]; done)
theorem Ev.idxByte {x y:Operand} {s:Str} {c:BitVec 8} {f:FuncId} {ats:Array TypeId} {fn:Func} (hx:ev e x=some (Str.v s)) (hy:ev e y=some (.int .u8 c.toNat)) (hf:P.funcs[f]? = some fn) (hname:(fn.name== "runtime.NumGoroutine")=false) (hb:fn.body.isNone=true) (hnx:Extern.findNext fn=none) (he:Extern.find fn=some Extern.BytealgIndexByte.indexByte) :
    Ev P n w0 e F L ⟨dst,.call ⟨.value (.func f),#[x,y],ats⟩,ty,pos,aft,gd⟩ (.int .i64 (sIdx s c)) :=
  Ev.entry2 hx hy hf hname hb hnx he fun w=>by
    have:=Lib.run_indexByteString (P:=P) (Str.b s) (c.toNat:Int) w
    rw [u8_back] at this
    exact this
theorem Ev.cntByte {x y:Operand} {s:Str} {c:BitVec 8} {f:FuncId} {ats:Array TypeId} {fn:Func} (hx:ev e x=some (Str.v s)) (hy:ev e y=some (.int .u8 c.toNat)) (hf:P.funcs[f]? = some fn) (hname:(fn.name== "runtime.NumGoroutine")=false) (hb:fn.body.isNone=true) (hnx:Extern.findNext fn=none) (he:Extern.find fn=some Extern.BytealgCount.count) :
    Ev P n w0 e F L ⟨dst,.call ⟨.value (.func f),#[x,y],ats⟩,ty,pos,aft,gd⟩ (.int .i64 (sCnt s c)) :=
  Ev.entry2 hx hy hf hname hb hnx he fun w=>by
    have:=Lib.run_countString (P:=P) (Str.b s) (c.toNat:Int) w
    rw [u8_back] at this
    exact this
theorem Ev.indexAddrK {ik:IntKind} {x y:Operand} {t el:TypeId} {b off off' len s:Nat} {i:Int} (hx:ev e x=some (.pointer (some ⟨b,off,none⟩))) (hy:ev e y=some (.int ik i)) (hu:∀ w,(underlying t).run P w=.ok (.array len el) w)
    (hs:∀ w,(sizeOf el).run P w=.ok s w) (h0:0≤i) (hi:i < len) (ho:off+i.toNat * s=off'):Ev P n w0 e F L ⟨dst,.indexAddr t x y,ty,pos,aft,gd⟩ (.pointer (some ⟨b,off',none⟩)):=fun a w ha _=>by
  subst ho
  simp [execOp,ha.eval hx,ha.eval hy,Instr.indexAt,asIntOf,hu,Instr.sureAddr,hs,h0,hi,Addr.add]
theorem Ev.neqErr {x:Operand} {t t2:TypeId} {ms:Array (String×TypeId)} (hx:ev e x=some .nilIface) (hu:∀ w,(underlying t).run P w=.ok (.interface ms) w):Ev P n w0 e F L ⟨dst,.binOp .neq t x (.const .nilIface) t2,ty,pos,aft,gd⟩ (.bool false):=fun a w h hw=>by
  have e1:Op.equal t .nilIface .nilIface=Op.equalIn (9999+1) t .nilIface .nilIface:=rfl
  have e2:a.eval (.const .nilIface)=.nilIface:=rfl
  simp [execOp,h.eval hx,e2,eqGuard,binOp,e1]
  unfold Op.equalIn
  simp [hu]
theorem Ev.eqlErr {x:Operand} {t t2:TypeId} {ms:Array (String×TypeId)} (hx:ev e x=some .nilIface) (hu:∀ w,(underlying t).run P w=.ok (.interface ms) w):Ev P n w0 e F L ⟨dst,.binOp .eql t x (.const .nilIface) t2,ty,pos,aft,gd⟩ (.bool true):=fun a w h hw=>by
  have e1:Op.equal t .nilIface .nilIface=Op.equalIn (9999+1) t .nilIface .nilIface:=rfl
  have e2:a.eval (.const .nilIface)=.nilIface:=rfl
  simp [execOp,h.eval hx,e2,eqGuard,binOp,e1]
  unfold Op.equalIn
  simp [hu]
theorem Ev.eqlPtr {x:Operand} {t t2 el:TypeId} {ad:Addr} (hx:ev e x=some (.pointer (some ad))) (hu:∀ w,(underlying t).run P w=.ok (.pointer el) w):Ev P n w0 e F L ⟨dst,.binOp .eql t x (.const (.pointer none)) t2,ty,pos,aft,gd⟩ (.bool false):=fun a w h hw=>by
  have e1:Op.equal t (.pointer (some ad)) (.pointer none)=Op.equalIn (9999+1) t (.pointer (some ad)) (.pointer none):=rfl
  have e2:a.eval (.const (.pointer none))=.pointer none:=rfl
  simp [execOp,h.eval hx,e2,eqGuard,binOp,e1]
  unfold Op.equalIn
  simp [hu]
theorem Ev.eqlPN {x:Operand} {t t2 el:TypeId} (hx:ev e x=some (.pointer none)) (hu:∀ w,(underlying t).run P w=.ok (.pointer el) w):Ev P n w0 e F L ⟨dst,.binOp .eql t x (.const (.pointer none)) t2,ty,pos,aft,gd⟩ (.bool true):=fun a w h hw=>by
  have e1:Op.equal t (.pointer none) (.pointer none)=Op.equalIn (9999+1) t (.pointer none) (.pointer none):=rfl
  have e2:a.eval (.const (.pointer none))=.pointer none:=rfl
  simp [execOp,h.eval hx,e2,eqGuard,binOp,e1]
  unfold Op.equalIn
  simp [hu]
theorem Lst.bytesOf {x:Operand} {t u el:TypeId} {s:Str} (hg:gd=none) (hdst:dst=some d) (hn:d < n) (hx:ev e x=some (Str.v s)) (hs:P.underlying t=some .string) (hd:P.underlying u=some (.slice el)) (he:P.underlying el=some (.int .u8)) (hl:s.length≤2 ^ 40)
    (kk:∀ (s':Sl) (F':Frz),FLe F F'→Rd w0 F' [] s' (Str.bytes s)→Lst P n w0 ops Q l ((d,s'.v)::e) F' L):Lst P n w0 ops Q (⟨dst,.convert t u x,ty,pos,aft,gd⟩::l) e F L :=
  Lst.wp_plain hg fun a w h hw=>by
    subst hdst
    have hc:=run_bytes_of_string (P:=P) w t u el (Str.b s) hs hd he
    obtain ⟨c,hcap⟩:∃ c,c=grownCap w (Str.b s).size 0 el:=⟨_,rfl⟩
    have hge:(Str.b s).size≤c:=by
      rw [hcap]; unfold grownCap Question.cut; exact Nat.le_add_right _ _
    rw [← hcap] at hc
    have hsz:(Str.b s).size=s.length:=Str.size s
    have hrow:bytesRow (Str.b s) c=([]++(encs (Str.bytes s)++List.replicate (c - s.length) (Value.int .u8 0))).toArray:=by
      apply Array.ext'
      rw [encs_bytes]
      unfold bytesRow
      simp [Str.b,hsz,ByteArray.size]
    rw [hrow] at hc
    generalize (([]++(encs (Str.bytes s)++List.replicate (c - s.length) (Value.int .u8 0))).toArray).size=m at hc
    unfold Oper.wp
    have hrun:(execOp a.eval ⟨some d,.convert t u x,ty,pos,aft,gd⟩).run P w=.ok (.value (.slice (some ⟨w.heap.size,0,none⟩) (Str.b s).size c)) {w with drawn:=w.drawn+1,heap:=w.heap.push (.cells ([]++(encs (Str.bytes s)++List.replicate (c - s.length) (Value.int .u8 0))).toArray el (m,m+1))}:=by
      have hc':=hc
      simp only [World.alloc,World.drew] at hc'
      have hv:Str.v s=.string (Str.b s):=rfl
      have e1:=h.eval hx
      rw [hv] at e1
      simp [execOp,e1]
      rw [hc']
      simp
    rw [hrun,Oper.upon_value]
    have hnew:=hw.drew.new (.cells ([]++(encs (Str.bytes s)++List.replicate (c - s.length) (Value.int .u8 0))).toArray el (m,m+1)) (i:=.obj w.heap.size (.cells ([]++(encs (Str.bytes s)++List.replicate (c - s.length) (Value.int .u8 0))).toArray el (m,m+1))) rfl (by intro g hgb; exact hgb)
    obtain ⟨F',hF,hst,hh⟩:=St.freeze (i:=0) hnew rfl
    refine kk ⟨some ⟨w.heap.size,0,none⟩,(Str.b s).size,c⟩ F' hF (fun w' hw'=>?_) _ _ (h.put hn _) hst
    have hb:=hh w' hw'
    refine ⟨el,_,?_,?_,.inr ⟨w.heap.size,0,[],List.replicate (c - s.length) (Value.int .u8 0),rfl,hb,rfl,hge,?_⟩⟩
    · rw [encs_len]; simp [Str.bytes,hsz]
    · simp only; omega
    · rw [List.length_append,encs_len,List.length_replicate]
      have:sz (BitVec 8)=1:=rfl
      simp only [this,Str.bytes,List.length_map]
      omega
end
end Go.Proofs.YtchmclllcdknjaaGreatDoor
