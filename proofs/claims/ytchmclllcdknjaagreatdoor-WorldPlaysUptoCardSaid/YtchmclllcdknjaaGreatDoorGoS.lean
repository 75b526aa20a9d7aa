/-
  Strings.
-/
import Derived.Test.YtchmclllcdknjaaGreatDoorGoK
import Derived.Test.YtchmclllcdknjaaGreatDoorGoI
import Derived.Laws.IdiomStrings
namespace Go.Proofs.YtchmclllcdknjaaGreatDoor
open Go.RowKit Enc
def Str.bytes (s:Str):List (BitVec 8):=s.map UInt8.toBitVec
def Str.ofBytes (l:List (BitVec 8)):Str:=l.map UInt8.ofBitVec
theorem Str.size (s:Str):(Str.b s).size=s.length:=by simp [Str.b,ByteArray.size]
theorem Str.b_extract (s:Str) (i j:Nat):(Str.b s).extract i j=Str.b ((s.drop i).take (j - i)):=by
  apply ByteArray.ext
  apply Array.ext'
  simp [Str.b,ByteArray.data_extract,List.extract_eq_take_drop]
theorem Str.b_append (s t:Str):Str.b s++Str.b t=Str.b (s++t):=by
  apply ByteArray.ext
  apply Array.ext'
  simp [Str.b,ByteArray.data_append]
theorem Str.b_get (s:Str) (i:Nat):(Str.b s)[i]? = s[i]?:=by
  by_cases h:i < s.length
  · have h':i < (Str.b s).size:=by rw [Str.size]; exact h
    rw [getElem?_pos (Str.b s) i h',List.getElem?_eq_getElem h]
    rfl
  · have h':¬ i < (Str.b s).size:=by rw [Str.size]; exact h
    rw [getElem?_neg (Str.b s) i h',List.getElem?_eq_none (by omega)]
theorem encs_bytes (s:Str):encs (Str.bytes s)=s.map fun c=>Value.int .u8 (c.toNat:Int):=by
  induction s with
  | nil=>rfl
  | cons c s ih=>show encs (c.toBitVec::Str.bytes s)=_; rw [encs_cons,ih]; rfl
section
set_option linter.unusedSectionVars false
variable {P:Program} {n:Nat} {w0:World} {ops:Array Oper} {Q:Exit→Act→World→Prop} {l:List Oper} {e:List (Nat×Value)} {F:Frz} {L L':List Item} {d:Nat} {dst:Option Nat} {ty:TypeId} {pos:String} {aft:Array Edge} {gd:Option (Nat×Bool)}
theorem Ev.indexStr {x y:Operand} {t:TypeId} {s:Str} {i:Int} {kd:IntKind} {c:UInt8} (hx:ev e x=some (Str.v s)) (hy:ev e y=some (.int kd i)) (hu:∀ w,(underlying t).run P w=.ok .string w) (h:lat s i=some c) :
    Ev P n w0 e F L ⟨dst,.index t x y,ty,pos,aft,gd⟩ (.int .u8 c.toBitVec.toNat):=fun a w ha hw=>by
  obtain ⟨h1,h2⟩:0≤i∧s[i.toNat]? = some c:=by
    unfold lat at h
    split at h
    · exact ⟨by assumption,h⟩
    · cases h
  have hg:(Str.b s)[i.toNat]? = some c:=by rw [Str.b_get]; exact h2
  simp [execOp,ha.eval hx,ha.eval hy,Instr.index,asIntOf,hu,Str.v,h1,hg]
theorem cutS {s m:Str} {i j:Int} (h:cutL s i j=some m):(0≤i∧i≤j∧j≤s.length)∧(Str.b s).extract i.toNat j.toNat=Str.b m:=by
  obtain ⟨h1,h2⟩:=cutL_some h
  exact ⟨h1,by rw [Str.b_extract,h2]⟩
theorem Ev.sliceStrTo {x z:Operand} {t:TypeId} {s m:Str} {j:Int} (hx:ev e x=some (Str.v s)) (hz:ev e z=some (.int .i64 j)) (hu:∀ w,(underlying t).run P w=.ok .string w) (h:cutL s 0 j=some m) :
    Ev P n w0 e F L ⟨dst,.slice t x none (some z) none,ty,pos,aft,gd⟩ (Str.v m):=fun a w ha hw=>by
  obtain ⟨⟨h1,h2,h3⟩,h4⟩:=cutS h
  simp only [Int.toNat_zero] at h4
  simp [execOp,ha.eval hx,ha.eval hz,Instr.sliceAt,Instr.slice,Instr.sliceBounds,Instr.sliceBound,asIntOf,hu,Str.v,Str.size,h2,h3,h4]
theorem Ev.sliceStrFrom {x y:Operand} {t:TypeId} {s m:Str} {i:Int} (hx:ev e x=some (Str.v s)) (hy:ev e y=some (.int .i64 i)) (hu:∀ w,(underlying t).run P w=.ok .string w) (h:cutL s i (s.length:Int)=some m) :
    Ev P n w0 e F L ⟨dst,.slice t x (some y) none none,ty,pos,aft,gd⟩ (Str.v m):=fun a w ha hw=>by
  obtain ⟨⟨h1,h2,h3⟩,h4⟩:=cutS h
  simp only [Int.toNat_natCast] at h4
  simp [execOp,ha.eval hx,ha.eval hy,Instr.sliceAt,Instr.slice,Instr.sliceBounds,Instr.sliceBound,asIntOf,hu,Str.v,Str.size,h1,h2,h4]
theorem Ev.addStr {x y:Operand} {t t2:TypeId} {s m:Str} (hx:ev e x=some (Str.v s)) (hy:ev e y=some (Str.v m)) (h:s.length+m.length≤2 ^ 40) :
    Ev P n w0 e F L ⟨dst,.binOp .add t x y t2,ty,pos,aft,gd⟩ (Str.v (s++m)):=fun a w ha hw=>by
  have h63:¬ (9223372036854775807 < ((s.length:Int)+(m.length:Int))):=by omega
  simp [execOp,ha.eval hx,ha.eval hy,eqGuard,binOp,Op.stringOp,Str.v,Str.size,h63,Str.b_append]
theorem Str.b_list (s:Str):(Str.b s).toList=s:=by simp [ByteArray.toList_eq,Str.b]
theorem Ev.eqlStr {x y:Operand} {t t2:TypeId} {s m:Str} (hx:ev e x=some (Str.v s)) (hy:ev e y=some (Str.v m)) :
    Ev P n w0 e F L ⟨dst,.binOp .eql t x y t2,ty,pos,aft,gd⟩ (.bool (decide (s=m))):=fun a w ha hw=>by
  simp [execOp,ha.eval hx,ha.eval hy,eqGuard,binOp,Op.stringOp,Str.v,Str.b_list]
  rw [Bool.eq_iff_iff]; simp
theorem Ev.neqStr {x y:Operand} {t t2:TypeId} {s m:Str} (hx:ev e x=some (Str.v s)) (hy:ev e y=some (Str.v m)) :
    Ev P n w0 e F L ⟨dst,.binOp .neq t x y t2,ty,pos,aft,gd⟩ (.bool (!decide (s=m))):=fun a w ha hw=>by
  simp [execOp,ha.eval hx,ha.eval hy,eqGuard,binOp,Op.stringOp,Str.v,Str.b_list]
  rw [Bool.eq_iff_iff]; simp
theorem ofBytes_cells (l:List (BitVec 8)):encs l=(Str.ofBytes l).map fun c=>Value.int .u8 (c.toNat:Int):=by
  have:Str.bytes (Str.ofBytes l)=l:=by
    unfold Str.bytes Str.ofBytes
    rw [List.map_map,show (UInt8.toBitVec ∘ UInt8.ofBitVec)=id from rfl,List.map_id]
  rw [← encs_bytes,this]
theorem Ev.bytesStr {x:Operand} {t u el:TypeId} {s:Sl} {ys:List (BitVec 8)} (hx:ev e x=some s.v) (ht:∀ w,(underlying t).run P w=.ok (.slice el) w) (hel:∀ w,(underlying el).run P w=.ok (.int .u8) w) (hu:∀ w,(underlying u).run P w=.ok .string w) (h:Rd w0 F L s ys) :
    Ev P n w0 e F L ⟨dst,.convert t u x,ty,pos,aft,gd⟩ (Str.v (Str.ofBytes ys)):=fun a w ha hw=>by
  obtain ⟨el2,fr,h2⟩:=h w hw
  have hl:s.len=ys.length:=h2.len (by decide)
  have hbs:(Conv.bytesToString s.v).run P w=.ok (Str.v (Str.ofBytes ys)) w:=by
    rcases h2.2.2 with ⟨g2,_⟩|⟨b,off,pre,post,hb,hh,ho,_⟩
    · have hy:ys=[]:=List.length_eq_zero_iff.1 (by omega)
      subst hy
      have hst:Str.v (Str.ofBytes [])=.string ByteArray.empty:=rfl
      rw [hst]
      cases hsa:s.a with
      | none=>simp [Sl.v,hsa,Conv.bytesToString]
      | some ad =>
        have:=run_bytesToString (P:=P) w ad 0 s.cap [] (by simp [loadCells,loadCellsFrom])
        simp [Sl.v,hsa,g2]
        simpa using this
    · have hlc:=run_loadCells_list (P:=P) (w:=w) ⟨b,off,none⟩ (((Str.ofBytes ys).map (fun c=>(c.toNat:Int))).map (Value.int .u8)) (fun j v hj=>by
        rw [add_none,cell_list hh]
        have e1:((Str.ofBytes ys).map (fun c=>(c.toNat:Int))).map (Value.int .u8)=encs ys:=by rw [ofBytes_cells]; simp
        rw [e1] at hj
        rw [List.getElem?_append_right (by omega),List.getElem?_append_left (by have:=(List.getElem?_eq_some_iff.1 hj).1; omega)]
        rw [show off+j - pre.length=j by omega]; exact hj)
      have hlen:(((Str.ofBytes ys).map (fun c=>(c.toNat:Int))).map (Value.int .u8)).length=s.len:=by simp [Str.ofBytes,hl]
      rw [hlen] at hlc
      have:=run_bytesToString (P:=P) w ⟨b,off,none⟩ s.len s.cap _ hlc
      rw [foldl_push_byteCells] at this
      simp only [Sl.v,hb]
      rw [this]
      simp [Str.v,Str.b]
  have hc:(convert t u s.v).run P w=(Conv.bytesToString s.v).run P w:=by
    simp [convert,ht,hu,hel,Sl.v]
  simp [execOp,ha.eval hx,hc,hbs]
theorem run_firstStr {w:World} {m:Nat} (y:Str):(Builtin.firstCells m (Str.b y).size (.string (Str.b y))).run P w=.ok (encs (Str.bytes y)).toArray w:=by
  have h1:(Str.b y).extract 0 (Str.b y).size=Str.b y:=by rw [Str.b_extract,Str.size]; simp
  simp only [Builtin.firstCells,h1,Sem.run_pure]
  congr 1
  rw [encs_bytes]
  apply Array.ext'
  simp [Str.b]
theorem St.appendStr {w:World} {t u ty el:TypeId} {i:Nat} {inf:TypeInfo} {z:Value} {s:Sl} {xs:List Value} {y:Str} (hw:St w0 F L w) (hu:∀ w,(underlying t).run P w=.ok (.slice el) w) (hu2:∀ w,(underlying u).run P w=.ok .string w) (hi:∀ w,(typeInfo el).run P w=.ok inf w) (hsz:inf.size=1) (hz:inf.zero=some z) (hzc:z.cells.size=1)
    (hL:L[i]? = some (.own s el 1 xs)) (hb1:s.len+y.length≤2 ^ 40) (hb2:inf.bytes≤128) :
    ∃ s' w',(Builtin.append_ #[t,u] ty #[s.v,Str.v y]).run P w=.ok s'.v w'∧s'.len=s.len+y.length∧St w0 F (L.set i (.own s' el 1 (xs++encs (Str.bytes y)))) w':=by
  have hs:lies (World.hp w) s el 1 xs:=hw.get hL
  have hyl:(encs (Str.bytes y)).length=y.length:=by rw [encs_bytes]; simp
  have h1:(encs (Str.bytes y)).all one1=true:=encs_one _
  generalize hys:encs (Str.bytes y)=ys at hyl h1
  have hf2:∀ w:World,(Builtin.firstCells 1 (Str.b y).size (.string (Str.b y))).run P w=.ok ys.toArray w:=fun w=>by rw [← hys]; exact run_firstStr y
  rw [Str.size] at hf2
  have hbytes:(s.len+y.length) * inf.bytes≤140737488355328:=Nat.le_trans (Nat.mul_le_mul hb1 hb2) (by decide)
  have hl:(xs++ys).length=(s.len+y.length) * 1:=by rw [List.length_append,hs.1,hyl]; omega
  by_cases hroom:s.len+y.length≤s.cap
  · rcases hs.2.2 with ⟨g2,g3⟩|⟨b,off,pre,post,hb,hh,ho,hcap,hcs⟩
    · have e2:y.length=0:=by omega
      have ey:ys=[]:=List.length_eq_zero_iff.1 (by omega)
      subst ey
      refine ⟨s,w,?_,by omega,?_⟩
      · have hf2':=hf2 w
        rw [e2] at hf2'
        cases ha:s.a with
        | none=>simp [Builtin.append_,hu,hu2,sizeOf,hi,hsz,Builtin.lenOf,Sl.v,Str.v,Str.size,ha,g2,g3,e2,hf2']
        | some a=>simp [Builtin.append_,hu,hu2,sizeOf,hi,hsz,Builtin.lenOf,Sl.v,Str.v,Str.size,ha,g2,g3,e2,hf2',storeCells]
      · rw [List.append_nil]
        have:L.set i (.own s el 1 xs)=L:=by rw [set_at hL]; exact (split_at hL).symm
        rw [this]; exact hw
    · have hxl:=hs.1
      have hpl:y.length≤post.length:=by
        rw [List.length_append] at hcs
        omega
      have hput:Put (pre++(xs++post)) (off+s.len * 1) ys (pre++((xs++ys)++post.drop ys.length)):=by
        refine ⟨pre++xs,post.take ys.length,post.drop ys.length,by simp,by simp; omega,by simp; omega,by simp⟩
      have hst:=run_storeCells_at (P:=P) b (off+s.len * 1) el ys 0 (pre++(xs++post)).toArray w hh (by have:=hput.le; simp at this ⊢; omega) (by intro u hu'; exact List.all_eq_true.1 h1 u hu')
      simp only [Nat.add_zero] at hst
      rw [hput.eq] at hst
      refine ⟨⟨s.a,s.len+y.length,s.cap⟩,w.setRow b (pre++((xs++ys)++post.drop ys.length)).toArray,?_,rfl,?_⟩
      · have hf2':=hf2 w
        simp [Builtin.append_,hu,hu2,sizeOf,hi,hsz,Builtin.lenOf,Sl.v,Str.v,Str.size,hb,hroom,hf2',add_none]
        simp at hst
        simp [hst]
      · refine hw.setRow hL (by simp [Item.foot,Sl.foot,hb]) (by simp [Item.foot,Sl.foot,hb]) fun g hgb=>?_
        refine ⟨hl,by simp only; omega,.inr ⟨b,off,pre,post.drop ys.length,hb,hgb _ _ _ hh,ho,hroom,?_⟩⟩
        simp only [List.length_append,List.length_drop] at hcs ⊢
        omega
  · have hfit:¬ (281474976710656 < Builtin.nextslicecap (s.len+y.length) s.cap * inf.bytes):=by
      have:=growslice_fits (need:=s.len+y.length) (old:=s.cap) (bytes:=inf.bytes) (by omega) hbytes
      omega
    have h63:¬ (9223372036854775807 < ((s.len:Int)+(y.length:Int))):=by omega
    have hf1:=run_first (P:=P) (w:={w with drawn:=w.drawn+1}) hs.drew
    have hf2d:=hf2 w.drew
    have hg:s.len+y.length≤grownCap w (s.len+y.length) s.cap el:=by
      unfold grownCap Question.cut; exact Nat.le_add_right _ _
    refine ⟨⟨some ⟨w.heap.size,0,none⟩,s.len+y.length,grownCap w (s.len+y.length) s.cap el⟩,
      {w with drawn:=w.drawn+1,heap:=w.heap.push (.cells ((xs++ys)++(Builtin.zeroCells z.cells (grownCap w (s.len+y.length) s.cap el - (s.len+y.length))).toList).toArray el)},?_,rfl,?_⟩
    · simp [Sl.v] at hf1
      simp [Builtin.append_,hu,hu2,sizeOf,zeroValue,hi,hsz,hz,Builtin.lenOf,Sl.v,Str.v,Str.size,hroom,h63,hfit,Question.forced,hf1,hf2d,newRow,grownCap]
      generalize Builtin.zeroCells z.cells _=Z
      have harr:xs.toArray++(ys.toArray++Z)=(xs++(ys++Z.toList)).toArray:=by apply Array.ext'; simp
      rw [harr]; rfl
    · have hnew:=(hw.sublist (L':=L.eraseIdx i) (List.eraseIdx_sublist L i)).drew
      refine (hnew.new (i:=.own ⟨some ⟨w.heap.size,0,none⟩,s.len+y.length,grownCap w (s.len+y.length) s.cap el⟩ el 1 (xs++ys))
        (.cells ((xs++ys)++(Builtin.zeroCells z.cells (grownCap w (s.len+y.length) s.cap el - (s.len+y.length))).toList).toArray el) rfl fun g hgb=>?_).perm (set_perm hL)
      refine ⟨hl,by simp only; omega,.inr ⟨_,0,[],_,rfl,by simpa using hgb,rfl,hg,?_⟩⟩
      have hxl:=hs.1
      simp only [List.length_append,hxl,hyl,Builtin.zeroCells,hzc]
      simp
      omega
theorem Lst.appendStr {x y:Operand} {t u el:TypeId} {i:Nat} {inf:TypeInfo} {z:Value} {s:Sl} {xs:List (BitVec 8)} {m:Str} {cs:List Value} (hg:gd=none) (hdst:dst=some d) (hn:d < n) (hx:ev e x=some s.v) (hy:ev e y=some (Str.v m)) (hu:∀ w,(underlying t).run P w=.ok (.slice el) w) (hu2:∀ w,(underlying u).run P w=.ok .string w)
    (hi:∀ w,(typeInfo el).run P w=.ok inf w) (hsz:inf.size=1) (hz:inf.zero=some z) (hzc:z.cells.size=1) (hL:L[i]? = some (.own s el 1 cs)) (hcs:cs=encs xs) (hb1:xs.length+(Str.bytes m).length≤2 ^ 40) (hb2:(decide (inf.bytes≤128))=true)
    (k:∀ s':Sl,Lst P n w0 ops Q l ((d,s'.v)::e) F (L.set i (.own s' el 1 (encs (xs++Str.bytes m))))):Lst P n w0 ops Q (⟨dst,.call ⟨.builtin .append,#[x,y],#[t,u]⟩,ty,pos,aft,gd⟩::l) e F L :=
  Lst.wp_plain hg fun a w h hw=>by
    subst hdst hcs
    have hl1:s.len=xs.length:=(hw.get hL:lies (World.hp w) s el 1 (encs xs)).len (by decide)
    have hml:(Str.bytes m).length=m.length:=by simp [Str.bytes]
    obtain ⟨s',w',hr,_,hst⟩:=St.appendStr (ty:=ty) (y:=m) hw hu hu2 hi hsz hz hzc hL (by omega) (by simpa using hb2)
    unfold Oper.wp
    have hrun:(execOp a.eval ⟨some d,.call ⟨.builtin .append,#[x,y],#[t,u]⟩,ty,pos,aft,gd⟩).run P w=.ok (.value s'.v) w':=by
      simp [execOp,resolve,invoke,builtin,h.eval hx,h.eval hy,hr]
    rw [hrun,Oper.upon_value]
    rw [← encs_append] at hst
    exact k s' _ _ (h.put hn _) hst
theorem Ev.complU32 {x:Operand} {t:TypeId} {i:BitVec 32} (hx:ev e x=some (.int .u32 i.toNat)):Ev P n w0 e F L ⟨dst,.unOp .xor t x,ty,pos,aft,gd⟩ (.int .u32 ((4294967295:BitVec 32) ^^^ i).toNat):=fun a w ha _=>by
  have h:∀ r:BitVec 32,IntKind.u32.wrap (r.toNat:Int)=r.toNat:=fun r=>by rw [wrapU32,bv_int]
  have h2:BitVec.ofInt 32 IntKind.u32.max=(4294967295:BitVec 32):=by decide
  have h3:IntKind.u32.signed=false:=rfl
  simp only [execOp,ha.eval hx,Op.unary,Op.intBits,IntKind.bits,bv_int,h3,Bool.false_eq_true,if_false,h2]
  simp only [h]
  rfl
theorem Ev.orI {x y:Operand} {t t2:TypeId} {i j:Int} (hx:ev e x=some (.int .i64 i)) (hy:ev e y=some (.int .i64 j)):Ev P n w0 e F L ⟨dst,.binOp .or t x y t2,ty,pos,aft,gd⟩ (.int .i64 (w64 ((BitVec.ofInt 64 i ||| BitVec.ofInt 64 j).toNat:Int))):=fun a w ha _=>by
  simp only [execOp,ha.eval hx,ha.eval hy,eqGuard,binOp,Op.intBits,IntKind.bits]
  rfl
end
end Go.Proofs.YtchmclllcdknjaaGreatDoor
