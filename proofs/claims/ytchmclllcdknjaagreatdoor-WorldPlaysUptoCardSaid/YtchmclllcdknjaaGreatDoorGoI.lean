/-
  More computing operations: unsigned numbers, shifts, division, conversions.
-/
import Derived.Test.YtchmclllcdknjaaGreatDoorGoF
namespace Go.Proofs.YtchmclllcdknjaaGreatDoor
open Go.RowKit Enc
def cnt (j:Int):Option Nat:=if 0≤j then some j.toNat else none
theorem cnt_some {j:Int} {n:Nat} (h:cnt j=some n):j=(n:Int):=by
  unfold cnt at h; split at h
  · cases h; omega
  · cases h
theorem wrapU8 (z:Int):IntKind.u8.wrap z=((BitVec.ofInt 8 z).toNat:Int):=by
  simp only [IntKind.wrap,IntKind.bits,IntKind.signed,BitVec.toNat_ofInt]; simp; omega
theorem wrapU16 (z:Int):IntKind.u16.wrap z=((BitVec.ofInt 16 z).toNat:Int):=by
  simp only [IntKind.wrap,IntKind.bits,IntKind.signed,BitVec.toNat_ofInt]; simp; omega
theorem wrapU32 (z:Int):IntKind.u32.wrap z=((BitVec.ofInt 32 z).toNat:Int):=by
  simp only [IntKind.wrap,IntKind.bits,IntKind.signed,BitVec.toNat_ofInt]; simp; omega
theorem wrapU64 (z:Int):IntKind.u64.wrap z=((BitVec.ofInt 64 z).toNat:Int):=by
  simp only [IntKind.wrap,IntKind.bits,IntKind.signed,BitVec.toNat_ofInt]; simp; omega
theorem ofInt_sub' {w:Nat} (a b:Int):BitVec.ofInt w (a - b)=BitVec.ofInt w a - BitVec.ofInt w b:=by
  apply BitVec.eq_of_toInt_eq
  simp [BitVec.toInt_sub,BitVec.toInt_ofInt]
theorem shl_bv {K:Nat} (x:BitVec K) (n:Nat):BitVec.ofInt K ((x.toNat:Int) * 2 ^ (min n K))=x <<< n:=by
  apply BitVec.eq_of_toNat_eq
  rw [BitVec.toNat_ofInt,BitVec.toNat_shiftLeft]
  rw [show ((x.toNat:Int) * 2 ^ (min n K))=((x.toNat * 2 ^ (min n K):Nat):Int) by simp]
  rw [show ((2 ^ K:Nat):Int)=((2 ^ K:Nat):Int) from rfl,← Int.natCast_emod,Int.toNat_natCast,Nat.shiftLeft_eq]
  by_cases h:n≤K
  · rw [Nat.min_eq_left h]
  · rw [Nat.min_eq_right (by omega)]
    rw [Nat.mul_mod_left]
    have:x.toNat * 2 ^ n=(x.toNat * 2 ^ (n - K)) * 2 ^ K:=by
      rw [Nat.mul_assoc,← Nat.pow_add]; congr 2; omega
    rw [this,Nat.mul_mod_left]
theorem shr_bv {K:Nat} (x:BitVec K) (n:Nat):Int.fdiv (x.toNat:Int) (2 ^ (min n K))=((x >>> n).toNat:Int):=by
  rw [BitVec.toNat_ushiftRight,Nat.shiftRight_eq_div_pow,← shr_nat x.toNat n K x.isLt]
  rw [show ((2:Int) ^ (min n K))=((2 ^ (min n K):Nat):Int) by simp]
  exact (Int.ofNat_fdiv _ _).symm
section
variable {P:Program} {n:Nat} {w0:World} {e:List (Nat×Value)} {F:Frz} {L:List Item} {v:Value} {dst:Option Nat} {ty:TypeId} {pos:String} {aft:Array Edge} {gd:Option (Nat×Bool)} {x y:Operand} {t t2 s:TypeId}
theorem Ev.subU8 {i j:BitVec 8} (hx:ev e x=some (.int .u8 i.toNat)) (hy:ev e y=some (.int .u8 j.toNat)):Ev P n w0 e F L ⟨dst,.binOp .sub t x y t2,ty,pos,aft,gd⟩ (.int .u8 (i - j).toNat):=by
  have h:=Ev.subK (P:=P) (n:=n) (w0:=w0) (F:=F) (L:=L) (dst:=dst) (ty:=ty) (pos:=pos) (aft:=aft) (gd:=gd) (t:=t) (t2:=t2) hx hy
  rw [wrapU8] at h
  rwa [show BitVec.ofInt 8 ((i.toNat:Int) - (j.toNat:Int))=i - j from by rw [ofInt_sub',bv_int,bv_int]] at h
theorem Ev.andU8 {i j:BitVec 8} (hx:ev e x=some (.int .u8 i.toNat)) (hy:ev e y=some (.int .u8 j.toNat)):Ev P n w0 e F L ⟨dst,.binOp .and t x y t2,ty,pos,aft,gd⟩ (.int .u8 (i &&& j).toNat):=fun a w ha _=>by
  have h:∀ r:BitVec 8,IntKind.u8.wrap (r.toNat:Int)=r.toNat:=fun r=>by rw [wrapU8,bv_int]
  simp only [execOp,ha.eval hx,ha.eval hy,eqGuard,binOp,Op.intBits,IntKind.bits,bv_int]
  simp only [h]
  rfl
theorem Ev.orU8 {i j:BitVec 8} (hx:ev e x=some (.int .u8 i.toNat)) (hy:ev e y=some (.int .u8 j.toNat)):Ev P n w0 e F L ⟨dst,.binOp .or t x y t2,ty,pos,aft,gd⟩ (.int .u8 (i ||| j).toNat):=fun a w ha _=>by
  have h:∀ r:BitVec 8,IntKind.u8.wrap (r.toNat:Int)=r.toNat:=fun r=>by rw [wrapU8,bv_int]
  simp only [execOp,ha.eval hx,ha.eval hy,eqGuard,binOp,Op.intBits,IntKind.bits,bv_int]
  simp only [h]
  rfl
theorem Ev.andNotU8 {i j:BitVec 8} (hx:ev e x=some (.int .u8 i.toNat)) (hy:ev e y=some (.int .u8 j.toNat)):Ev P n w0 e F L ⟨dst,.binOp .andNot t x y t2,ty,pos,aft,gd⟩ (.int .u8 (i &&& ~~~j).toNat):=fun a w ha _=>by
  have h:∀ r:BitVec 8,IntKind.u8.wrap (r.toNat:Int)=r.toNat:=fun r=>by rw [wrapU8,bv_int]
  simp only [execOp,ha.eval hx,ha.eval hy,eqGuard,binOp,Op.intBits,IntKind.bits,bv_int]
  simp only [h]
  rfl
theorem Ev.shlU8 {i:BitVec 8} {k:IntKind} {m:Nat} (hx:ev e x=some (.int .u8 i.toNat)) (hy:ev e y=some (.int k (m:Int))):Ev P n w0 e F L ⟨dst,.binOp .shl t x y t2,ty,pos,aft,gd⟩ (.int .u8 (i <<< m).toNat):=fun a w ha _=>by
  have hj:¬ (m:Int) < 0:=by omega
  have h:=shl_bv i m
  simp only [execOp,ha.eval hx,ha.eval hy,eqGuard,binOp,Op.shift,IntKind.bits,if_neg hj,Int.toNat_natCast]
  simp only [wrapU8,h]
  simp
theorem Ev.shrU8 {i:BitVec 8} {k:IntKind} {m:Nat} (hx:ev e x=some (.int .u8 i.toNat)) (hy:ev e y=some (.int k (m:Int))):Ev P n w0 e F L ⟨dst,.binOp .shr t x y t2,ty,pos,aft,gd⟩ (.int .u8 (i >>> m).toNat):=fun a w ha _=>by
  have hj:¬ (m:Int) < 0:=by omega
  have h:=shr_bv i m
  simp only [execOp,ha.eval hx,ha.eval hy,eqGuard,binOp,Op.shift,IntKind.bits,if_neg hj,Int.toNat_natCast]
  simp only [h]
  simp
theorem Ev.remU8 {i j:BitVec 8} (hx:ev e x=some (.int .u8 i.toNat)) (hy:ev e y=some (.int .u8 j.toNat)) (hj:(j.toNat:Int)≠0):Ev P n w0 e F L ⟨dst,.binOp .rem t x y t2,ty,pos,aft,gd⟩ (.int .u8 (i % j).toNat):=fun a w ha _=>by
  have h:((i.toNat:Int).tmod (j.toNat:Int))=((i % j).toNat:Int):=by rw [BitVec.toNat_umod]; exact (Int.ofNat_tmod _ _).symm
  simp only [execOp,ha.eval hx,ha.eval hy,eqGuard,binOp,Op.intDiv,if_neg hj,h]
  simp
theorem Ev.convTo8 {k:IntKind} {i:Int} {d1:TypeDesc} (hx:ev e x=some (.int k i)) (h1:∀ w,(underlying s).run P w=.ok d1 w) (h2:∀ w,(underlying t).run P w=.ok (.int .u8) w):Ev P n w0 e F L ⟨dst,.convert s t x,ty,pos,aft,gd⟩ (.int .u8 (BitVec.ofInt 8 i).toNat):=by
  rw [← wrapU8]; exact Ev.convI hx h1 h2
theorem Ev.quoU16 {i j:BitVec 16} (hx:ev e x=some (.int .u16 i.toNat)) (hy:ev e y=some (.int .u16 j.toNat)) (hj:(j.toNat:Int)≠0):Ev P n w0 e F L ⟨dst,.binOp .quo t x y t2,ty,pos,aft,gd⟩ (.int .u16 (i / j).toNat):=fun a w ha _=>by
  have h:IntKind.u16.wrap ((i.toNat:Int).tdiv (j.toNat:Int))=((i / j).toNat:Int):=by
    rw [show ((i.toNat:Int).tdiv (j.toNat:Int))=((i / j).toNat:Int) from by rw [BitVec.toNat_udiv]; exact (Int.ofNat_tdiv _ _).symm,wrapU16,bv_int]
  simp only [execOp,ha.eval hx,ha.eval hy,eqGuard,binOp,Op.intDiv,if_neg hj,h]
  simp
theorem Ev.remU16 {i j:BitVec 16} (hx:ev e x=some (.int .u16 i.toNat)) (hy:ev e y=some (.int .u16 j.toNat)) (hj:(j.toNat:Int)≠0):Ev P n w0 e F L ⟨dst,.binOp .rem t x y t2,ty,pos,aft,gd⟩ (.int .u16 (i % j).toNat):=fun a w ha _=>by
  have h:((i.toNat:Int).tmod (j.toNat:Int))=((i % j).toNat:Int):=by rw [BitVec.toNat_umod]; exact (Int.ofNat_tmod _ _).symm
  simp only [execOp,ha.eval hx,ha.eval hy,eqGuard,binOp,Op.intDiv,if_neg hj,h]
  simp
theorem Ev.convTo16 {k:IntKind} {i:Int} {d1:TypeDesc} (hx:ev e x=some (.int k i)) (h1:∀ w,(underlying s).run P w=.ok d1 w) (h2:∀ w,(underlying t).run P w=.ok (.int .u16) w):Ev P n w0 e F L ⟨dst,.convert s t x,ty,pos,aft,gd⟩ (.int .u16 (BitVec.ofInt 16 i).toNat):=by
  rw [← wrapU16]; exact Ev.convI hx h1 h2
theorem Ev.andU32 {i j:BitVec 32} (hx:ev e x=some (.int .u32 i.toNat)) (hy:ev e y=some (.int .u32 j.toNat)):Ev P n w0 e F L ⟨dst,.binOp .and t x y t2,ty,pos,aft,gd⟩ (.int .u32 (i &&& j).toNat):=fun a w ha _=>by
  have h:∀ r:BitVec 32,IntKind.u32.wrap (r.toNat:Int)=r.toNat:=fun r=>by rw [wrapU32,bv_int]
  simp only [execOp,ha.eval hx,ha.eval hy,eqGuard,binOp,Op.intBits,IntKind.bits,bv_int]
  simp only [h]
  rfl
theorem Ev.xorU32 {i j:BitVec 32} (hx:ev e x=some (.int .u32 i.toNat)) (hy:ev e y=some (.int .u32 j.toNat)):Ev P n w0 e F L ⟨dst,.binOp .xor t x y t2,ty,pos,aft,gd⟩ (.int .u32 (i ^^^ j).toNat):=fun a w ha _=>by
  have h:∀ r:BitVec 32,IntKind.u32.wrap (r.toNat:Int)=r.toNat:=fun r=>by rw [wrapU32,bv_int]
  simp only [execOp,ha.eval hx,ha.eval hy,eqGuard,binOp,Op.intBits,IntKind.bits,bv_int]
  simp only [h]
  rfl
theorem Ev.shrU32 {i:BitVec 32} {k:IntKind} {m:Nat} (hx:ev e x=some (.int .u32 i.toNat)) (hy:ev e y=some (.int k (m:Int))):Ev P n w0 e F L ⟨dst,.binOp .shr t x y t2,ty,pos,aft,gd⟩ (.int .u32 (i >>> m).toNat):=fun a w ha _=>by
  have hj:¬ (m:Int) < 0:=by omega
  have h:=shr_bv i m
  simp only [execOp,ha.eval hx,ha.eval hy,eqGuard,binOp,Op.shift,IntKind.bits,if_neg hj,Int.toNat_natCast]
  simp only [h]
  simp
theorem Ev.convTo32 {k:IntKind} {i:Int} {d1:TypeDesc} (hx:ev e x=some (.int k i)) (h1:∀ w,(underlying s).run P w=.ok d1 w) (h2:∀ w,(underlying t).run P w=.ok (.int .u32) w):Ev P n w0 e F L ⟨dst,.convert s t x,ty,pos,aft,gd⟩ (.int .u32 (BitVec.ofInt 32 i).toNat):=by
  rw [← wrapU32]; exact Ev.convI hx h1 h2
theorem Ev.shrU64 {i:BitVec 64} {k:IntKind} {m:Nat} (hx:ev e x=some (.int .u64 i.toNat)) (hy:ev e y=some (.int k (m:Int))):Ev P n w0 e F L ⟨dst,.binOp .shr t x y t2,ty,pos,aft,gd⟩ (.int .u64 (i >>> m).toNat):=fun a w ha _=>by
  have hj:¬ (m:Int) < 0:=by omega
  have h:=shr_bv i m
  simp only [execOp,ha.eval hx,ha.eval hy,eqGuard,binOp,Op.shift,IntKind.bits,if_neg hj,Int.toNat_natCast]
  simp only [h]
  simp
theorem Ev.convTo64 {k:IntKind} {i:Int} {d1:TypeDesc} (hx:ev e x=some (.int k i)) (h1:∀ w,(underlying s).run P w=.ok d1 w) (h2:∀ w,(underlying t).run P w=.ok (.int .u64) w):Ev P n w0 e F L ⟨dst,.convert s t x,ty,pos,aft,gd⟩ (.int .u64 (BitVec.ofInt 64 i).toNat):=by
  rw [← wrapU64]; exact Ev.convI hx h1 h2
theorem Ev.shl64 {i:Int} {k:IntKind} {m:Nat} (hx:ev e x=some (.int .i64 i)) (hy:ev e y=some (.int k (m:Int))):Ev P n w0 e F L ⟨dst,.binOp .shl t x y t2,ty,pos,aft,gd⟩ (.int .i64 (w64 (i * 2 ^ (min m 64)))):=fun a w ha _=>by
  have hj:¬ (m:Int) < 0:=by omega
  simp only [execOp,ha.eval hx,ha.eval hy,eqGuard,binOp,Op.shift,IntKind.bits,if_neg hj,Int.toNat_natCast]
  simp [w64]
theorem Ev.shr64 {i:Int} {k:IntKind} {m:Nat} (hx:ev e x=some (.int .i64 i)) (hy:ev e y=some (.int k (m:Int))):Ev P n w0 e F L ⟨dst,.binOp .shr t x y t2,ty,pos,aft,gd⟩ (.int .i64 (i.fdiv (2 ^ (min m 64)))):=fun a w ha _=>by
  have hj:¬ (m:Int) < 0:=by omega
  simp only [execOp,ha.eval hx,ha.eval hy,eqGuard,binOp,Op.shift,IntKind.bits,if_neg hj,Int.toNat_natCast]
  simp
theorem Ev.conv64 {k:IntKind} {i:Int} {d1:TypeDesc} (hx:ev e x=some (.int k i)) (h1:∀ w,(underlying s).run P w=.ok d1 w) (h2:∀ w,(underlying t).run P w=.ok (.int .i64) w):Ev P n w0 e F L ⟨dst,.convert s t x,ty,pos,aft,gd⟩ (.int .i64 (w64 i)):=Ev.convI hx h1 h2
end
end Go.Proofs.YtchmclllcdknjaaGreatDoor
