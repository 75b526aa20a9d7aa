/-
  Arrays of slices: each entry's handle lies in the array; the rows are owned or frozen.
-/
import Derived.Test.YtklkkoelldkncaaGreatDoorGoO
import Derived.Lib.Bytealg
import Derived.Lib.ItoaNum
import Derived.Conc.CrowdRun
import Derived.Conc.TokenWalk
set_option linter.unusedSimpArgs false
set_option linter.unusedVariables false
namespace Go.Proofs.YtklkkoelldkncaaGreatDoor
open Go.RowKit an
theorem qc{ρ α:Type}{f:ρ->α}{m:Nat}{rs:Vector ρ m}{xs:Vector α m}(h:rs.toList.map f=xs.toList){i:Nat}{x:α}(j:xs[i]?=some x):∃r,rs[i]?=some r/\f r=x/\r∈rs.toList/\rs.toList[i]?=some r:=by obtain⟨r,a,d,g⟩:=l9 h (i:=i) (x:=x) (by simpa using j);exact⟨r,by simpa using a,d,g,a⟩
theorem qd{ρ α:Type}{f:ρ->α}{m:Nat}{rs:Vector ρ m}{xs:Vector α m}(a:rs.toList.map f=xs.toList)(i:Nat)(r:ρ):(rs.setIfInBounds i r).toList.map f=(xs.setIfInBounds i (f r)).toList:=by rw[A6,A6,map_set a]
theorem zn{ρ α:Type}{f:ρ->α}(k:Nat)(r:ρ):(Vector.replicate k r).toList.map f=(Vector.replicate k (f r)).toList:=by simp
theorem p9{ρ:Type}{rel:World->bk->List Item->ρ->Prop}{w0:World}{F:bk}{L:List Item}{m:Nat}{rs:Vector ρ m}{x:ρ}{i:Nat}(h:aL rel w0 F L rs.toList)(a:rel w0 F L x):aL rel w0 F L (rs.setIfInBounds i x).toList:=by rw[A6];exact nE h a
theorem zl{ρ:Type}{rel:World->bk->List Item->ρ->Prop}{w0:World}{F:bk}{L:List Item}{x:ρ}{k:Nat}(a:rel w0 F L x):aL rel w0 F L (Vector.replicate k x).toList:=by rw[Vector.toList_replicate];exact aL.rep a
theorem jg{α a:Type}(f:α->a){l:List α}{i:Nat}{x:α}(h:l[i]?=some x):(List.map f l)[i]?=some (f x):=by rw[kD,h];rfl
theorem nx{α a:Type}{f:α->a}{l:List α}{i:Nat}{x y:α}(h:l[i]?=some x)(e:f y=f x):List.map f (l.set i y)=List.map f l:=by rw[ox,e];exact Mg (jg f h)
theorem Ks{α d:Type}{f:α->d}{l:List α}{i:Nat}{y:α}{a b:d}(e:f y=b):((List.map f l).set i a).set i b=List.map f (l.set i y):=by rw[l0,ox,e]
def jA{α:Type}(d a:List (LR α))(s:Sl)(l:List α):Prop:=(s=Sl.nil/\l=[])\/(⟨l,s⟩:LR α)∈d\/(⟨l,s⟩:LR α)∈a
theorem jA.nil{α:Type}{d a:List (LR α)}:jA d a Sl.nil []:=.inl ⟨X,X⟩
theorem jA.row{α:Type}{d a:List (LR α)}{k:Nat}{s:Sl}{l:List α}(h:d[k]?=some ⟨l,s⟩):jA d a s l:=.inr (.inl (eN h))
theorem jA.set{α:Type}{d a:List (LR α)}{k:Nat}{s:Sl}{l:List α}{r y:LR α}(h:jA d a s l)(g:d[k]?=some r):jA (d.set k y) (a++[r]) s l:=by
 rcases h with h|h|h
 .exact .inl h
 .obtain⟨j,f⟩:=kE h;by_cases e:j=k
  .subst e;rw[g]at f;cases f;exact .inr (.inr (by simp))
  .refine .inr (.inl (eN (i:=j) ?_));rw[List.getElem?_set,ck (λh=>e h.symm)];exact f
 .exact .inr (.inr (qY _ h))
theorem QS{α:Type}[an α]{w0:World}{F:bk}{L:List Item}{i j:Nat}{u t:TypeId}{d a:List (LR α)}{s:Sl}{l:List α}(m:L[i]?=some (.rows u d))(g:L[j]?=some (.rows t a))(h:jA d a s l):Rd w0 F L s l:=by
 rcases h with⟨rfl,rfl⟩|h|h
 .exact j3
 .obtain⟨k,f⟩:=kE h;exact Rd.row m f
 .obtain⟨k,f⟩:=kE h;exact Rd.row g f
section
variable {P:Program}{C:Co P}{n:Fm}{w0:World}{ops:Array Oper}{Q:eC}{l:List Oper}{e:List (Nat×Value)}{F:bk}{L L':List Item}
theorem Cd.nL{c:Code}(α:Type)[an α](u:TypeId)(k:Nat)(h:Cd P n w0 Q c e F (.rows u (List.replicate k (⟨[],Sl.nil⟩:LR α))::L)):Cd P n w0 Q c e F L:=λa hd w d f=>h a hd w d f.nL
theorem At.nL{x:Exit}(α:Type)[an α](u:TypeId)(k:Nat)(h:At n w0 Q x e F (.rows u (List.replicate k (⟨[],Sl.nil⟩:LR α))::L)):At n w0 Q x e F L:=λa hd w d f=>h a hd w d f.nL
end
abbrev ta:=@QS
def cnt(j:Int):Option Nat:=if 0<=j then some j.toNat else none
theorem qw{j:Int}{n:Nat}(h:cnt j=some n):j=(n:Int):=by
 unfold cnt at h;split at h
 .cases h;omega
 .cases h
theorem wd(z:Int):IntKind.u8.wrap z=((BitVec.ofInt 8 z).toNat:Int):=by simp only[IntKind.wrap,IntKind.bits,IntKind.signed,lG];simp;omega
theorem M8(z:Int):IntKind.u16.wrap z=((BitVec.ofInt 16 z).toNat:Int):=by simp only[IntKind.wrap,IntKind.bits,IntKind.signed,lG];simp;omega
theorem tO(z:Int):IntKind.u32.wrap z=((BitVec.ofInt 32 z).toNat:Int):=by simp only[IntKind.wrap,IntKind.bits,IntKind.signed,lG];simp;omega
theorem Cx(z:Int):IntKind.u64.wrap z=((BitVec.ofInt 64 z).toNat:Int):=by simp only[IntKind.wrap,IntKind.bits,IntKind.signed,lG];simp;omega
theorem Wr{w:Nat}(a b:Int):BitVec.ofInt w (a-b)=BitVec.ofInt w a-BitVec.ofInt w b:=by apply BitVec.eq_of_toInt_eq;simp[BitVec.toInt_sub,BitVec.toInt_ofInt]
theorem aac{K:Nat}(x:BitVec K)(n:Nat):BitVec.ofInt K ((x.toNat:Int)*2^(min n K))=x<<<n:=by
 apply sM;rw[lG,BitVec.toNat_shiftLeft];rw[show((x.toNat:Int)*2^(min n K))=((x.toNat*2^(min n K):Nat):Int) by simp];rw[show((2^K:Nat):Int)=((2^K:Nat):Int)from X,<-Int.natCast_emod,jZ,Nat.shiftLeft_eq];by_cases h:n<=K
 .rw[iV h]
 .rw[Nat.min_eq_right O];rw[Nat.mul_mod_left];have:x.toNat*2^n=(x.toNat*2^(n-K))*2^K:=by
   rw[Nat.mul_assoc,<-Nat.pow_add];congr 2;omega
  rw[this,Nat.mul_mod_left]
theorem Gg{K:Nat}(x:BitVec K)(n:Nat):Int.fdiv (x.toNat:Int) (2^(min n K))=((x>>>n).toNat:Int):=by rw[oq,oi,<-aad x.toNat n K x.isLt];rw[show((2:Int)^(min n K))=((2^(min n K):Nat):Int) by simp];exact(Int.ofNat_fdiv _ _).symm
section
variable {P:Program}{C:Co P}{n:Fm}{w0:World}{e:List (Nat×Value)}{F:bk}{L:List Item}{v:Value}{dst:Option Nat}{ty:TypeId}{pos:String}{aX:Array Edge}{gd:Option (Nat×Bool)}{x y:Operand}{t t2 s:TypeId}
theorem wm{i j:BitVec 8}(a:ev e x=some (.int .u8 i.toNat))(d:ev e y=some (.int .u8 j.toNat)):Ev P n w0 e F L ⟨dst,.binOp .sub t x y t2,ty,pos,aX,gd⟩ (.int .u8 (i-j).toNat):=by have h:=G9 (P:=P) (n:=n) (w0:=w0) (F:=F) (L:=L) (dst:=dst) (ty:=ty) (pos:=pos) (aX:=aX) (gd:=gd) (t:=t) (t2:=t2) a d;rw[wd]at h;rwa[show BitVec.ofInt 8 ((i.toNat:Int)-(j.toNat:Int))=i-j from by rw[Wr,fO,fO]]at h
theorem NC{i j:BitVec 8}(f:ev e x=some (.int .u8 i.toNat))(g:ev e y=some (.int .u8 j.toNat)):Ev P n w0 e F L ⟨dst,.binOp .and t x y t2,ty,pos,aX,gd⟩ (.int .u8 (i&&&j).toNat):=λa w d _=>by
 have h:∀r:BitVec 8,IntKind.u8.wrap (r.toNat:Int)=r.toNat:=λr=>by rw[wd,fO]
 refine cK ?_ (by simp[execOp,d.eval f,d.eval g,eqGuard,binOp,Op.intBits,IntKind.bits,fO]);simp only[execOp,d.eval f,d.eval g,eqGuard,binOp,Op.intBits,IntKind.bits,fO];simp only[h];rfl
theorem wj{i j:BitVec 8}(f:ev e x=some (.int .u8 i.toNat))(g:ev e y=some (.int .u8 j.toNat)):Ev P n w0 e F L ⟨dst,.binOp .or t x y t2,ty,pos,aX,gd⟩ (.int .u8 (i|||j).toNat):=λa w d _=>by
 have h:∀r:BitVec 8,IntKind.u8.wrap (r.toNat:Int)=r.toNat:=λr=>by rw[wd,fO]
 refine cK ?_ (by simp[execOp,d.eval f,d.eval g,eqGuard,binOp,Op.intBits,IntKind.bits,fO]);simp only[execOp,d.eval f,d.eval g,eqGuard,binOp,Op.intBits,IntKind.bits,fO];simp only[h];rfl
theorem GT{i j:BitVec 8}(f:ev e x=some (.int .u8 i.toNat))(g:ev e y=some (.int .u8 j.toNat)):Ev P n w0 e F L ⟨dst,.binOp .andNot t x y t2,ty,pos,aX,gd⟩ (.int .u8 (i&&& ~~~j).toNat):=λa w d _=>by
 have h:∀r:BitVec 8,IntKind.u8.wrap (r.toNat:Int)=r.toNat:=λr=>by rw[wd,fO]
 refine cK ?_ (by simp[execOp,d.eval f,d.eval g,eqGuard,binOp,Op.intBits,IntKind.bits,fO]);simp only[execOp,d.eval f,d.eval g,eqGuard,binOp,Op.intBits,IntKind.bits,fO];simp only[h];rfl
theorem wl{i:BitVec 8}{k:IntKind}{m:Nat}(g:ev e x=some (.int .u8 i.toNat))(j:ev e y=some (.int k (m:Int))):Ev P n w0 e F L ⟨dst,.binOp .shl t x y t2,ty,pos,aX,gd⟩ (.int .u8 (i<<<m).toNat):=λa w d _=>by
 have f:¬(m:Int)<0:=by omega
 have h:=aac i m;refine cK ?_ (by simp[execOp,d.eval g,d.eval j,eqGuard,binOp,Op.shift,IntKind.bits,ck f,jZ]<;>exact λl=>absurd l O);simp only[execOp,d.eval g,d.eval j,eqGuard,binOp,Op.shift,IntKind.bits,ck f,jZ];simp only[wd,h];simp
theorem zP{i:BitVec 8}{k:IntKind}{m:Nat}(g:ev e x=some (.int .u8 i.toNat))(j:ev e y=some (.int k (m:Int))):Ev P n w0 e F L ⟨dst,.binOp .shr t x y t2,ty,pos,aX,gd⟩ (.int .u8 (i>>>m).toNat):=λa w d _=>by
 have f:¬(m:Int)<0:=by omega
 have h:=Gg i m;refine cK ?_ (by simp[execOp,d.eval g,d.eval j,eqGuard,binOp,Op.shift,IntKind.bits,ck f,jZ]<;>exact λl=>absurd l O);simp only[execOp,d.eval g,d.eval j,eqGuard,binOp,Op.shift,IntKind.bits,ck f,jZ];simp only[h];simp
theorem G4{i j:BitVec 8}(g:ev e x=some (.int .u8 i.toNat))(k:ev e y=some (.int .u8 j.toNat))(f:(j.toNat:Int)≠0):Ev P n w0 e F L ⟨dst,.binOp .rem t x y t2,ty,pos,aX,gd⟩ (.int .u8 (i%j).toNat):=λa w d _=>by
 have h:((i.toNat:Int).tmod (j.toNat:Int))=((i%j).toNat:Int):=by rw[iJ];exact(Ba _ _).symm
 refine cK ?_ (by simp[execOp,d.eval g,d.eval k,eqGuard,binOp,Op.intDiv,ck f,h]<;>exact λl=>absurd l O);simp only[execOp,d.eval g,d.eval k,eqGuard,binOp,Op.intDiv,ck f,h];simp
theorem NI{k:IntKind}{i:Int}{d1:TypeDesc}(f:ev e x=some (.int k i))(a:∀w,(underlying s).run P w=.ok d1 w)(d:∀w,(underlying t).run P w=.ok (.int .u8) w):Ev P n w0 e F L ⟨dst,.convert s t x,ty,pos,aX,gd⟩ (.int .u8 (BitVec.ofInt 8 i).toNat):=by rw[<-wd];exact tP f a d
theorem Oa{i j:BitVec 16}(g:ev e x=some (.int .u16 i.toNat))(k:ev e y=some (.int .u16 j.toNat))(f:(j.toNat:Int)≠0):Ev P n w0 e F L ⟨dst,.binOp .quo t x y t2,ty,pos,aX,gd⟩ (.int .u16 (i/j).toNat):=λa w d _=>by
 have h:IntKind.u16.wrap ((i.toNat:Int).tdiv (j.toNat:Int))=((i/j).toNat:Int):=by rw[show((i.toNat:Int).tdiv (j.toNat:Int))=((i/j).toNat:Int)from by rw[ko];exact(Int.ofNat_tdiv _ _).symm,M8,fO]
 refine cK ?_ (by simp[execOp,d.eval g,d.eval k,eqGuard,binOp,Op.intDiv,ck f,h]<;>exact λl=>absurd l O);simp only[execOp,d.eval g,d.eval k,eqGuard,binOp,Op.intDiv,ck f,h];simp
theorem Od{i j:BitVec 16}(g:ev e x=some (.int .u16 i.toNat))(k:ev e y=some (.int .u16 j.toNat))(f:(j.toNat:Int)≠0):Ev P n w0 e F L ⟨dst,.binOp .rem t x y t2,ty,pos,aX,gd⟩ (.int .u16 (i%j).toNat):=λa w d _=>by
 have h:((i.toNat:Int).tmod (j.toNat:Int))=((i%j).toNat:Int):=by rw[iJ];exact(Ba _ _).symm
 refine cK ?_ (by simp[execOp,d.eval g,d.eval k,eqGuard,binOp,Op.intDiv,ck f,h]<;>exact λl=>absurd l O);simp only[execOp,d.eval g,d.eval k,eqGuard,binOp,Op.intDiv,ck f,h];simp
theorem GV{k:IntKind}{i:Int}{d1:TypeDesc}(f:ev e x=some (.int k i))(a:∀w,(underlying s).run P w=.ok d1 w)(d:∀w,(underlying t).run P w=.ok (.int .u16) w):Ev P n w0 e F L ⟨dst,.convert s t x,ty,pos,aX,gd⟩ (.int .u16 (BitVec.ofInt 16 i).toNat):=by rw[<-M8];exact tP f a d
theorem NA{i j:BitVec 32}(a:ev e x=some (.int .u32 i.toNat))(d:ev e y=some (.int .u32 j.toNat)):Ev P n w0 e F L ⟨dst,.binOp .add t x y t2,ty,pos,aX,gd⟩ (.int .u32 (i+j).toNat):=by have h:=CB (P:=P) (n:=n) (w0:=w0) (F:=F) (L:=L) (dst:=dst) (ty:=ty) (pos:=pos) (aX:=aX) (gd:=gd) (t:=t) (t2:=t2) a d;rw[tO]at h;rwa[show BitVec.ofInt 32 ((i.toNat:Int)+(j.toNat:Int))=i+j from by rw[BitVec.ofInt_add,fO,fO]]at h
theorem N5{i j:BitVec 32}(a:ev e x=some (.int .u32 i.toNat))(d:ev e y=some (.int .u32 j.toNat)):Ev P n w0 e F L ⟨dst,.binOp .mul t x y t2,ty,pos,aX,gd⟩ (.int .u32 (i*j).toNat):=by have h:=G0 (P:=P) (n:=n) (w0:=w0) (F:=F) (L:=L) (dst:=dst) (ty:=ty) (pos:=pos) (aX:=aX) (gd:=gd) (t:=t) (t2:=t2) a d;rw[tO]at h;rwa[show BitVec.ofInt 32 ((i.toNat:Int)*(j.toNat:Int))=i*j from by rw[BitVec.ofInt_mul,fO,fO]]at h
theorem NB{i j:BitVec 32}(f:ev e x=some (.int .u32 i.toNat))(g:ev e y=some (.int .u32 j.toNat)):Ev P n w0 e F L ⟨dst,.binOp .and t x y t2,ty,pos,aX,gd⟩ (.int .u32 (i&&&j).toNat):=λa w d _=>by
 have h:∀r:BitVec 32,IntKind.u32.wrap (r.toNat:Int)=r.toNat:=λr=>by rw[tO,fO]
 refine cK ?_ (by simp[execOp,d.eval f,d.eval g,eqGuard,binOp,Op.intBits,IntKind.bits,fO]);simp only[execOp,d.eval f,d.eval g,eqGuard,binOp,Op.intBits,IntKind.bits,fO];simp only[h];rfl
theorem Ha{i j:BitVec 32}(f:ev e x=some (.int .u32 i.toNat))(g:ev e y=some (.int .u32 j.toNat)):Ev P n w0 e F L ⟨dst,.binOp .xor t x y t2,ty,pos,aX,gd⟩ (.int .u32 (i^^^j).toNat):=λa w d _=>by
 have h:∀r:BitVec 32,IntKind.u32.wrap (r.toNat:Int)=r.toNat:=λr=>by rw[tO,fO]
 refine cK ?_ (by simp[execOp,d.eval f,d.eval g,eqGuard,binOp,Op.intBits,IntKind.bits,fO]);simp only[execOp,d.eval f,d.eval g,eqGuard,binOp,Op.intBits,IntKind.bits,fO];simp only[h];rfl
theorem G6{i:BitVec 32}{k:IntKind}{m:Nat}(g:ev e x=some (.int .u32 i.toNat))(j:ev e y=some (.int k (m:Int))):Ev P n w0 e F L ⟨dst,.binOp .shr t x y t2,ty,pos,aX,gd⟩ (.int .u32 (i>>>m).toNat):=λa w d _=>by
 have f:¬(m:Int)<0:=by omega
 have h:=Gg i m;refine cK ?_ (by simp[execOp,d.eval g,d.eval j,eqGuard,binOp,Op.shift,IntKind.bits,ck f,jZ]<;>exact λl=>absurd l O);simp only[execOp,d.eval g,d.eval j,eqGuard,binOp,Op.shift,IntKind.bits,ck f,jZ];simp only[h];simp
theorem Ob{i j:BitVec 32}(g:ev e x=some (.int .u32 i.toNat))(k:ev e y=some (.int .u32 j.toNat))(f:(j.toNat:Int)≠0):Ev P n w0 e F L ⟨dst,.binOp .quo t x y t2,ty,pos,aX,gd⟩ (.int .u32 (i/j).toNat):=λa w d _=>by
 have h:IntKind.u32.wrap ((i.toNat:Int).tdiv (j.toNat:Int))=((i/j).toNat:Int):=by rw[show((i.toNat:Int).tdiv (j.toNat:Int))=((i/j).toNat:Int)from by rw[ko];exact(Int.ofNat_tdiv _ _).symm,tO,fO]
 refine cK ?_ (by simp[execOp,d.eval g,d.eval k,eqGuard,binOp,Op.intDiv,ck f,h]<;>exact λl=>absurd l O);simp only[execOp,d.eval g,d.eval k,eqGuard,binOp,Op.intDiv,ck f,h];simp
theorem Oe{i j:BitVec 32}(g:ev e x=some (.int .u32 i.toNat))(k:ev e y=some (.int .u32 j.toNat))(f:(j.toNat:Int)≠0):Ev P n w0 e F L ⟨dst,.binOp .rem t x y t2,ty,pos,aX,gd⟩ (.int .u32 (i%j).toNat):=λa w d _=>by
 have h:((i.toNat:Int).tmod (j.toNat:Int))=((i%j).toNat:Int):=by rw[iJ];exact(Ba _ _).symm
 refine cK ?_ (by simp[execOp,d.eval g,d.eval k,eqGuard,binOp,Op.intDiv,ck f,h]<;>exact λl=>absurd l O);simp only[execOp,d.eval g,d.eval k,eqGuard,binOp,Op.intDiv,ck f,h];simp
theorem CC{k:IntKind}{i:Int}{d1:TypeDesc}(f:ev e x=some (.int k i))(a:∀w,(underlying s).run P w=.ok d1 w)(d:∀w,(underlying t).run P w=.ok (.int .u32) w):Ev P n w0 e F L ⟨dst,.convert s t x,ty,pos,aX,gd⟩ (.int .u32 (BitVec.ofInt 32 i).toNat):=by rw[<-tO];exact tP f a d
theorem Ev.addU64{i j:BitVec 64}(a:ev e x=some (.int .u64 i.toNat))(d:ev e y=some (.int .u64 j.toNat)):Ev P n w0 e F L ⟨dst,.binOp .add t x y t2,ty,pos,aX,gd⟩ (.int .u64 (i+j).toNat):=by have h:=CB (P:=P) (n:=n) (w0:=w0) (F:=F) (L:=L) (dst:=dst) (ty:=ty) (pos:=pos) (aX:=aX) (gd:=gd) (t:=t) (t2:=t2) a d;rw[Cx]at h;rwa[show BitVec.ofInt 64 ((i.toNat:Int)+(j.toNat:Int))=i+j from by rw[BitVec.ofInt_add,fO,fO]]at h
theorem Ev.orU64{i j:BitVec 64}(f:ev e x=some (.int .u64 i.toNat))(g:ev e y=some (.int .u64 j.toNat)):Ev P n w0 e F L ⟨dst,.binOp .or t x y t2,ty,pos,aX,gd⟩ (.int .u64 (i|||j).toNat):=λa w d _=>by
 have h:∀r:BitVec 64,IntKind.u64.wrap (r.toNat:Int)=r.toNat:=λr=>by rw[Cx,fO]
 refine cK ?_ (by simp[execOp,d.eval f,d.eval g,eqGuard,binOp,Op.intBits,IntKind.bits,fO]);simp only[execOp,d.eval f,d.eval g,eqGuard,binOp,Op.intBits,IntKind.bits,fO];simp only[h];rfl
theorem zO{i:BitVec 64}{k:IntKind}{m:Nat}(g:ev e x=some (.int .u64 i.toNat))(j:ev e y=some (.int k (m:Int))):Ev P n w0 e F L ⟨dst,.binOp .shr t x y t2,ty,pos,aX,gd⟩ (.int .u64 (i>>>m).toNat):=λa w d _=>by
 have f:¬(m:Int)<0:=by omega
 have h:=Gg i m;refine cK ?_ (by simp[execOp,d.eval g,d.eval j,eqGuard,binOp,Op.shift,IntKind.bits,ck f,jZ]<;>exact λl=>absurd l O);simp only[execOp,d.eval g,d.eval j,eqGuard,binOp,Op.shift,IntKind.bits,ck f,jZ];simp only[h];simp
theorem Oc{i j:BitVec 64}(g:ev e x=some (.int .u64 i.toNat))(k:ev e y=some (.int .u64 j.toNat))(f:(j.toNat:Int)≠0):Ev P n w0 e F L ⟨dst,.binOp .quo t x y t2,ty,pos,aX,gd⟩ (.int .u64 (i/j).toNat):=λa w d _=>by
 have h:IntKind.u64.wrap ((i.toNat:Int).tdiv (j.toNat:Int))=((i/j).toNat:Int):=by rw[show((i.toNat:Int).tdiv (j.toNat:Int))=((i/j).toNat:Int)from by rw[ko];exact(Int.ofNat_tdiv _ _).symm,Cx,fO]
 refine cK ?_ (by simp[execOp,d.eval g,d.eval k,eqGuard,binOp,Op.intDiv,ck f,h]<;>exact λl=>absurd l O);simp only[execOp,d.eval g,d.eval k,eqGuard,binOp,Op.intDiv,ck f,h];simp
theorem Of{i j:BitVec 64}(g:ev e x=some (.int .u64 i.toNat))(k:ev e y=some (.int .u64 j.toNat))(f:(j.toNat:Int)≠0):Ev P n w0 e F L ⟨dst,.binOp .rem t x y t2,ty,pos,aX,gd⟩ (.int .u64 (i%j).toNat):=λa w d _=>by
 have h:((i.toNat:Int).tmod (j.toNat:Int))=((i%j).toNat:Int):=by rw[iJ];exact(Ba _ _).symm
 refine cK ?_ (by simp[execOp,d.eval g,d.eval k,eqGuard,binOp,Op.intDiv,ck f,h]<;>exact λl=>absurd l O);simp only[execOp,d.eval g,d.eval k,eqGuard,binOp,Op.intDiv,ck f,h];simp
theorem GW{k:IntKind}{i:Int}{d1:TypeDesc}(f:ev e x=some (.int k i))(a:∀w,(underlying s).run P w=.ok d1 w)(d:∀w,(underlying t).run P w=.ok (.int .u64) w):Ev P n w0 e F L ⟨dst,.convert s t x,ty,pos,aX,gd⟩ (.int .u64 (BitVec.ofInt 64 i).toNat):=by rw[<-Cx];exact tP f a d
theorem G5{i:Int}{k:IntKind}{m:Nat}(g:ev e x=some (.int .i64 i))(h:ev e y=some (.int k (m:Int))):Ev P n w0 e F L ⟨dst,.binOp .shl t x y t2,ty,pos,aX,gd⟩ (.int .i64 (aq (i*2^(min m 64)))):=λa w d _=>by
 have f:¬(m:Int)<0:=by omega
 refine cK ?_ (by simp[execOp,d.eval g,d.eval h,eqGuard,binOp,Op.shift,IntKind.bits,ck f,jZ]<;>exact λj=>absurd j O);simp only[execOp,d.eval g,d.eval h,eqGuard,binOp,Op.shift,IntKind.bits,ck f,jZ];simp[aq]
theorem CG{i:Int}{k:IntKind}{m:Nat}(g:ev e x=some (.int .i64 i))(h:ev e y=some (.int k (m:Int))):Ev P n w0 e F L ⟨dst,.binOp .shr t x y t2,ty,pos,aX,gd⟩ (.int .i64 (i.fdiv (2^(min m 64)))):=λa w d _=>by
 have f:¬(m:Int)<0:=by omega
 refine cK ?_ (by simp[execOp,d.eval g,d.eval h,eqGuard,binOp,Op.shift,IntKind.bits,ck f,jZ]<;>exact λj=>absurd j O);simp only[execOp,d.eval g,d.eval h,eqGuard,binOp,Op.shift,IntKind.bits,ck f,jZ];simp
theorem NG{k:IntKind}{i:Int}{d1:TypeDesc}(f:ev e x=some (.int k i))(a:∀w,(underlying s).run P w=.ok d1 w)(d:∀w,(underlying t).run P w=.ok (.int .i64) w):Ev P n w0 e F L ⟨dst,.convert s t x,ty,pos,aX,gd⟩ (.int .i64 (aq i)):=tP f a d
end
abbrev rh:=@NA
abbrev va:=@NC
abbrev pO:=@NI
abbrev te:=@N5
abbrev vc:=@Ob
abbrev vd:=@Oe
end Go.Proofs.YtklkkoelldkncaaGreatDoor
namespace Go.Proofs.YtklkkoelldkncaaGreatDoor
open Go.RowKit Go.Conc an
def Y.bytes(s:Y):List (BitVec 8):=s.map UInt8.toBitVec
def fx(l:List (BitVec 8)):Y:=l.map UInt8.ofBitVec
theorem Y.size(s:Y):(Y.b s).size=s.length:=by simp[Y.b,ByteArray.size]
theorem H8(s:Y)(i j:Nat):(Y.b s).extract i j=Y.b ((s.drop i).take (j-i)):=by apply ByteArray.ext;apply lc;simp[Y.b,ByteArray.data_extract,List.extract_eq_take_drop]
theorem H7(s t:Y):Y.b s++Y.b t=Y.b (s++t):=by apply ByteArray.ext;apply lc;simp[Y.b,ByteArray.data_append]
theorem QY(s:Y)(i:Nat):(Y.b s)[i]?=s[i]?:=by
 by_cases h:i<s.length
 .have a:i<(Y.b s).size:=by rw[Y.size];exact h
  rw[getElem?_pos (Y.b s) i a,je h];rfl
 .have a:¬i<(Y.b s).size:=by rw[Y.size];exact h
  rw[getElem?_neg (Y.b s) i a,nv O]
theorem Ay(s:Y):I (Y.bytes s)=s.map λc=>Value.int .u8 (c.toNat:Int):=by
 induction s with
 |nil=>rfl
 |cons c s a=>show I (c.toBitVec::Y.bytes s)=_;rw[kY,a];rfl
section
set_option linter.unusedSectionVars false
variable {P:Program}{C:Co P}{n:Fm}{w0:World}{ops:Array Oper}{Q:eC}{l:List Oper}{e:List (Nat×Value)}{F:bk}{L L':List Item}{d:Nat}{dst:Option Nat}{ty:TypeId}{pos:String}{aX:Array Edge}{gd:Option (Nat×Bool)}
theorem NW{x y:Operand}{t:TypeId}{s:Y}{i:Int}{kd:IntKind}{c:UInt8}(m:ev e x=some (Y.v s))(o:ev e y=some (.int kd i))(k:∀w,(underlying t).run P w=.ok .string w)(h:bf s i=some c):
 Ev P n w0 e F L ⟨dst,.index t x y,ty,pos,aX,gd⟩ (.int .u8 c.toBitVec.toNat):=λa w f q=>by
 obtain⟨g,p⟩:0<=i/\s[i.toNat]?=some c:=by
  unfold bf at h;split at h
  .exact⟨by assumption,h⟩
  .cases h
 have j:(Y.b s)[i.toNat]?=some c:=by rw[QY];exact p
 exact cK (by simp[execOp,f.eval m,f.eval o,Instr.index,asIntOf,k,Y.v,g,j]) (by simp[execOp,f.eval m,f.eval o,Instr.index,asIntOf,k,Y.v,g,j])
theorem DT{s m:Y}{i j:Int}(h:co s i j=some m):(0<=i/\i<=j/\j<=s.length)/\(Y.b s).extract i.toNat j.toNat=Y.b m:=by obtain⟨a,f⟩:=ky h;exact⟨a,by rw[H8,f]⟩
theorem G8{x y z:Operand}{t:TypeId}{s m:Y}{i j:Int}(B:ev e x=some (Y.v s))(D:ev e y=some (.int .i64 i))(H:ev e z=some (.int .i64 j))(A:∀w,(underlying t).run P w=.ok .string w)(h:co s i j=some m):
 Ev P n w0 e F L ⟨dst,.slice t x (some y) (some z) none,ty,pos,aX,gd⟩ (Y.v m):=λa w f S=>by
 obtain⟨⟨k,K,o⟩,p⟩:=DT h;have q:0<=j:=by omega
 have M:i<=((j.toNat:Nat):Int):=by omega
 refine cK ?_ (by simp[execOp,f.eval B,f.eval D,f.eval H,Instr.sliceAt,Instr.slice,Instr.sliceBounds,Instr.sliceBound,asIntOf,A,Y.v,Y.size,k,o,q,p];exact λg=>absurd g O);simp[execOp,f.eval B,f.eval D,f.eval H,Instr.sliceAt,Instr.slice,Instr.sliceBounds,Instr.sliceBound,asIntOf,A,Y.v,Y.size,k,o,q,p];intro g;exact absurd g O
theorem Oh{x z:Operand}{t:TypeId}{s m:Y}{j:Int}(p:ev e x=some (Y.v s))(q:ev e z=some (.int .i64 j))(o:∀w,(underlying t).run P w=.ok .string w)(h:co s 0 j=some m):
 Ev P n w0 e F L ⟨dst,.slice t x none (some z) none,ty,pos,aX,gd⟩ (Y.v m):=λa w f A=>by
 obtain⟨⟨y,i,k⟩,g⟩:=DT h;simp only[Int.toNat_zero]at g;exact cK (by simp[execOp,f.eval p,f.eval q,Instr.sliceAt,Instr.slice,Instr.sliceBounds,Instr.sliceBound,asIntOf,o,Y.v,Y.size,i,k,g]) (by simp[execOp,f.eval p,f.eval q,Instr.sliceAt,Instr.slice,Instr.sliceBounds,Instr.sliceBound,asIntOf,o,Y.v,Y.size,i,k,g])
theorem Og{x y:Operand}{t:TypeId}{s m:Y}{i:Int}(p:ev e x=some (Y.v s))(q:ev e y=some (.int .i64 i))(o:∀w,(underlying t).run P w=.ok .string w)(h:co s i (s.length:Int)=some m):
 Ev P n w0 e F L ⟨dst,.slice t x (some y) none none,ty,pos,aX,gd⟩ (Y.v m):=λa w f B=>by
 obtain⟨⟨j,k,A⟩,g⟩:=DT h;simp only[jZ]at g;exact cK (by simp[execOp,f.eval p,f.eval q,Instr.sliceAt,Instr.slice,Instr.sliceBounds,Instr.sliceBound,asIntOf,o,Y.v,Y.size,j,k,g]) (by simp[execOp,f.eval p,f.eval q,Instr.sliceAt,Instr.slice,Instr.sliceBounds,Instr.sliceBound,asIntOf,o,Y.v,Y.size,j,k,g])
theorem Nz{x y:Operand}{t t2:TypeId}{s m:Y}(i:ev e x=some (Y.v s))(j:ev e y=some (Y.v m))(h:s.length+m.length<=2^40):
 Ev P n w0 e F L ⟨dst,.binOp .add t x y t2,ty,pos,aX,gd⟩ (Y.v (s++m)):=λa w g k=>by
 have f:¬(9223372036854775807<((s.length:Int)+(m.length:Int))):=by omega
 exact cK (by simp[execOp,g.eval i,g.eval j,eqGuard,binOp,Op.stringOp,Y.v,Y.size,f,H7]) (by simp[execOp,g.eval i,g.eval j,eqGuard,binOp,Op.stringOp,Y.v,Y.size,f,H7])
theorem Ae(s:Y):(Y.b s).toList=s:=by simp[ByteArray.toList_eq,Y.b]
theorem NO{x y:Operand}{t t2:TypeId}{s m:Y}(g:ev e x=some (Y.v s))(h:ev e y=some (Y.v m)):
 Ev P n w0 e F L ⟨dst,.binOp .eql t x y t2,ty,pos,aX,gd⟩ (.bool (decide (s=m))):=λa w f i=>by
 refine cK ?_ (by simp[execOp,f.eval g,f.eval h,eqGuard,binOp,Op.stringOp,Y.v,Ae]);simp[execOp,f.eval g,f.eval h,eqGuard,binOp,Op.stringOp,Y.v,Ae];rw[eZ];simp
theorem G1{x y:Operand}{t t2:TypeId}{s m:Y}(g:ev e x=some (Y.v s))(h:ev e y=some (Y.v m)):
 Ev P n w0 e F L ⟨dst,.binOp .neq t x y t2,ty,pos,aX,gd⟩ (.bool (!decide (s=m))):=λa w f i=>by
 refine cK ?_ (by simp[execOp,f.eval g,f.eval h,eqGuard,binOp,Op.stringOp,Y.v,Ae]);simp[execOp,f.eval g,f.eval h,eqGuard,binOp,Op.stringOp,Y.v,Ae];rw[eZ];simp
theorem Wq(l:List (BitVec 8)):I l=(fx l).map λc=>Value.int .u8 (c.toNat:Int):=by
 have:Y.bytes (fx l)=l:=by unfold Y.bytes fx;rw[List.map_map,show(UInt8.toBitVec ∘ UInt8.ofBitVec)=id from X,List.map_id]
 rw[<-Ay,this]
theorem So{i:Nat×Nat}{w:World}{s:Sl}{t:TypeId}{xs:List Value}{N:Nat}(h:gX i (World.hp w) s t 1 xs)(j:∀b off,0<s.len->s.a=some ⟨b,off,none⟩->b∈cu L\/(F b).isSome=true):dE F L N ((Conv.bytesToString s.v).events P w #[]):=by
 have g:=qz (P:=P) (N:=N) (es:=#[]) h j lJ
 cases f:s.a with
 |none=>simp only[Sl.v,f,Conv.bytesToString];exact lJ
 |some a=>
  have e:Builtin.firstCells 1 s.len s.v=loadCells a s.len:=by simp[Builtin.firstCells,Sl.v,f]
  rw[e]at g;simp only[Sl.v,f,Conv.bytesToString];refine dE.bind g λcs=>nz (cT.forIn (λc b=>?_) _ _) λ_=>mI _;split
  .exact mI _
  .exact λ_ _ _=>rfl
theorem zL{x:Operand}{t u el:TypeId}{s:Sl}{ys:List (BitVec 8)}(T:ev e x=some s.v)(K:∀w,(underlying t).run P w=.ok (.slice el) w)(f:∀w,(underlying el).run P w=.ok (.int .u8) w)(M:∀w,(underlying u).run P w=.ok .string w)(h:Rd w0 F L s ys):
 Ev P n w0 e F L ⟨dst,.convert t u x,ty,pos,aX,gd⟩ (Y.v (fx ys)):=λa w D S=>by
 have A:=h;obtain⟨m,W,o⟩:=h w S;have y:gX W (World.hp w) s m 1 (I ys):=o;have hl:s.len=ys.length:=o.len ab;have p:(Conv.bytesToString s.v).run P w=.ok (Y.v (fx ys)) w:=by
  rcases o.2.2 with⟨g2,_⟩|⟨b,off,pre,post,hb,hh,ho,_⟩
  .have hy:ys=[]:=sR.1 O;subst hy;have B:Y.v (fx [])=.string ByteArray.empty:=X;rw[B]
   cases k:s.a with
   |none=>simp[Sl.v,k,Conv.bytesToString]
   |some ad=>have:=run_bytesToString (P:=P) w ad 0 s.cap [] (by simp[loadCells,loadCellsFrom]);simp[Sl.v,k,g2];simpa using this
  .have g:=run_loadCells_list (P:=P) (w:=w) ⟨b,off,none⟩ (((fx ys).map (λc=>(c.toNat:Int))).map (Value.int .u8)) (λj v q=>by
    rw[ia,wK hh];have V:((fx ys).map (λc=>(c.toNat:Int))).map (Value.int .u8)=I ys:=by rw[Wq];simp
    rw[V]at q;rw[pz O,ou (by have:=(ff.1 q).1;omega)]
    rw[show off+j-pre.length=j by omega];exact q)
   have i:(((fx ys).map (λc=>(c.toNat:Int))).map (Value.int .u8)).length=s.len:=by simp[fx,hl]
   rw[i]at g;have:=run_bytesToString (P:=P) w ⟨b,off,none⟩ s.len s.cap _ g;rw[foldl_push_byteCells]at this;simp only[Sl.v,hb];rw[this];simp[Y.v,Y.b]
 have hc:(convert t u s.v).run P w=(Conv.bytesToString s.v).run P w:=by simp[convert,K,M,f,Sl.v]
 refine⟨by simp[execOp,D.eval T,hc,p],?_⟩;have H:dE F L w.heap.size ((Conv.bytesToString s.v).events P w #[]):=So y (A.bH S);simp[execOp,D.eval T,convert,K,M];simp only[Sl.v]at H ⊢;rw[Sem.events_bind,f,Result.evThen_ok,events_underlying];exact H
theorem ZM{w:World}{m:Nat}(y:Y):(Builtin.firstCells m (Y.b y).size (.string (Y.b y))).run P w=.ok (I (Y.bytes y)).toArray w:=by
 have a:(Y.b y).extract 0 (Y.b y).size=Y.b y:=by rw[H8,Y.size];simp
 simp only[Builtin.firstCells,a,Sem.run_pure];congr 1;rw[Ay];apply lc;simp[Y.b]
theorem QW{w:World}{t u ty el:TypeId}{i:Nat}{inf:TypeInfo}{z:Value}{s:Sl}{xs:List Value}{y:Y}(hw:St w0 F L w)(hu:∀w,(underlying t).run P w=.ok (.slice el) w)(p:∀w,(underlying u).run P w=.ok .string w)(hi:∀w,(typeInfo el).run P w=.ok inf w)(m:inf.size=1)(hz:inf.zero=some z)(lD:z.cells.size=1)
 (H:L[i]?=some (.own s el 1 xs)) (mr:s.len+y.length<=2^40) (no:inf.bytes<=128):
 ∃s' w',(Builtin.append_ #[t,u] ty #[s.v,Y.v y]).run P w=.ok s'.v w'/\s'.len=s.len+y.length/\St w0 F (L.set i (.own s' el 1 (xs++I (Y.bytes y)))) w'/\gb F L w F (L.set i (.own s' el 1 (xs++I (Y.bytes y)))) w'/\dE F L w.heap.size ((Builtin.append_ #[t,u] ty #[s.v,Y.v y]).events P w #[]):=by
 have S:∀(w:World)(es:Array Event),(Builtin.firstCells 1 (Y.b y).size (.string (Y.b y))).events P w es=es:=λw es=>by simp[Builtin.firstCells]
 rw[Y.size]at S;have hs:gW (World.hp w) s el 1 xs:=hw.get H;have AQ:(I (Y.bytes y)).length=y.length:=by rw[Ay];simp
 have h1:(I (Y.bytes y)).all pS=true:=qy _;generalize Va:I (Y.bytes y)=ys at AQ h1;have q:∀w:World,(Builtin.firstCells 1 (Y.b y).size (.string (Y.b y))).run P w=.ok ys.toArray w:=λw=>by rw[<-Va];exact ZM y
 rw[Y.size]at q;have K:(s.len+y.length)*inf.bytes<=140737488355328:=iU (qQ mr no) ab;have hl:(xs++ys).length=(s.len+y.length)*1:=by rw[cr,hs.1,AQ];omega
 by_cases k:s.len+y.length<=s.cap
 .rcases hs.2.2 with⟨g2,g3⟩|⟨b,off,pre,post,A,hh,ho,qJ,kZ⟩
  .have e2:y.length=0:=by omega
   have ey:ys=[]:=sR.1 O;subst ey;have ET:L.set i (.own s el 1 (xs++[]))=L:=by rw[jH,kP H];exact(kQ H).symm
   refine⟨s,w,?_,by omega,?_,by rw[ET];exact mO _ _ _,?_⟩
   .have j:=q w;rw[e2]at j
    cases ha:s.a with
    |none=>simp[Builtin.append_,hu,p,sizeOf,hi,m,Builtin.lenOf,Sl.v,Y.v,Y.size,ha,g2,g3,e2,j]
    |some a=>simp[Builtin.append_,hu,p,sizeOf,hi,m,Builtin.lenOf,Sl.v,Y.v,Y.size,ha,g2,g3,e2,j,storeCells]
   .rw[jH];have:L.set i (.own s el 1 xs)=L:=by rw[kP H];exact(kQ H).symm
    rw[this];exact hw
   .have j:=q w;have B:=S w #[];rw[e2]at j B;refine lK ?_
    cases ha:s.a with
    |none=>simp[Builtin.append_,hu,p,sizeOf,hi,m,Builtin.lenOf,Sl.v,Y.v,Y.size,ha,g2,g3,e2,j,B]
    |some a=>simp[Builtin.append_,hu,p,sizeOf,hi,m,Builtin.lenOf,Sl.v,Y.v,Y.size,ha,g2,g3,e2,j,B,storeCells]
  .have xn:=hs.1;have Ux:y.length<=post.length:=by
    rw[cr]at kZ;omega
   have xl:bA (pre++(xs++post)) (off+s.len*1) ys (pre++((xs++ys)++post.drop ys.length)):=by refine⟨pre++xs,post.take ys.length,post.drop ys.length,by simp,by simp;omega,by simp;omega,by simp⟩
   have T:=run_storeCells_at (P:=P) b (off+s.len*1) el ys 0 (pre++(xs++post)).toArray w hh (by have:=xl.le;simp at this ⊢;omega) (by intro u ns;exact mD.1 h1 u ns);simp only[mA]at T;rw[xl.eq]at T;have D:b∈(Item.own s el 1 xs).bH:=by simp[Item.bH,Sl.bH,A]
   refine⟨⟨s.a,s.len+y.length,s.cap⟩,w.setRow b (pre++((xs++ys)++post.drop ys.length)).toArray,?_,X,?_,u7 H D X,?_⟩
   .have j:=q w;simp[Builtin.append_,hu,p,sizeOf,hi,m,Builtin.lenOf,Sl.v,Y.v,Y.size,A,k,j,ia];simp at T;simp[T]
   .refine hw.setRow H (by simp[Item.bH,Sl.bH,A]) (by simp[Item.bH,Sl.bH,A]) λg jE=>?_;refine⟨hl,by simp only;omega,.inr ⟨b,off,pre,post.drop ys.length,A,jE _ _ _ hh,ho,k,?_⟩⟩;simp only[cr,gM]at kZ ⊢;omega
   .have j:=q w;simp[Builtin.append_,hu,p,sizeOf,hi,m,Builtin.lenOf,Sl.v,Y.v,Y.size,A,k,j,S,ia];exact(wO (P:=P) ys 0 hh ks).lists (fI (eN H) D)
 .have W:¬(281474976710656<Builtin.nextslicecap (s.len+y.length) s.cap*inf.bytes):=by
   have:=growslice_fits (need:=s.len+y.length) (old:=s.cap) (bytes:=inf.bytes) O K;omega
  have ni:¬(9223372036854775807<((s.len:Int)+(y.length:Int))):=by omega
  have M:=tx (P:=P) (w:={w with drawn:=w.drawn+1}) hs.drew;have V:=q w.drew;have hg:s.len+y.length<=grownCap w (s.len+y.length) s.cap el:=by unfold grownCap Question.cut;exact pt _ _
  refine⟨⟨some ⟨w.heap.size,0,none⟩,s.len+y.length,grownCap w (s.len+y.length) s.cap el⟩,
   {w with drawn:=w.drawn+1,heap:=w.heap.push (.cells ((xs++ys)++(Builtin.zeroCells z.cells (grownCap w (s.len+y.length) s.cap el-(s.len+y.length))).toList).toArray el)},?_,X,?_,?_,?_⟩
  .simp[Sl.v]at M;simp[Builtin.append_,hu,p,sizeOf,zeroValue,hi,m,hz,Builtin.lenOf,Sl.v,Y.v,Y.size,k,ni,W,Question.forced,M,V,newRow,grownCap];generalize Builtin.zeroCells z.cells _=f;have sx:xs.toArray++(ys.toArray++f)=(xs++(ys++f.toList)).toArray:=by apply lc;simp
   rw[sx];rfl
  .have sC:=(hw.sublist (L':=L.eraseIdx i) (Bd L i)).drew
   refine(sC.new (i:=.own ⟨some ⟨w.heap.size,0,none⟩,s.len+y.length,grownCap w (s.len+y.length) s.cap el⟩ el 1 (xs++ys))
    (.cells ((xs++ys)++(Builtin.zeroCells z.cells (grownCap w (s.len+y.length) s.cap el-(s.len+y.length))).toList).toArray el) X λg jE=>?_).perm (set_perm H)
   refine⟨hl,by simp only;omega,.inr ⟨_,0,[],_,X,by simpa using jE,X,hg,?_⟩⟩;have xn:=hs.1;simp only[cr,xn,AQ,Builtin.zeroCells,lD];simp;omega
  .refine⟨X,X,X,by simp,λb A _=>by show(w.heap.push _)[b]?=_;rw[pC,ck O],λb A=>?_,λb o A=>.inr (.inl (by rw[A];rfl))⟩;obtain⟨x,hx,sG⟩:=pE.1 A;rcases kH hx with h|h
   .exact .inl (fI h sG)
   .subst h;simp[Item.bH,Sl.bH]at sG;subst sG;right;simp
  .simp[Sl.v]at M;have hA:=qz (P:=P) (w:={w with drawn:=w.drawn+1}) hs.drew (WB (F:=F) H) (wN (P:=P) (w:={w with drawn:=w.drawn+1}) (b:=grownCap w (s.len+y.length) s.cap el*inf.bytes) (lJ (F:=F) (L:=L) (n:=w.heap.size)));simp[Sl.v]at hA;simp[Builtin.append_,hu,p,sizeOf,zeroValue,hi,m,hz,Builtin.lenOf,Sl.v,Y.v,Y.size,k,ni,W,Question.forced,M,V,S,newRow,grownCap,B1]at hA ⊢;exact hA
theorem PU{x y:Operand}{t u el:TypeId}{i:Nat}{inf:TypeInfo}{z:Value}{s:Sl}{xs:List (BitVec 8)}{m:Y}{cs:List Value}(hg:gd=none)(f:dst=some d)(hn:d<n.n)(T:ev e x=some s.v)(V:ev e y=some (Y.v m))(hu:∀w,(underlying t).run P w=.ok (.slice el) w)(H:∀w,(underlying u).run P w=.ok .string w)
 (hi:∀w,(typeInfo el).run P w=.ok inf w) (D:inf.size=1) (hz:inf.zero=some z) (K:z.cells.size=1) (M:L[i]?=some (.own s el 1 cs)) (A:cs=I xs) (W:xs.length+(Y.bytes m).length<=2^40) (q:(decide (inf.bytes<=128))=true)
 (k:∀p:Sl,a9 P n w0 ops Q l ((d,p.v)::e) F (L.set i (.own p el 1 (I (xs++Y.bytes m))))):a9 P n w0 ops Q (⟨dst,.call ⟨.builtin .append,#[x,y],#[t,u]⟩,ty,pos,aX,gd⟩::l) e F L:=
 lh hg f hn λa w h S=>by
  subst f A;have TX:s.len=xs.length:=(S.get M:gW (World.hp w) s el 1 (I xs)).len ab;have xi:(Y.bytes m).length=m.length:=by simp[Y.bytes]
  obtain⟨p,w',hr,_,j,o,B⟩:=QW (P:=P) (ty:=ty) (y:=m) S hu H hi D hz K M O (by simpa using q);have g:(execOp a.eval ⟨some d,.call ⟨.builtin .append,#[x,y],#[t,u]⟩,ty,pos,aX,gd⟩).run P w=.ok (.value p.v) w':=by simp[execOp,resolve,invoke,builtin,h.eval T,h.eval V,hr]
  rw[<-iG]at j o;refine⟨_,w',F,_,g,?_,o,j,k p⟩;simp[execOp,resolve,invoke,builtin,h.eval T,h.eval V];exact B
theorem NF{x:Operand}{t:TypeId}{i:BitVec 32}(k:ev e x=some (.int .u32 i.toNat)):Ev P n w0 e F L ⟨dst,.unOp .xor t x,ty,pos,aX,gd⟩ (.int .u32 ((4294967295:BitVec 32)^^^i).toNat):=λa w j _=>by
 have h:∀r:BitVec 32,IntKind.u32.wrap (r.toNat:Int)=r.toNat:=λr=>by rw[tO,fO]
 have f:BitVec.ofInt 32 IntKind.u32.max=(4294967295:BitVec 32):=by decide
 have g:IntKind.u32.signed=false:=X;refine cK ?_ (by simp[execOp,j.eval k,Op.unary,Op.intBits,IntKind.bits,fO,g,sO,ol,f]);simp only[execOp,j.eval k,Op.unary,Op.intBits,IntKind.bits,fO,g,sO,ol,f];simp only[h];rfl
theorem G2{x y:Operand}{t t2:TypeId}{i j:Int}(g:ev e x=some (.int .i64 i))(h:ev e y=some (.int .i64 j)):Ev P n w0 e F L ⟨dst,.binOp .or t x y t2,ty,pos,aX,gd⟩ (.int .i64 (aq ((BitVec.ofInt 64 i|||BitVec.ofInt 64 j).toNat:Int))):=λa w f _=>by refine cK ?_ (by simp[execOp,f.eval g,f.eval h,eqGuard,binOp,Op.intBits,IntKind.bits]);simp only[execOp,f.eval g,f.eval h,eqGuard,binOp,Op.intBits,IntKind.bits];rfl
end
abbrev rg:=@Nz
abbrev vb:=@NO
abbrev fJ:=@NW
abbrev pR:=@Og
abbrev xW:=@Oh
def Gb(s:Y)(c:BitVec 8):Int:=Lib.indexByte s (UInt8.ofBitVec c)
def tz(s:Y)(c:BitVec 8):Int:=((s.count (UInt8.ofBitVec c):Nat):Int)
theorem MG(c:BitVec 8):(c.toNat:Int).toNat.toUInt8=UInt8.ofBitVec c:=by rw[jZ];apply UInt8.toNat_inj.1;have:=c.isLt;simp
section
variable {P:Program}{C:Co P}{n:Fm}{w0:World}{ops:Array Oper}{Q:eC}{K:Act->Prop}{l:List Oper}{e:List (Nat×Value)}{F F0:bk}{L L':List Item}{v:Value}{dst:Option Nat}{d:Nat}{ty:TypeId}{pos:String}{aX:Array Edge}{gd:Option (Nat×Bool)}
theorem GX{x y:Operand}{u o:Value}{f:FuncId}{p:Array TypeId}{fn:Func}{E:Array Value->Sem Value}(H:ev e x=some u)(M:ev e y=some o)(A:P.funcs[f]?=some fn)(g:(fn.name== "runtime.NumGoroutine")=false)(s:fn.body.isNone=true)(m:Extern.findNext fn=none)(t:Extern.find fn=some E)
 (D:∀w,(E #[u,o]).run P w=.ok v w) (B:cT (E #[u,o])):Ev P n w0 e F L ⟨dst,.call ⟨.value (.func f),#[x,y],p⟩,ty,pos,aX,gd⟩ v:=λa w h S=>by
 have k:=run_callFunc_extern (P:=P) A g s m t #[u,o] w;rw[D w]at k;have q:=Jf (P:=P) A g s m t #[u,o] w #[];rw[B P w]at q;have i:=h.eval H;have j:=h.eval M;constructor
 .simp[execOp,resolve,Deferred.ofValue,Act.eval,invoke,i,j];simp[Act.eval]at i j
  first|exact k|(simp[i,j];exact k)|(rw[k];rfl)|(simp[i,j,k];done)
 .simp[execOp,resolve,Deferred.ofValue,Act.eval,invoke,i,j];simp[Act.eval]at i j
  first|(rw[q];exact BD)|(simp only[i,j];rw[q];exact BD)
theorem Wf(s:ByteArray)(c:Int):cT (Extern.BytealgIndexByte.indexByte #[.string s,.int .u8 c]):=by
 change cT (do
  let b<-Extern.Bytes.bytesOf (.string s);let a<-Extern.Bytes.asByte (.int .u8 c)
  match(List.range b.size).find? λi=>(b[i]!)==a with
  |some i=>pure (goInt i)
  |none=>pure (goInt (-1)):Sem Value)
 refine nz (mI _) λb=>nz (mI _) λa=>?_;split<;>exact mI _
theorem We(s:ByteArray)(c:Int):cT (Extern.BytealgCount.count #[.string s,.int .u8 c]):=by
 change cT (do
  let b<-Extern.Bytes.bytesOf (.string s);let a<-Extern.Bytes.asByte (.int .u8 c)
  pure (goInt (b.foldl (λn x=>if x==a then n+1 else n) (0:Nat))):Sem Value)
 exact nz (mI _) λb=>nz (mI _) λa=>mI _
theorem NR{x y:Operand}{s:Y}{c:BitVec 8}{f:FuncId}{g:Array TypeId}{fn:Func}(m:ev e x=some (Y.v s))(o:ev e y=some (.int .u8 c.toNat))(k:P.funcs[f]?=some fn)(a:(fn.name== "runtime.NumGoroutine")=false)(i:fn.body.isNone=true)(h:Extern.findNext fn=none)(j:Extern.find fn=some Extern.BytealgIndexByte.indexByte):
 Ev P n w0 e F L ⟨dst,.call ⟨.value (.func f),#[x,y],g⟩,ty,pos,aX,gd⟩ (.int .i64 (Gb s c)):=
 GX m o k a i h j (λw=>by
  have:=Lib.run_indexByteString (P:=P) (Y.b s) (c.toNat:Int) w;rw[MG]at this
  exact this) (Wf _ _)
theorem NE{x y:Operand}{s:Y}{c:BitVec 8}{f:FuncId}{g:Array TypeId}{fn:Func}(m:ev e x=some (Y.v s))(o:ev e y=some (.int .u8 c.toNat))(k:P.funcs[f]?=some fn)(a:(fn.name== "runtime.NumGoroutine")=false)(i:fn.body.isNone=true)(h:Extern.findNext fn=none)(j:Extern.find fn=some Extern.BytealgCount.count):
 Ev P n w0 e F L ⟨dst,.call ⟨.value (.func f),#[x,y],g⟩,ty,pos,aX,gd⟩ (.int .i64 (tz s c)):=
 GX m o k a i h j (λw=>by
  have:=Lib.run_countString (P:=P) (Y.b s) (c.toNat:Int) w;rw[MG]at this
  exact this) (We _ _)
theorem GY{p:IntKind}{x y:Operand}{t el:TypeId}{b off off' len s:Nat}{i:Int}(k:ev e x=some (.pointer (some ⟨b,off,none⟩)))(m:ev e y=some (.int p i))(j:∀w,(underlying t).run P w=.ok (.array len el) w)
 (h:∀w,(sizeOf el).run P w=.ok s w) (g:0<=i) (hi:i<len) (o:off+i.toNat*s=off'):Ev P n w0 e F L ⟨dst,.indexAddr t x y,ty,pos,aX,gd⟩ (.pointer (some ⟨b,off',none⟩)):=λa w f _=>by
 subst o;exact cK (by simp[execOp,f.eval k,f.eval m,Instr.indexAt,asIntOf,j,Instr.sureAddr,h,g,hi,Addr.add]) (by simp[execOp,f.eval k,f.eval m,Instr.indexAt,asIntOf,j,Instr.sureAddr,h,g,hi,Addr.add])
theorem N6{x:Operand}{t t2:TypeId}{k:Array (String×TypeId)}(j:ev e x=some .nilIface)(i:∀w,(underlying t).run P w=.ok (.interface k) w):Ev P n w0 e F L ⟨dst,.binOp .neq t x (.const .nilIface) t2,ty,pos,aX,gd⟩ (.bool false):=λa w h m=>by
 have f:Op.equal t .nilIface .nilIface=Op.equalIn (9999+1) t .nilIface .nilIface:=X;have g:a.eval (.const .nilIface)=.nilIface:=X;refine cK ?_ ?_<;>
 .simp[execOp,h.eval j,g,eqGuard,binOp,f];unfold Op.equalIn;simp[i]
theorem NN{x:Operand}{t t2:TypeId}{k:Array (String×TypeId)}(j:ev e x=some .nilIface)(i:∀w,(underlying t).run P w=.ok (.interface k) w):Ev P n w0 e F L ⟨dst,.binOp .eql t x (.const .nilIface) t2,ty,pos,aX,gd⟩ (.bool true):=λa w h m=>by
 have f:Op.equal t .nilIface .nilIface=Op.equalIn (9999+1) t .nilIface .nilIface:=X;have g:a.eval (.const .nilIface)=.nilIface:=X;refine cK ?_ ?_<;>
 .simp[execOp,h.eval j,g,eqGuard,binOp,f];unfold Op.equalIn;simp[i]
theorem Wi(t:TypeId)(s:ByteArray):cT (Conv.stringToBytes t s):=by
 unfold Conv.stringToBytes;refine nz (λP w es=>events_choose P w es _) λcap=>nz (s:=newRow t _) (λP w es=>by simp[newRow]) λa=>nz ?_ λ_=>mI _;unfold markStringish;refine nz (λP w es=>events_shape P w es _) λx=>?_;split
 .exact λP w es=>events_freeze P w es _ _
 .exact mI _
theorem Wd{t u el:TypeId}(f:P.underlying t=some .string)(hd:P.underlying u=some (.slice el))(a:P.underlying el=some (.int .u8))(s:ByteArray)(w:World)(es:Array Event):(convert t u (.string s)).events P w es=es:=by simp[convert,run_underlying f,run_underlying hd,run_underlying a];exact Wi _ _ P w es
theorem a9.bytesOf{x:Operand}{t u el:TypeId}{s:Y}(hg:gd=none)(j:dst=some d)(hn:d<n.n)(hx:ev e x=some (Y.v s))(hs:P.underlying t=some .string)(hd:P.underlying u=some (.slice el))(he:P.underlying el=some (.int .u8))(hl:s.length<=2^40)
 (kk:∀(s':Sl)(k:bk),cS F k->Rd w0 k [] s' (Y.bytes s)->a9 P n w0 ops Q l ((d,s'.v)::e) k L):a9 P n w0 ops Q (⟨dst,.convert t u x,ty,pos,aX,gd⟩::l) e F L:=
 lh hg j hn λa w h hw=>by
  subst j;have M:=run_bytes_of_string (P:=P) w t u el (Y.b s) hs hd he;obtain⟨c,f⟩:∃c,c=grownCap w (Y.b s).size 0 el:=⟨_,X⟩
  have V:(Y.b s).size<=c:=by rw[f];unfold grownCap Question.cut;exact pt _ _
  rw[<-f]at M;have H:(Y.b s).size=s.length:=Y.size s;have B:bytesRow (Y.b s) c=([]++(I (Y.bytes s)++List.replicate (c-s.length) (Value.int .u8 0))).toArray:=by apply lc;rw[Ay];unfold bytesRow;simp[Y.b,H,ByteArray.size]
  rw[B]at M;generalize(([]++(I (Y.bytes s)++List.replicate (c-s.length) (Value.int .u8 0))).toArray).size=m at M;have D:(execOp a.eval ⟨some d,.convert t u x,ty,pos,aX,gd⟩).run P w=.ok (.value (.slice (some ⟨w.heap.size,0,none⟩) (Y.b s).size c)) {w with drawn:=w.drawn+1,heap:=w.heap.push (.cells ([]++(I (Y.bytes s)++List.replicate (c-s.length) (Value.int .u8 0))).toArray el (m,m+1))}:=by have y:=M;simp only[World.alloc,World.drew]at y;have hv:Y.v s=.string (Y.b s):=X;have q:=h.eval hx;rw[hv]at q;simp[execOp,q];rw[y];simp
  have A:=hw.drew.new (.cells ([]++(I (Y.bytes s)++List.replicate (c-s.length) (Value.int .u8 0))).toArray el (m,m+1)) (i:=.obj w.heap.size (.cells ([]++(I (Y.bytes s)++List.replicate (c-s.length) (Value.int .u8 0))).toArray el (m,m+1))) X (by intro g T;exact T);obtain⟨k,hF,W,hh,S⟩:=St.freeze (i:=0) A X;refine⟨_,_,k,L,D,?_,⟨X,X,X,by simp,λb p _=>by show(w.heap.push _)[b]?=_;rw[pC,ck O],λb p=>.inl p,λb o p=>?_⟩,W,kk ⟨some ⟨w.heap.size,0,none⟩,(Y.b s).size,c⟩ k hF (λw' EU=>?_)⟩
  .refine lK ?_;have q:=h.eval hx;rw[show Y.v s=.string (Y.b s)from X]at q;simp[execOp,q];exact Wd hs hd he _ w #[]
  .rcases S b o p with m|m
   .rw[eQ]at m;rcases e9.1 m with m|m
    .simp[Item.bH]at m;subst m;right;right;simp
    .exact .inl m
   .exact .inr (.inl m)
  have p:=hh w' EU;refine⟨el,_,?_,?_,.inr ⟨w.heap.size,0,[],List.replicate (c-s.length) (Value.int .u8 0),X,p,X,V,?_⟩⟩
  .rw[d7];simp[Y.bytes,H]
  .simp only;omega
  .rw[cr,d7,ov];have:sz (BitVec 8)=1:=X;simp only[this,Y.bytes,kF];omega
end
end Go.Proofs.YtklkkoelldkncaaGreatDoor
namespace Go.Proofs.YtklkkoelldkncaaGreatDoor
open Go.RowKit an
theorem aE{p:Prop}(h:p:=by kernel_rfl):p:=h
theorem rl{α:Type}{l:List α}:l.Sublist l:=.refl l
theorem bn{α:Type}{l:List α}:[].Sublist l:=List.nil_sublist l
theorem bs{α a:Type}{o:Option α}{f:α->Option a}{r:a}(h:o.bind f=some r):∃x,o=some x/\f x=some r:=bind_some h
theorem si{α:Type}{x y:α}(h:some x=some y):x=y:=dF h
theorem sj{α:Type}{x y:α}(h:some x=some y):y=x:=(dF h).symm
theorem bz{α i:Type}{o:Option α}{f:α->Option i}{r:i}{g:Prop}(h:o.bind f=some r)(k:∀x,o=some x->f x=some r->g):g:=let⟨x,a,b⟩:=bind_some h;k x a b
theorem lz{α g:Type}{x:α}{f:α->Option g}{r:g}{a:Prop}(h:Let x f=some r)(k:∀y,x=y->f y=some r->a):a:=k x X h
theorem iz{α:Type}{b:Bool}{x y:Option α}{r:α}{a:Prop}(h:(bif b then x else y)=some r)(k:b=true->x=some r->a)(l:b=false->y=some r->a):a:=(ic h).elim (λq=>k q.1 q.2) λq=>l q.1 q.2
theorem iy{α:Type}{b:Bool}{x y:Option α}{r:α}{a:Prop}(h:(bif b then x else y)=some r)(k:b=false->y=some r->a)(l:b=true->x=some r->a):a:=iz h l k
theorem bR{P:Program}{C:Co P}{w0:World}{f:FuncId}{args:List Value}{F:bk}{L:List Item}{post:bk->List Item->Value->Prop}{fn:Func}{c:Code}(n:Nat)(g:P.funcs[f]?=some fn)(a:(fn.body,fn.ntmps,decide (args.length<=n))=(some c,n,true))(h:Cd P ⟨n,[]⟩ w0 (bodyPost P fn (lQ w0 F post)) c (sg 0 args) F L):Ok P w0 f args F L post:=by simp only[Prod.mk.injEq,gL]at a;exact Ok.enter g a.1 a.2.1 X a.2.2 h
theorem e0{p:Prop}(h:p:=by repeat' first|exact X|exact bo|apply And.intro):p:=h
theorem cL{n:Nat}:n<n+1:=A3 n
theorem el{α:Type}[an α]{x:α}:(enc x).length=sz α:=an.len x
theorem bZ{α:Type}[an α]{x y:α}:bA (enc x) 0 (enc y) (enc y):=cm ((an.len _).trans (an.len _).symm)
theorem ft{F a K:bk}(h:cS F a)(k:cS a K):cS F K:=cS.trans h k
section
variable {P:Program}{C:Co P}{n:Fm}{w0:World}{ops:Array Oper}{Q:eC}{K:Act->Prop}{l:List Oper}{e:List (Nat×Value)}{F:bk}{L:List Item}{v:Value}{d:Nat}{ty:TypeId}{pos:String}{aX:Array Edge}{gd:Option (Nat×Bool)}{dst:Option Nat}{post:bk->List Item->Value->Prop}
def B4(ops:Array Oper)(e:List (Nat×Value))(n d j:Nat):Option Value:=if d<n then(ops[j]?).bind λo=>o.dst.bind λt=>look e t else none
theorem Mc{b:Bool}{j:Nat}(h:B4 ops e n.n d j=some (.bool b)):d<n.n/\∃t,(ops[j]?).bind (·.dst)=some t/\look e t=some (.bool b):=by
 unfold B4 at h;split at h
 .rename_i a;obtain⟨o,f,h⟩:=sN.1 h;obtain⟨t,g,h⟩:=sN.1 h;exact⟨a,t,by rw[f];exact g,h⟩
 .cases h
theorem aH{i:Op}{j:Nat}{a b:Bool}(h:B4 ops e n.n d j=some (.bool b))(m:b=!a)(k:a9 P n w0 ops Q l ((d,undef)::e) F L):a9 P n w0 ops Q (⟨some d,i,ty,pos,aX,some (j,a)⟩::l) e F L:=by obtain⟨o,t,f,g⟩:=Mc h;exact a9.skip X f g m X o k
theorem cF{i:Op}{j:Nat}{a b:Bool}(h:B4 ops e n.n d j=some (.bool b))(m:b=!a)(k:Qt P n w0 ops K l ((d,undef)::e) F L):Qt P n w0 ops K (⟨some d,i,ty,pos,aX,some (j,a)⟩::l) e F L:=by obtain⟨o,t,f,g⟩:=Mc h;exact Qt.skip X f g m X o k
theorem NQ(off':Nat){x:Operand}{t:TypeId}{k b off:Nat}{a:Array Field}{f:Field}{s:Nat}(o:ev e x=some (.pointer (some ⟨b,off,none⟩)))(m:∀w,(underlying t).run P w=.ok (.struct a) w)
 (h:a[k]?=some f) (j:∀w,(sizeOf f.type).run P w=.ok s w) (g:(s==0)=false) (i:off+f.offset=off'):Ev P n w0 e F L ⟨dst,.fieldAddr t x k,ty,pos,aX,gd⟩ (.pointer (some ⟨b,off',none⟩)):=Ev.fieldAddr o m h j g i
theorem lf(i:Nat){a:Item}(f:L[i]?=some a)(h:a9 P n w0 ops Q l e F (a::L.eraseIdx i)):a9 P n w0 ops Q l e F L:=P5 f X h
theorem af(i:Nat){x:Exit}{a:Item}(f:L[i]?=some a)(h:At n w0 Q x e F (a::L.eraseIdx i)):At n w0 Q x e F L:=Nd f X h
theorem cl{f:FuncId}{xs:List Operand}{vs:List Value}{h:Array TypeId}(j:decide (d<n.n)=true)(m:evs e xs vs)(a:∀(args:Array Value)(w:World),(callFunc f args).run P w=.ok (.enter f args) w)(i:Ok P w0 f vs F L post)
 (k:∀g L' v,cS F g->post g L' v->a9 P n w0 ops Q l ((d,v)::e) g L'):a9 P n w0 ops Q (⟨some d,.call ⟨.value (.func f),xs.toArray,h⟩,ty,pos,aX,none⟩::l) e F L:=a9.call X X (om j) m a i k
theorem bW{f:FuncId}{xs:List Operand}{vs:List Value}{g:Array TypeId}(i:decide (d<n.n)=true)(j:evs e xs vs)(a:∀(args:Array Value)(w:World),(callFunc f args).run P w=.ok (.enter f args) w)(h:Ok P w0 f vs F L (Is v L))
 (k:a9 P n w0 ops Q l ((d,v)::e) F L):a9 P n w0 ops Q (⟨some d,.call ⟨.value (.func f),xs.toArray,g⟩,ty,pos,aX,none⟩::l) e F L:=PX X X (om i) j a h k
theorem bJ(i:Nat){x y:Operand}{t:TypeId}{b off s:Nat}{cs cs' vs:List Value}{t':TypeId}{L':List Item}(o:ev e x=some (.pointer (some ⟨b,off,none⟩)))(p:ev e y=some v)(g:L[i]?=some (.blk b cs t'))
 (j:∀w,(sizeOf t).run P w=.ok s w) (m:v.cells.toList=vs) (h:vs.length=s) (f:vs.all pS=true) (hp:bA cs off vs cs') (a:L.set i (.blk b cs' t')=L')
 (k:a9 P n w0 ops Q l e F L'):a9 P n w0 ops Q (⟨none,.store t x y,ty,pos,aX,none⟩::l) e F L:=a9.store X X o p g j m h f hp a k
end
abbrev da(b:Nat)(m:List (Int×Int)):Item:=iK b (λx:Int=>(iv x:Value)) (λx:Int=>(iv x:Value)) m
abbrev az:=@NQ
end Go.Proofs.YtklkkoelldkncaaGreatDoor
namespace Go.Proofs.YtklkkoelldkncaaGreatDoor
open an
theorem aa8{α:Type}{m:Nat}(v:Vector α m)(i:Nat):dI v (i:Int)=v[i]?:=by simp[dI]
theorem cY{α:Type}(l:List α)(i:Nat):bf l (i:Int)=l[i]?:=by simp[bf]
theorem Cp{α:Type}{m:Nat}(v:Vector α m){i:Nat}(h:i<m):dI v (i:Int)=some v[i]:=by rw[aa8];simp[h]
theorem MO{α:Type}{m:Nat}(v:Vector α m){i:Int}(a:0<=i)(h:i<m):∃x,dI v i=some x:=by obtain⟨k,rfl⟩:=E9 a;exact⟨v[k]'O,Cp v O⟩
theorem or_some(c x:Bool):(bif c then some true else some x)=some (c||x):=by cases c<;>rfl
theorem ls(c x:Bool):(bif c then some x else some false)=some (c&&x):=by cases c<;>rfl
theorem DS{α:Type}(c:Bool)(x y:α):(bif c then some x else some y)=some (bif c then x else y):=by cases c<;>rfl
theorem LT{a:Type}{body:Nat->Unit->Option (d6 Unit a)}:∀(k i:Nat),(∀j,i<=j->j<i+k->body j ()=some (.go ()))->dT body k i ()=some (.inl ())
 |0,_,_=>rfl
 |k+1,i,h=>by unfold dT;rw[h i O O];exact LT k (i+1) λj d e=>h j O O
theorem LS{σ:Type}{f g:Nat->σ->Option σ}(d:Nat->σ->Prop):∀(k i:Nat)(s:σ),d i s->(∀j s,i<=j->j<i+k->d j s->f j s=g j s/\∃l,g j s=some l/\d (j+1) l)->bE f k i s=bE g k i s/\∃l,bE g k i s=some l/\d (i+k) l
 |0,i,s,h,_=>⟨X,s,X,h⟩
 |k+1,i,s,h,n=>by obtain⟨o,x,m,p⟩:=n i s O O h;obtain⟨e,y,q,t⟩:=LS d k (i+1) x p λj s a b=>n j s O O;refine⟨?_,y,by unfold bE;rw[m];exact q,by rw[show i+(k+1)=i+1+k by omega];exact t⟩;unfold bE;rw[o,m];exact e
theorem kX{σ a:Type}{s:σ}{f:σ->Option a}:andThen (some (.inl s)) f=f s:=X
theorem eu{α:Type}{l m:List α}(h:l.length+m.length<=2^40):room l m=some ():=by simp[room,h]
theorem zb{n:Int}(h:n<=2^63-1):lj n=some n.toNat:=by unfold lj;rw[ce h]
def cV{α:Type}(x:Option α)(Q:α->Prop):Prop:=∃r,x=some r/\Q r
namespace cV
variable {α β σ τ:Type}
theorem nN{a:α}{Q:α->Prop}:cV (some a) Q↔Q a:=⟨λ⟨_,h,q⟩=>by cases h;exact q,λh=>⟨a,X,h⟩⟩
theorem Wn{Q:α->Prop}:cV none Q↔False:=⟨λ⟨_,h,_⟩=>(by cases h),False.elim⟩
theorem It{x:Option α}{f:α->Option β}{Q:β->Prop}:cV (x.bind f) Q↔cV x λa=>cV (f a) Q:=by
 cases x with
 |none=>exact⟨λ⟨_,h,_⟩=>(by cases h),λ⟨_,h,_⟩=>(by cases h)⟩
 |some a=>rw[gK,nN]
theorem EY{c:Bool}{x y:Option α}{Q:α->Prop}:cV (bif c then x else y) Q↔(c=true->cV x Q)/\(c=false->cV y Q):=by cases c<;>simp
theorem VT{x:β}{f:β->Option α}{Q:α->Prop}:cV (Let x f) Q↔cV (f x) Q:=Iff.rfl
def Du(A:σ->Prop)(B:τ->Prop):σ ⊕ τ->Prop
 |.inl s=>A s
 |.inr t=>B t
theorem Vj{A:σ->Prop}{B:τ->Prop}{s:σ}:Du A B (.inl s)↔A s:=Iff.rfl
theorem DJ{x:Option (σ ⊕ τ)}{f:σ->Option τ}{Q:τ->Prop}:cV (andThen x f) Q↔cV x (Du (λs=>cV (f s) Q) Q):=by unfold andThen;rw[It];constructor<;>rintro⟨o,h,q⟩<;>refine⟨o,h,?_⟩<;>cases o<;>simp_all [nN,Du]
theorem mono{x:Option α}{Q d:α->Prop}(h:cV x Q)(i:∀a,Q a->d a):cV x d:=h.imp λ_⟨e,q⟩=>⟨e,i _ q⟩
theorem of_eq{x:Option α}{a:α}{Q:α->Prop}(h:x=some a)(q:Q a):cV x Q:=⟨a,h,q⟩
theorem eq{x:Option α}{a:α}(h:cV x (·=a)):x=some a:=by obtain⟨_,d,rfl⟩:=h;exact d
theorem RY{l:List α}{i j:Int}{Q:List α->Prop}:cV (co l i j) Q↔(0<=i/\i<=j/\j<=l.length)/\Q ((l.drop i.toNat).take (j.toNat-i.toNat)):=by
 unfold co;split
 .rename_i h;rw[nN];exact⟨λq=>⟨h,q⟩,λq=>q.2⟩
 .rename_i h;rw[Wn];exact⟨False.elim,λq=>h q.1⟩
theorem bE{body:Nat->σ->Option σ}{Q:σ->Prop}(d:Nat->σ->Prop):∀{k i:Nat}{s:σ},d i s->(∀j s,i<=j->j<i+k->d j s->cV (body j s) (d (j+1)))->(∀s,d (i+k) s->Q s)->cV (YtklkkoelldkncaaGreatDoor.bE body k i s) Q
 |0,i,s,h,_,e=>⟨s,X,e s h⟩
 |k+1,i,s,h,o,e=>by obtain⟨x,p,q⟩:=o i s O O h;unfold YtklkkoelldkncaaGreatDoor.bE;rw[p];exact bE d q (λj s a b=>o j s O O) (λs t=>e s (by rwa[show i+(k+1)=i+1+k by omega]))
def wi(a B:σ->Prop)(d:τ->Prop):d6 σ τ->Prop
 |.go s=>a s
 |.fZ s=>B s
 |.ret t=>d t
theorem SB{a B:σ->Prop}{d:τ->Prop}{s:σ}:wi a B d (.go s)↔a s:=Iff.rfl
theorem RG{a B:σ->Prop}{d:τ->Prop}{s:σ}:wi a B d (.fZ s)↔B s:=Iff.rfl
theorem dT{body:Nat->σ->Option (d6 σ τ)}{Q:σ ⊕ τ->Prop}(d:Nat->σ->Prop):∀{k i:Nat}{s:σ},d i s->
 (∀j s,i<=j->j<i+k->d j s->cV (body j s) (wi (d (j+1)) (λs=>Q (.inl s)) (λt=>Q (.inr t))))->(∀s,d (i+k) s->Q (.inl s))->cV (YtklkkoelldkncaaGreatDoor.dT body k i s) Q
 |0,i,s,h,_,o=>⟨_,X,o s h⟩
 |k+1,i,s,h,p,o=>by
  obtain⟨c,q,e⟩:=p i s O O h;unfold YtklkkoelldkncaaGreatDoor.dT;rw[q]
  cases c with
  |go x=>exact dT d e (λj s a b=>p j s O O) (λs y=>o s (by rwa[show i+(k+1)=i+1+k by omega]))
  |fZ x=>exact⟨_,X,e⟩
  |ret t=>exact⟨_,X,e⟩
theorem df{body:σ->Option (d6 σ τ)}{Q:σ ⊕ τ->Prop}(a:σ->Prop)(e:σ->Nat):∀{fu:Nat}{s:σ},a s->e s<fu->
 (∀s,a s->cV (body s) (wi (λj=>a j/\e j<e s) (λs=>Q (.inl s)) (λt=>Q (.inr t))))->cV (YtklkkoelldkncaaGreatDoor.df body fu s) Q
 |0,s,_,o,_=>by omega
 |fu+1,s,h,o,i=>by
  obtain⟨c,k,d⟩:=i s h;unfold YtklkkoelldkncaaGreatDoor.df;rw[k]
  cases c with
  |go p=>exact df a e d.1 (by have:=d.2;omega) i
  |fZ p=>exact⟨_,X,d⟩
  |ret t=>exact⟨_,X,d⟩
end cV
def ue{α:Type}(f:Nat->α)(i:Nat)(x:α):Nat->α:=λj=>if j=i then x else f j
theorem Ed{α:Type}{f:Nat->α}{i:Nat}{x:α}:ue f i x i=x:=by simp[ue]
theorem Ec{α:Type}{f:Nat->α}{i j:Nat}{x:α}(h:j≠i):ue f i x j=f j:=by simp[ue,h]
def kb{α:Type}{n:Nat}(v:Vector α n)(f:Nat->α):Prop:=∀(i:Nat)(h:i<n),v[i]=f i
namespace kb
variable {α:Type}{n:Nat}{v w:Vector α n}{f g:Nat->α}
theorem rep{x:α}:kb (Vector.replicate n x) λ_=>x:=λi h=>by simp
theorem set(h:kb v f)(i:Nat)(x:α):kb (v.setIfInBounds i x) (ue f i x):=λj a=>by
 by_cases e:j=i
 .subst e;rw[Ed];simp
 .rw[Ec e,Vector.getElem_setIfInBounds_ne a (λe'=>e e'.symm)];exact h j a
theorem ext(h:kb v f)(k:kb w f):v=w:=by apply uK;intro i hi;rw[h i hi,k i hi]
theorem to(h:kb v f)(e:∀i,i<n->f i=g i):kb v g:=λi hi=>(h i hi).trans (e i hi)
theorem dI(h:kb v f){i:Nat}(hi:i<n):YtklkkoelldkncaaGreatDoor.dI v (i:Int)=some (f i):=by rw[Cp v hi,h i hi]
end kb
def ln{α:Type}(l:List α)(n:Nat)(f:Nat->α):Prop:=l.length=n/\∀(i:Nat),i<n->l[i]?=some (f i)
namespace ln
variable {α:Type}{n:Nat}{l m:List α}{f g:Nat->α}
theorem rep{x:α}:ln (List.replicate n x) n λ_=>x:=⟨by simp,λi h=>by simp[h]⟩
theorem nil:ln ([]:List α) 0 f:=⟨X,λi h=>by omega⟩
theorem set(h:ln l n f)(i:Nat)(x:α):ln (l.set i x) n (ue f i x):=⟨by simp[h.1],λj a=>by
 by_cases e:j=i
 .subst e;rw[Ed,ir (by rw[h.1];exact a)]
 .rw[Ec e,jI (λe'=>e e'.symm)];exact h.2 j a⟩
theorem ext(h:ln l n f)(k:ln m n f):l=m:=by
 apply sP;intro i;by_cases hi:i<n
 .rw[h.2 i hi,k.2 i hi]
 .rw[nv (by rw[h.1];omega),nv (by rw[k.1];omega)]
theorem to(h:ln l n f)(e:∀i,i<n->f i=g i):ln l n g:=⟨h.1,λi hi=>by rw[h.2 i hi,e i hi]⟩
theorem bf(h:ln l n f){i:Nat}(hi:i<n):YtklkkoelldkncaaGreatDoor.bf l (i:Int)=some (f i):=by rw[cY,h.2 i hi]
theorem get(h:ln l n f){i:Nat}(hi:i<l.length):l[i]=f i:=by have:=h.2 i (by rw[<-h.1];exact hi);simpa[hi]using this
theorem ofFn(f:Nat->α):ln ((List.range n).map f) n f:=⟨by simp,λi hi=>by simp[hi]⟩
theorem mem_iff(h:ln l n f){x:α}:x∈l↔∃i,i<n/\f i=x:=by
 constructor
 .intro d;obtain⟨i,hi⟩:=kE d;have a:=(ff.1 hi).1;exact⟨i,by rw[<-h.1];exact a,by rw[h.2 i (by rw[<-h.1];exact a)]at hi;exact dF hi⟩
 .rintro⟨i,hi,rfl⟩;exact eN (h.2 i hi)
end ln
theorem kn{x:Int}(h:0<=x):∃n:Nat,x=(n:Int):=E9 h
theorem cV.look{α τ:Type}{l:List α}{body:Nat->Unit->Option (d6 Unit τ)}{Q:Unit ⊕ τ->Prop}(f:α->Option τ)(q:∀j(h:j<l.length),body j ()=some (match f l[j]with|none=>.go ()|some t=>.ret t))
 (o:(∀x∈l,f x=none)->Q (.inl ())) (p:∀(j:Nat)x t,l[j]?=some x->f x=some t->(∀(i:Nat)y,i<j->l[i]?=some y->f y=none)->Q (.inr t)):cV (YtklkkoelldkncaaGreatDoor.dT body l.length 0 ()) Q:=by
 refine cV.dT (λj _=>∀(i:Nat)y,i<j->l[i]?=some y->f y=none) (λi y hi=>by omega) (λj s _ C d=>?_) (λs A=>o λx B=>?_)
 .have a:j<l.length:=by omega
  rw[q j a];refine cV.nN.2 ?_
  cases e:f l[j]with
  |none=>
   intro i y hi k;by_cases e':i=j
   .subst e';have:y=l[i]:=by simpa[a]using k.symm
    rw[this];exact e
   .exact d i y O k
  |some t=>exact p j l[j] t (by simp[a]) e d
 .obtain⟨i,hi⟩:=kE B;exact A i x (by have:=(ff.1 hi).1;omega) hi
theorem I8{α:Type}[DecidableEq α]{l m:List α}{body:Nat->Unit->Option (d6 Unit Bool)}(c:α->α->Bool)(s:∀x y,c x y=!decide (x=y))(q:∀j:Nat,body j ()=(bf l (j:Int)).bind λx=>(bf m (j:Int)).bind λy=>bif c x y then some (.ret false)else some (.go ())):
 (bif (l.length:Int)!=(m.length:Int)then some false else andThen (dT body l.length 0 ()) λ_=>some true)=some (decide (l=m)):=by
 refine cV.eq ?_;rw[cV.EY];refine⟨λh=>cV.nN.2 ?_,λh=>?_⟩
 .have d:l.length≠m.length:=by simpa[A9]using h
  exact(cX λe=>d (by rw[e])).symm
 .have d:l.length=m.length:=by simpa[A9]using h
  rw[cV.DJ];refine cV.dT (λj _=>∀i,i<j->l[i]?=m[i]?) (λi hi=>by omega) ?_ ?_
  .intro j _ _ t a;have o:j<l.length:=by omega
   have p:j<m.length:=by omega
   rw[q,cY,cY,je o,je p,gK,gK,s,cV.EY];refine⟨λk=>cV.nN.2 ?_,λk=>cV.nN.2 λi hi=>?_⟩
   .refine(cX λe=>?_).symm;subst e;simp at k
   .by_cases e:i=j
    .subst e;rw[je o,je p];simpa using k
    .exact a i O
  .intro _ a;refine cV.nN.2 ?_;refine(dl (sP λi=>?_)).symm;by_cases hi:i<l.length
   .exact a i O
   .rw[nv O,nv O]
def jV{α:Type}(p:α->Bool)(l:List α):Int:=match l.findIdx? p with
 |some i=>(i:Int)
 |none=>-1
theorem AR{α:Type}{p:α->Bool}{l:List α}:jV p l= -1↔∀x∈l,p x=false:=by
 unfold jV
 cases h:l.findIdx? p with
 |none=>simpa using h
 |some i=>
  simp only;constructor
  .intro k;omega
  .intro k;obtain⟨d,a,_⟩:=Fd.1 h;have:=k _ (qX d);rw[this]at a;cases a
theorem J5{α:Type}{p:α->Bool}{l:List α}{i:Nat}:jV p l=(i:Int)↔∃x,l[i]?=some x/\p x=true/\∀(j:Nat)y,j<i->l[j]?=some y->p y=false:=by
 unfold jV;have e:l.findIdx? p=some i↔∃x,l[i]?=some x/\p x=true/\∀(j:Nat)y,j<i->l[j]?=some y->p y=false:=by
  rw[Fd];constructor
  .rintro⟨a,d,h⟩;refine⟨l[i],by simp[a],d,λj y o s=>?_⟩;obtain⟨t,rfl⟩:=ff.1 s;simpa using h j o
  .rintro⟨x,q,d,h⟩;obtain⟨a,rfl⟩:=ff.1 q;exact⟨a,d,λj o=>by simpa using h j _ o (by rw[je O])⟩
 rw[<-e]
 cases l.findIdx? p with
 |none=>simp
 |some k=>simp only[gU];omega
theorem J4{α:Type}(p:α->Bool)(l:List α):(jV p l= -1/\∀x∈l,p x=false)\/∃(i:Nat)(x:α),jV p l=(i:Int)/\l[i]?=some x/\p x=true/\∀(j:Nat)y,j<i->l[j]?=some y->p y=false:=by
 cases h:l.findIdx? p with
 |none=>
  have:jV p l= -1:=by unfold jV;rw[h]
  exact .inl ⟨this,AR.1 this⟩
 |some i=>
  have:jV p l=(i:Int):=by unfold jV;rw[h]
  obtain⟨x,a⟩:=J5.1 this;exact .inr ⟨i,x,this,a⟩
theorem EX{α:Type}{l:List α}(p:α->Bool){body:Nat->Unit->Option (d6 Unit Int)}(o:∀(j:Nat)x,l[j]?=some x->body j ()=some (bif p x then .ret (j:Int)else .go ())):
 (andThen (dT body l.length 0 ()) λ_=>some (-1:Int))=some (jV p l):=by
 refine cV.eq ?_;rw[cV.DJ];refine cV.dT (λj _=>∀(i:Nat)y,i<j->l[i]?=some y->p y=false) (λi y hi=>by omega) ?_ ?_
 .intro j _ _ q d;have k:j<l.length:=by omega
  have a:l[j]?=some l[j]:=by simp[k]
  rw[o j _ a,cV.nN]
  cases hp:p l[j]with
  |true=>exact(J5.2 ⟨_,a,hp,d⟩).symm
  |false=>
   intro i y hi h;by_cases e:i=j
   .subst e;rw[a]at h;obtain rfl:=dF h;exact hp
   .exact d i y O h
 .intro _ d;refine cV.nN.2 (AR.2 λx a=>?_).symm;obtain⟨i,hi⟩:=kE a;exact d i x (by have:=(ff.1 hi).1;omega) hi
theorem Kv{l:List Int}{body:Int×Int->Option (d6 (Int×Int) Int)}(p:l.length<=2^40)(k:∀m i,body (m,i)=bif decide (i<(l.length:Int))then((bf l i).bind λx=>some (.go (min m x,aq (i+1))))else some (.fZ (m,i))):
 ∀(fu i:Nat)(m:Int),i<=l.length->l.length-i<fu->∃r j,df body fu (m,(i:Int))=some (.inl (r,j))/\∀c:Int,c<=r↔c<=m/\∀x∈l.drop i,c<=x
 |0,i,m,_,h=>by omega
 |fu+1,i,m,hi,q=>by
  unfold df;rw[k];by_cases h:i=l.length
  .subst h;rw[show decide ((l.length:Int)<(l.length:Int))=false from cX O,lF];exact⟨m,_,X,λc=>by simp⟩
  .have d:i<l.length:=by omega
   rw[show decide ((i:Int)<(l.length:Int))=true from dl O,l6,cY,je d,gK,gK,bO O O];obtain⟨r,j,e,o⟩:=Kv p k fu (i+1) (min m l[i]) O O;refine⟨r,j,e,λc=>?_⟩;rw[o,jd d];simp only[fB,forall_eq_or_imp];constructor
   .rintro⟨a,b⟩;exact⟨by omega,by omega,b⟩
   .rintro⟨a,b,c⟩;exact⟨by omega,c⟩
theorem Ku{l:List Int}{body:Int×Int->Option (d6 (Int×Int) Int)}(s:l.length<=2^40)(p:∀m i,body (m,i)=bif decide (i<(l.length:Int))then((bf l i).bind λx=>some (.go (max m x,aq (i+1))))else some (.fZ (m,i))):
 ∀(fu i:Nat)(m:Int),i<=l.length->l.length-i<fu->∃r j,df body fu (m,(i:Int))=some (.inl (r,j))/\(∀c:Int,r<=c↔m<=c/\∀x∈l.drop i,x<=c)/\(r=m\/r∈l.drop i)
 |0,i,m,_,h=>by omega
 |fu+1,i,m,hi,t=>by
  unfold df;rw[p];by_cases h:i=l.length
  .subst h;rw[show decide ((l.length:Int)<(l.length:Int))=false from cX O,lF];exact⟨m,_,X,λc=>by simp,.inl X⟩
  .have d:i<l.length:=by omega
   rw[show decide ((i:Int)<(l.length:Int))=true from dl O,l6,cY,je d,gK,gK,bO O O];obtain⟨r,j,e,q,o⟩:=Ku s p fu (i+1) (max m l[i]) O O;refine⟨r,j,e,λc=>?_,?_⟩
   .rw[q,jd d];simp only[fB,forall_eq_or_imp];constructor
    .rintro⟨a,b⟩;exact⟨by omega,by omega,b⟩
    .rintro⟨a,b,c⟩;exact⟨by omega,c⟩
   .rw[jd d,fB];rcases o with o|o
    .by_cases k:m<=l[i]
     .right;left;omega
     .left;omega
    .exact .inr (.inr o)
theorem MH{n:Nat}(a b:BitVec n):((a.toNat:Int)==(b.toNat:Int))=(a==b):=by rw[eZ,jW,jW,A9,BitVec.toNat_inj]
theorem MI{n:Nat}(a b:BitVec n):((a.toNat:Int)!=(b.toNat:Int))=(a !=b):=by unfold bne;rw[MH]
abbrev xT:=@cV.DJ
abbrev pL:=@cV.It
abbrev nC:=@cV.RG
abbrev xU:=@cV.RY
abbrev oH:=@cV.SB
abbrev tc:=@cV.Vj
abbrev nD:=@cV.EY
abbrev u4:=@cV.VT
abbrev fa:=@cV.nN
abbrev pM:=@cV.df
end Go.Proofs.YtklkkoelldkncaaGreatDoor
namespace Go.Proofs.YtklkkoelldkncaaGreatDoor
open Go.RowKit an
abbrev fS:Y:=[48,48,48,49,48,50,48,51,48,52,48,53,48,54,48,55,48,56,48,57,49,48,49,49,49,50,49,51,49,52,49,53,49,54,49,55,49,56,49,57,50,48,50,49,50,50,50,51,50,52,50,53,50,54,50,55,50,56,50,57,51,48,51,49,51,50,51,51,51,52,51,53,51,54,51,55,51,56,51,57,52,48,52,49,52,50,52,51,52,52,52,53,52,54,52,55,52,56,52,57,53,48,53,49,53,50,53,51,53,52,53,53,53,54,53,55,53,56,53,57,54,48,54,49,54,50,54,51,54,52,54,53,54,54,54,55,54,56,54,57,55,48,55,49,55,50,55,51,55,52,55,53,55,54,55,55,55,56,55,57,56,48,56,49,56,50,56,51,56,52,56,53,56,54,56,55,56,56,56,57,57,48,57,49,57,50,57,51,57,52,57,53,57,54,57,55,57,56,57,57]
abbrev Bm:Y:=[0,1,2,2,3,3,3,3,4,4,4,4,4,4,4,4,5,5,5,5,5,5,5,5,5,5,5,5,5,5,5,5,6,6,6,6,6,6,6,6,6,6,6,6,6,6,6,6,6,6,6,6,6,6,6,6,6,6,6,6,6,6,6,6,7,7,7,7,7,7,7,7,7,7,7,7,7,7,7,7,7,7,7,7,7,7,7,7,7,7,7,7,7,7,7,7,7,7,7,7,7,7,7,7,7,7,7,7,7,7,7,7,7,7,7,7,7,7,7,7,7,7,7,7,7,7,7,7,8,8,8,8,8,8,8,8,8,8,8,8,8,8,8,8,8,8,8,8,8,8,8,8,8,8,8,8,8,8,8,8,8,8,8,8,8,8,8,8,8,8,8,8,8,8,8,8,8,8,8,8,8,8,8,8,8,8,8,8,8,8,8,8,8,8,8,8,8,8,8,8,8,8,8,8,8,8,8,8,8,8,8,8,8,8,8,8,8,8,8,8,8,8,8,8,8,8,8,8,8,8,8,8,8,8,8,8,8,8,8,8,8,8,8,8,8,8,8,8,8,8,8,8,8,8,8,8]
def rp:List (BitVec 64):=(List.range 20).map λi=>BitVec.ofNat 64 (10^i)
def gG(F:bk):Prop:=∃t a post,F 1=some (.cells (I rp++post).toArray t a)
def FC:Sl:=⟨some ⟨1,0,none⟩,20,20⟩
theorem gG.mono{F a:bk}(h:gG F)(g:cS F a):gG a:=let⟨t,f,p,h⟩:=h;⟨t,f,p,g _ _ h⟩
theorem gG.rd{w0:World}{F:bk}{L:List Item}(h:gG F):Rd w0 F L FC rp:=λw f=>by obtain⟨t,a,p,h⟩:=h;exact⟨t,a,by rw[d7];rfl,by decide,.inr ⟨1,0,[],p,X,f.gh _ _ h,X,dO _,by rw[cr,d7];exact pt _ _⟩⟩
def uB(n:Int):Option Y:=if 0<=n/\n<1000000000 then some (Lib.itoa n)else none
section
variable {P:Program}{C:Co P}{n:Fm}{w0:World}{ops:Array Oper}{Q:eC}{l:List Oper}{e:List (Nat×Value)}{F:bk}{L:List Item}{v:Value}{dst:Option Nat}{d:Nat}{ty:TypeId}{pos:String}{aX:Array Edge}{gd:Option (Nat×Bool)}
theorem SH.item{i j:Item}{hd:bG}{w:World}(a:SH w0 F (i::L) hd w)(h:j.bH=i.bH)(m:i.holds (World.hp w)->j.holds (World.hp w)):SH w0 F (j::L) hd w:=by
 have e:cu (j::L)=cu (i::L):=by rw[eQ,eQ,h]
 refine⟨⟨a.below,a.gh,λb f=>a.apart b (by rw[e]at f;exact f),λk g=>?_,by rw[e];exact a.nodup⟩,λb f=>a.own b (by rw[e]at f;exact f),a.rd⟩;rcases fB.1 g with rfl|g
 .exact m (a.holds _ List.mem_cons_self)
 .exact a.holds k (nw _ g)
theorem P9{b i m k:Nat}{t:TypeId}{pre xs post:List Value}(hp:pre.length=i)(x:xs.length=m)(p:i+k=(pre++(xs++post)).length)(q:m<=k)(f:m<=2^63-1)
 (h:a9 P n w0 ops Q l e F (.own ⟨some ⟨b,i,none⟩,m,k⟩ t 1 xs::L)):a9 P n w0 ops Q l e F (.blk b (pre++(xs++post)) t::L):=λa hd w j s=>by
 refine h a hd w j (s.item X λo=>?_);have g:World.hp w b=some (.cells (pre++(xs++post)).toArray t (0,0)):=o;exact⟨by simp[x],f,.inr ⟨b,i,pre,post,X,g,hp,q,by rw[cr]at p;show k*1<=_;omega⟩⟩
theorem G7{x y z:Operand}{t el:TypeId}{b k m i j:Nat}(A:ev e x=some (.pointer (some ⟨b,0,none⟩)))(B:ev e y=some (.int .i64 (i:Int)))(D:ev e z=some (.int .i64 (j:Int)))(s:∀w,(underlying t).run P w=.ok (.array k el) w)
 (q:∀w,(sizeOf el).run P w=.ok m w) (f:i<=j) (g:j<=k) (p:i<k):Ev P n w0 e F L ⟨dst,.slice t x (some y) (some z) none,ty,pos,aX,gd⟩ (Sl.v ⟨some ⟨b,i*m,none⟩,j-i,k-i⟩):=λa w h H=>by
 have o:¬k=i:=by omega
 refine cK ?_ ?_<;>simp[o,Instr.sureAddr,execOp,Instr.sliceAt,h.eval A,h.eval B,h.eval D,s,Sl.v,Instr.slice,Instr.sliceBounds,run_sliceBound,ud,q,Addr.add,f,g]
 exact λh=>h.symm
end
end Go.Proofs.YtklkkoelldkncaaGreatDoor
namespace Go.Proofs.YtklkkoelldkncaaGreatDoor
open Go.Conc Go.ConcN
structure TI(Sh:Loc->Prop)(Al:Nat->Loc->Prop)(Re U:Loc->Prop)(t:Trace)(j:Nat):Prop where
 quiet:Quiet Sh t
 al:∀k,k<=j->∀l,Al k l->Perm t k l
 re:∀k,k<=j->∀l,Re l->PermW t k l
 un:∀k,k<=j->∀l,U l->Perm t k l
 nr:∀said,¬Race said t
 gs:∀(i:Nat)(op:MemOp),t[i]?=some op->op.g<=j
 plain:∀(i:Nat)(op:MemOp)(x:Touch),t[i]?=some op->op.act.touch? =some x->¬Sh x.loc->x.kind≠.atomic\/op.g=0
structure zI(Sh:Loc->Prop)(Al:Nat->Loc->Prop)(Re U:Loc->Prop):Prop where
 al:∀k k' l,Al k l->Al k' l->k=k'
 Ig:∀k l,Al k l->¬Re l
 Q9:∀k l,Al k l->¬U l
 Ih:∀k l,Al k l->¬Sh l
 Zy:∀l,Re l->¬U l
 LU:∀l,Re l->¬Sh l
 uSh:∀l,U l->¬Sh l
def rX(Sh:Loc->Prop)(Al:Nat->Loc->Prop)(Re:Loc->Prop)(g:Nat)(op:MemOp):Prop:=
 op.g=g/\∀x,op.act.touch? =some x->(Sh x.loc/\x.kind≠.plain/\(x.kind=.said->g=0))\/(Al g x.loc/\(x.kind≠.atomic\/g=0))\/(Re x.loc/\x.write=false/\x.kind≠.atomic)
section
variable {Sh:Loc->Prop}{Al GE:Nat->Loc->Prop}{Re HX U U':Loc->Prop}{t u:Trace}{j g:Nat}
theorem TI.app(A:zI Sh Al Re U)(h:TI Sh Al Re U t j)(M:g<=j)(n:∀op∈u,rX Sh Al Re g op):TI Sh Al Re U (t++u) j:=by
 refine⟨h.quiet.app λop d x H m=>?_,λk D l f=>(h.al k D l f).app λop d b s e=>?_,λk D l f=>(h.re k D l f).app λop d b s e Q=>?_,
  λk D l f=>(h.un k D l f).app λop d b s e=>?_,λsaid=>?_,λi op hi=>?_,λi op x hi H C=>?_⟩
 .rcases(n op d).2 x H with⟨_,B,P⟩|⟨p,_⟩|⟨q,_⟩
  .exact⟨B,λe=>(n op d).1.trans (P e)⟩
  .exact absurd m (A.Ih g _ p)
  .exact absurd m (A.LU _ q)
 .rcases(n op d).2 b s with⟨m,_⟩|⟨p,_⟩|⟨q,_⟩
  .exact absurd (e▸m) (A.Ih k l f)
  .rw[(n op d).1];exact A.al g k l (e▸p) f
  .exact absurd (e▸q) (A.Ig k l f)
 .rcases(n op d).2 b s with⟨m,_⟩|⟨p,_⟩|⟨_,q,_⟩
  .exact absurd (e▸m) (A.LU l f)
  .exact absurd f (A.Ig g l (e▸p))
  .rw[q]at Q;cases Q
 .rcases(n op d).2 b s with⟨m,_⟩|⟨p,_⟩|⟨q,_⟩
  .exact absurd (e▸m) (A.uSh l f)
  .exact absurd f (A.Q9 g l (e▸p))
  .exact absurd f (A.Zy l (e▸q))
 .refine noRace_append (h.nr said) (λop d=>(n op d).1) (λi a K op d b s F=>?_);rcases(n op d).2 b s with⟨m,B,P⟩|⟨p,_⟩|⟨q,L,_⟩
  .exact h.quiet.known m B P i a K F
  .exact h.al g M b.loc p i a K F.1
  .exact h.re g M b.loc q i a K F.1 (F.2.2.1.resolve_right (by simp[L]))
 .rcases getElem?_append_cases hi with⟨_,y⟩|⟨_,o⟩
  .exact h.gs i op y
  .rw[(n op o).1];exact M
 .rcases getElem?_append_cases hi with⟨_,y⟩|⟨_,o⟩
  .exact h.plain i op x y H C
  .rcases(n op o).2 x H with⟨m,_⟩|⟨_,B⟩|⟨_,_,B⟩
   .exact absurd m C
   .exact B.imp id λe=>(n op o).1.trans e
   .exact .inl B
theorem TI.Gr(h:TI Sh Al Re U t j)(e:∀k,k<=j->∀l,GE k l->Al k l\/U l)(f:∀l,HX l->Re l\/U l)(i:∀l,U' l->U l):TI Sh GE HX U' t j:=
 ⟨h.quiet,λk a l d=>(e k a l d).elim (h.al k a l) (h.un k a l),λk a l d=>(f l d).elim (h.re k a l) λx=>.of (h.un k a l x),λk a l d=>h.un k a l (i l d),h.nr,h.gs,h.plain⟩
theorem TI.still(h:TI Sh Al Re U t j)(A:g<=j)(y:∀op∈u,op.g=g/\op.act.touch? =none):TI Sh Al Re U (t++u) j:=by
 have o:∀op∈u,∀x,op.act.touch? =some x->False:=λop d x n=>by rw[(y op d).2]at n;cases n
 refine⟨h.quiet.app λop d x n _=>(o op d x n).elim,λk q l p=>(h.al k q l p).app λop d b e _=>(o op d b e).elim,λk q l p=>(h.re k q l p).app λop d b e _ _=>(o op d b e).elim,
  λk q l p=>(h.un k q l p).app λop d b e _=>(o op d b e).elim,λsaid=>noRace_append (h.nr said) (λop d=>(y op d).1) λi a _ op d b e _=>(o op d b e).elim,λi op hi=>?_,λi op x hi n s=>?_⟩
 .rcases getElem?_append_cases hi with⟨_,f⟩|⟨_,m⟩
  .exact h.gs i op f
  .rw[(y op m).1];exact A
 .rcases getElem?_append_cases hi with⟨_,f⟩|⟨_,m⟩
  .exact h.plain i op x f n s
  .exact(o op m x n).elim
theorem TI.fork(h:TI Sh Al Re U t j)(M:∀l,¬Al (j+1) l){x y:MemOp}(q:x.g=0/\x.act=.go (j+1))(B:y.g=j+1/\y.act=.start)(L:Deaf t 0=0):TI Sh Al Re U (t++#[x,y]) (j+1):=by
 have D:Deaf t (j+1)=0:=Deaf_absent λi op hi e=>by have:=h.gs i op hi;omega
 have f:∀op∈#[x,y],∀b,op.act.touch? =some b->False:=by
  intro op d b m;simp only[uC,fB,qO,qS]at d;rcases d with rfl|rfl
  .rw[q.2]at m;cases m
  .rw[B.2]at m;cases m
 have old:∀{i:Nat}{a:Touch},touchAt (t++#[x,y]) i=some a->touchAt t i=some a:=by
  intro i a A;obtain⟨z,Q,C⟩:=touch_of A;rcases getElem?_append_cases Q with⟨_,H⟩|⟨_,K⟩
  .rw[touchAt_of H];exact C
  .exact(f z K a C).elim
 have lt:∀k,k<=j+1->k<=j\/k=j+1:=λk D=>by omega
 refine⟨h.quiet.app λop d b m _=>(f op d b m).elim,λk n l p=>?_,λk n l p=>?_,λk n l p=>?_,λsaid=>?_,λi op hi=>?_,λi op x hi q F=>?_⟩
 .rcases lt k n with n|rfl
  .exact(h.al k n l p).app λop d b m _=>(f op d b m).elim
  .exact absurd p (M l)
 .rcases lt k n with n|rfl
  .exact(h.re k n l p).app λop d b m _ _=>(f op d b m).elim
  .exact λi a A e P=>fork_knows q B L D (h.re 0 (jF _) l p i a (old A) e P)
 .rcases lt k n with n|rfl
  .exact(h.un k n l p).app λop d b m _=>(f op d b m).elim
  .exact λi a A e=>fork_knows q B L D (h.un 0 (jF _) l p i a (old A) e)
 .have e:t++#[x,y]=(t++#[x])++#[y]:=by apply lc;simp
  rw[e]
  refine noRace_append (g:=j+1) (noRace_append (g:=0) (h.nr said) (λop d=>by simp at d;rw[d];exact q.1) (λi a _ op d b m _=>(f op (by simp at d ⊢;exact .inl d) b m).elim))
   (λop d=>by simp at d;rw[d];exact B.1) (λi a _ op d b m _=>(f op (by simp at d ⊢;exact .inr d) b m).elim)
 .rcases getElem?_append_cases hi with⟨_,s⟩|⟨_,o⟩
  .exact Nat.le_succ_of_le (h.gs i op s)
  .simp only[uC,fB,qO,qS]at o;rcases o with rfl|rfl
   .rw[q.1];exact jF _
   .rw[B.1];exact dO _
 .rcases getElem?_append_cases hi with⟨_,s⟩|⟨_,o⟩
  .exact h.plain i op x s q F
  .exact(f op o x q).elim
theorem TI.comm(h:TI Sh Al Re U t j)(d:∀op∈u,op.g<=j/\op.act.touch? =none):TI Sh Al Re U (t++u) j:=by
 obtain⟨l⟩:=u
 induction l generalizing t with
 |nil=>simpa using h
 |cons y l i=>
  have e:t++(⟨y::l⟩:Trace)=(t++#[y])++⟨l⟩:=by apply lc;simp
  rw[e];have f:=d y (by simp);exact i (h.still (g:=y.g) f.1 λop a=>by simp at a;subst a;exact⟨X,f.2⟩) λop a=>d op (by simp at a ⊢;exact .inr a)
theorem Ra{a:Addr}{q:Nat}(all:∀i g,t.g? i=some g->g≠0->∃r,RelBy a t g r/\r<q)(F:NoRelease a t)
 (K:t.act? q=some (.mark (.acquire a))) (s:t.g? q=some 0) (A:t.heard q) {i:Nat} {x:Touch} (p:touchAt t i=some x) (D:x.loc.isMemory=true) (B:x.kind≠.atomic):Knows t 0 i:=by
 obtain⟨op,o,H⟩:=touch_of p;by_cases n:op.g=0
 .have:=knows_own o;rwa[n]at this
 .have e:t.g? i=some op.g:=by simp[Trace.g?,o]
  obtain⟨r,h,l⟩:=all i op.g e n;have d:HappensBefore t r q:=.single (.inr ⟨.marked l (.inr h.act) K (λk _ _=>F k),h.heard,A⟩);have C:i<=r:=Nat.le_of_not_lt λf=>h.after i f e ⟨x,p,D,.inl B⟩;obtain⟨z,L,m⟩:=pw.1 s;refine⟨q,z,L,m,.inr ?_⟩;rcases pu i r with f|y
  .exact .trans (.single (.inl ⟨f,op.g,e,h.g⟩)) d
  .obtain rfl:i=r:=by omega
   exact d
end
inductive Tr
 |leaf
 |mk (f:World->Tr)
def Tr.lt:Tr->Tr->Prop
 |a,.mk f=>∃w,a=f w
 |_,.leaf=>False
theorem Tr.acc:∀T:Tr,Acc Tr.lt T
 |.leaf=>⟨_,λ_ h=>h.elim⟩
 |.mk f=>⟨_,λy h=>by obtain⟨w,rfl⟩:=h;exact Tr.acc (f w)⟩
def nV(n:Nat)(E D:Nat->Tr):Prop:=∃i,i<n/\(E i).lt (D i)/\∀k,k≠i->E k=D k
theorem nV.acc:∀(n:Nat)(D:Nat->Tr),Acc (nV n) D
 |0,D=>⟨_,λE h=>by obtain⟨i,hi,_⟩:=h;omega⟩
 |n+1,D=>by
  have k:∀T:Tr,∀D:Nat->Tr,D n=T->Acc (nV (n+1)) D:=by
   intro T
   induction Tr.acc T with
   |intro T _ f=>
    intro D
    induction nV.acc n D with
    |intro D _ d=>
     intro e;refine⟨_,λE h=>?_⟩;obtain⟨i,hi,l,m⟩:=h;by_cases a:i=n
     .subst a;exact f _ (by rw[<-e];exact l) E X
     .exact d E ⟨i,by omega,l,m⟩ (by rw[m n O];exact e)
  exact k _ D X
def HD(n:Nat)(a b:Nat×(Nat->Tr)):Prop:=Prod.Lex (·<·) (nV n) a b
theorem HD.wf(n:Nat):WellFounded (HD n):=(Prod.lex Nat.lt_wfRel ⟨nV n,⟨nV.acc n⟩⟩).wf
def Tr.nat:Nat->Tr
 |0=>.leaf
 |n+1=>.mk λ_=>Tr.nat n
end Go.Proofs.YtklkkoelldkncaaGreatDoor
namespace Go.Proofs.YtklkkoelldkncaaGreatDoor
open Go.Conc Go.ConcN
open Go.ConcR (KK wgBlock WgAt stA smA rd wr DC0)
structure ka(b0:Nat)(w w':World):Prop where
 tape:w'.tape=w.tape
 os:w'.os=w.os
 output:w'.output=w.output
 size:w'.heap.size=w.heap.size
 block:∀b,b≠b0->w'.heap[b]?=w.heap[b]?
section
variable (P:Program)(main:Bool)(S:bG->Goroutine->World->Prop)
def Own:Tr->bG->Goroutine->World->Prop
 |.leaf,h,g,w=>∀w1,eg h w w1->S h g w1
 |.mk f,h,g,w=>g.status=.running/\∀w1,eg h w w1->∃g' w' es,stepG P main g w1=.go g' w' es/\jm h w1 w' es/\Own (f w1) (h.grow w1 w') g' w'
def iO(h:bG)(g:Goroutine)(w:World):Prop:=∃T,Own P main S T h g w
end
section
variable {P:Program}{main:Bool}{S:bG->Goroutine->World->Prop}
theorem Own.rely:∀{T:Tr}{h:bG}{g:Goroutine}{w w1:World},Own P main S T h g w->eg h w w1->Own P main S T h g w1
 |.leaf,_,_,_,_,a,r=>λ_ d=>a _ (r.trans d)
 |.mk _,_,_,_,_,a,r=>⟨a.1,λ_ d=>a.2 _ (r.trans d)⟩
theorem iO.mk{h:bG}{g:Goroutine}{w:World}(j:g.status=.running)(i:∀w1,eg h w w1->∃g' w' es,stepG P main g w1=.go g' w' es/\jm h w1 w' es/\iO P main S (h.grow w1 w') g' w'):iO P main S h g w:=by
 classical
 have a:∀w1,∃T,eg h w w1->∃g' w' es,stepG P main g w1=.go g' w' es/\jm h w1 w' es/\Own P main S T (h.grow w1 w') g' w':=λw1=>by
  by_cases r:eg h w w1
  .obtain⟨g',w',es,d,e,T,f⟩:=i w1 r;exact⟨T,λ_=>⟨g',w',es,d,e,f⟩⟩
  .exact⟨.leaf,λx=>absurd x r⟩
 exact⟨.mk λw1=>Classical.choose (a w1),j,λw1 r=>Classical.choose_spec (a w1) r⟩
theorem iO.stop{h:bG}{g:Goroutine}{w:World}(a:∀w1,eg h w w1->S h g w1):iO P main S h g w:=⟨.leaf,a⟩
end
abbrev nc(P:Program)(main:Bool)(S:bG->Goroutine->World->Prop):Co P where
 main:=main
 K:=iO P main S
 rely:=λ⟨T,h⟩r=>⟨T,h.rely r⟩
 step:=λd a=>iO.mk d a
structure cy where
 P:Program
 ty:TypeId
 Wg:Nat
 ch:Nat
 C:Nat
 n:Nat
 J:Nat
 fW:World
 mY:(Nat->Option Value)->World->Prop
 hU:Nat->Value->(Nat->Prop)->World->Prop
 fE:Nat->Loc->Prop
 Post:Value->World->Prop
namespace cy
variable (p:cy)
def Fz(b:Nat):Prop:=b<p.fW.heap.size/\b≠p.Wg/\b≠p.ch/\b≠p.C
structure Base(w:World):Prop where
 tape:w.tape=p.fW.tape
 os:w.os=p.fW.os
 output:w.output=p.fW.output
 size:p.fW.heap.size<=w.heap.size
 block:∀b,p.Fz b->w.heap[b]?=p.fW.heap[b]?
def eI:bG:=⟨λ_=>False,p.Fz⟩
def Live(w:World):Prop:=WgLive p.ty p.Wg w
def RL(w w1:World):Prop:=(p.Live w->p.Live w1)/\(p.Base w->p.Base w1)
def z0:Value:=.int .i64 0
section
def DC(g:Goroutine)(w:World):Prop:=
 g.status=.running/\mayWake p.P g=true/\(WgAt p.ty p.Wg w 0 0->∃g',stepG p.P false g w=.go g' (w.setCell (smA p.Wg) (.int .u32 1)) (semEvents (smA p.Wg))/\∃q,QuitsD p.P q 1 g')
def DB(g:Goroutine)(w:World):Prop:=
 g.status=.running/\(WgAt p.ty p.Wg w 1 0->∃g',stepG p.P false g w=.go g' (w.setCell (stA p.Wg) (.int .u64 0)) #[wr (stA p.Wg)]/\∃m,Goes p.P false p.RL DC0 p.DC m g' (w.setCell (stA p.Wg) (.int .u64 0)))
def DA(g:Goroutine)(w:World):Prop:=
 g.status=.running/\(WgAt p.ty p.Wg w 1 0->∃g',stepG p.P false g w=.go g' w #[rd (stA p.Wg)]/\∃m,Goes p.P false p.RL DC0 p.DB m g' w)
def Dz(g:Goroutine)(w:World):Prop:=
 g.status=.running/\∀v a:Nat,a<=1->v<2147483647->WgAt p.ty p.Wg w ((v+1)*KK+a) 0->
  ∃g',stepG p.P false g w=.go g' (w.setCell (stA p.Wg) (.int .u64 (v*KK+a))) #[rd (stA p.Wg),wr (stA p.Wg)]/\
   ((v=0/\a=1)->∃m,Goes p.P false p.RL DC0 p.DA m g' (w.setCell (stA p.Wg) (.int .u64 (v*KK+a))))/\(¬(v=0/\a=1)->∃q,QuitsD p.P q 1 g')
def DD(g:Goroutine)(w:World):Prop:=
 g.status=.running/\∃g',stepG p.P false g w=.go g' w #[ConcR.mk .disable]/\∃m,Goes p.P false p.RL DC0 p.Dz m g' w
def wD(g:Goroutine)(w:World):Prop:=
 g.status=.running/\∃g',stepG p.P false g w=.go g' w #[ConcR.mk (.releaseMerge (stA p.Wg))]/\∃m,Goes p.P false p.RL DC0 p.DD m g' w
def tX(m:Nat)(Next:Goroutine->Prop)(h:bG)(g:Goroutine)(w:World):Prop:=
 g.status=.running/\∀V,p.mY V w->∃v g' w' es,stepG p.P false g w=.go g' w' es/\p.hU m v h.o w/\ka p.C w w'/\p.mY (upd V m (some v)) w'/\(∀e∈es,e.sync=false/\p.fE m e.loc)/\
  ∀w2,p.Base w2->iO p.P false (λ_ g _=>Next g) p.eI g' w2
def tY(g:Goroutine):Prop:=
 g.status=.running/\(∀w,stepG p.P false g w=.comm (core g) #[rcase p.ch z0] true (.recv true) w #[])/\∀w,p.Live w->∃n,Goes p.P false p.RL DC0 p.wD n (Conc.served (core g) (.tuple #[z0,.bool false])) w
def Recv:Nat->Goroutine->Prop
 |0,g=>p.tY g
 |r+1,g=>p.tY g/\∀m,m<p.J->∀w,p.Base w->iO p.P false (p.tX m (Recv r)) p.eI (Conc.served (core g) (.tuple #[.int .i64 m,.bool true])) w
end
def EP(w:World):bG:=⟨λb=>b<w.heap.size/\b≠p.Wg,λ_=>False⟩
def AtRet(h:bG)(g:Goroutine)(w:World):Prop:=
 g.status=.running/\∃v es,stepG p.P true g w=.ended (.done v) w es/\(∀e∈es,ja h w.heap.size e)/\p.Post v w
def Hq(w:World):Prop:=p.Base w/\p.Live w/\∃(V:Nat->Option Value)(S:Nat->Nat->Prop),p.mY V w/\(∀m,m<p.J->∃v,V m=some v/\p.hU m v (S m) w)/\(∀m b,m<p.J->S m b->p.fW.heap.size<=b/\b<w.heap.size)/\∀m a b,m<p.J->a<p.J->S m b->S a b->m=a
def D0(w w':World)(es:Array Event):Prop:=w'=w/\∀e∈es,(∃ad:Addr,ad.block=p.Wg/\(e=⟨.mark (.read ad),false,true⟩\/e=⟨.mark (.write ad),false,true⟩))\/(e.sync=false/\e.write=false/\∃b,gH e.loc=some b/\p.Fz b)
section
variable (AnchW:Goroutine->World->Prop)
def qi(g:Goroutine)(_:World):Prop:=g.status=.running/\∀w,p.Hq w->iO p.P true p.AtRet (p.EP w) g w
def AtAcq(g:Goroutine)(w:World):Prop:=
 g.status=.running/\∃g',stepG p.P true g w=.go g' w #[ConcR.mk (.acquire (stA p.Wg))]/\∃m,Goes p.P true p.RL p.D0 p.qi m g' w
def AtKe(g:Goroutine)(w:World):Prop:=
 g.status=.running/\∃g',stepG p.P true g w=.go g' w #[ConcR.mk .enable]/\∃m,Goes p.P true p.RL p.D0 p.AtAcq m g' w
def AtW4(g:Goroutine)(w:World):Prop:=
 g.status=.running/\(WgAt p.ty p.Wg w 0 0->∃g',stepG p.P true g w=.go g' w #[rd (stA p.Wg)]/\∃m,Goes p.P true p.RL p.D0 p.AtKe m g' w)
def AtW3(g:Goroutine)(w:World):Prop:=
 g.status=.running/\g.offers=none/\
  ((∃a,WgAt p.ty p.Wg w a 0)->stepG p.P true g w=.go {g with status:=.blocked} w #[])/\
  (WgAt p.ty p.Wg w 0 1->∃g',stepG p.P true g w=.go g' (w.setCell (smA p.Wg) (.int .u32 0)) (semEvents (smA p.Wg))/\∃m,Goes p.P true p.RL p.D0 p.AtW4 m g' (w.setCell (smA p.Wg) (.int .u32 0)))
def AtW2(vs:Nat)(g:Goroutine)(w:World):Prop:=
 g.status=.running/\∀v:Nat,v<2147483648->WgAt p.ty p.Wg w (v*KK) 0->
  (v=vs->∃g',stepG p.P true g w=.go g' (w.setCell (stA p.Wg) (.int .u64 (v*KK+1))) #[rd (stA p.Wg),wr (stA p.Wg)]/\∃m,Goes p.P true p.RL p.D0 p.AtW3 m g' (w.setCell (stA p.Wg) (.int .u64 (v*KK+1))))/\
  (v≠vs->∃g',stepG p.P true g w=.go g' w #[rd (stA p.Wg)]/\∃m,Goes p.P true p.RL p.D0 AnchW m g' w)
def AtW1(g:Goroutine)(w:World):Prop:=
 g.status=.running/\∀v:Nat,v<2147483648->WgAt p.ty p.Wg w (v*KK) 0->∃g',stepG p.P true g w=.go g' w #[rd (stA p.Wg)]/\
  (v=0->∃m,Goes p.P true p.RL p.D0 p.AtKe m g' w)/\(v≠0->∃m,Goes p.P true p.RL p.D0 (p.AtW2 AnchW v) m g' w)
def AtKd(g:Goroutine)(w:World):Prop:=
 g.status=.running/\∃g',stepG p.P true g w=.go g' w #[ConcR.mk .disable]/\∃m,Goes p.P true p.RL p.D0 AnchW m g' w
def ml:Nat->Goroutine->Prop
 |0,g=>g.status=.running/\mayWake p.P g=true/\∃g',g'.status=.running/\(∀w s r a,w.heap[p.ch]?=some (.chan 0 #[] false s r a)->stepG p.P true g w=.go g' (w.shut p.ch s r a) (closeEvents p.ch))/\
  ∀w,p.Live w->∃m,Goes p.P true p.RL p.D0 (p.AtKd AnchW) m g' w
 |i+1,g=>g.status=.running/\(∃z,∀w,stepG p.P true g w=.comm (core g) #[scase p.ch (.int .i64 ((p.J:Int)-(i+1:Nat))) z] true .send w #[])/\
  ∀w,p.Base w->∃m,Goes p.P true p.RL p.D0 (λg _=>ml i g) m (Conc.served (core g) undef) w
def AtGo(Next:Goroutine->World->Prop)(g:Goroutine)(w:World):Prop:=
 g.status=.running/\∃g' a,stepG p.P true g w=.spawn g' a w #[]/\a.status=.running/\(p.Base w->iO p.P false (λ_ g _=>p.Recv p.J g) p.eI a w)/\Next g' w
def AtKeS(Next:Goroutine->World->Prop)(g:Goroutine)(w:World):Prop:=
 g.status=.running/\∃g',stepG p.P true g w=.go g' w #[ConcR.mk .enable]/\∃m,Goes p.P true p.RL p.D0 (p.AtGo Next) m g' w
def AtA1(Next:Goroutine->World->Prop)(g:Goroutine)(w:World):Prop:=
 g.status=.running/\∀v:Nat,v<2147483647->WgAt p.ty p.Wg w (v*KK) 0->
  ∃g',stepG p.P true g w=.go g' (w.setCell (stA p.Wg) (.int .u64 ((v+1)*KK))) #[rd (stA p.Wg),wr (stA p.Wg)]/\
   ∃m,Goes p.P true p.RL p.D0 (p.AtKeS Next) m g' (w.setCell (stA p.Wg) (.int .u64 ((v+1)*KK)))
def AtKdS(Next:Goroutine->World->Prop)(g:Goroutine)(w:World):Prop:=
 g.status=.running/\∃g',stepG p.P true g w=.go g' w #[ConcR.mk .disable]/\∃m,Goes p.P true p.RL p.D0 (p.AtA1 Next) m g' w
def kV:Nat->Goroutine->World->Prop
 |0,g,w=>p.Base w->∃m,Goes p.P true p.RL p.D0 (λg _=>p.ml AnchW p.J g) m g w
 |r+1,g,w=>∃m,Goes p.P true p.RL p.D0 (p.AtKdS (kV r)) m g w
end
end cy
structure WX where
 stage:Nat
 tree:Tr
 deaf:Nat
 h:bG
 cur:Option Nat
 made:Nat->Prop
inductive dn where
 |sp (r s:Nat)|snd (i:Nat)|fR (i:Nat)|kd|anch|w1|w2 (vs:Nat)|w3|blk|w4|ke|acq|fin
def dn.dV:dn->CTag
 |.sp r s=>.sp r s
 |.snd _|.fR _|.kd=>.kd
 |.anch=>.anch
 |.w1=>.w1
 |.w2 vs=>.w2 vs
 |.w3=>.w3
 |.blk=>.blk
 |.w4=>.w4
 |.ke=>.ke
 |.acq=>.acq
 |.fin=>.ret
def dn.op:dn->Prop
 |.sp _ _|.snd _|.fR _=>True
 |_=>False
theorem eg.at(h:bG)(w:World)(d:Nat):eg h w (w.at d):=⟨X,X,X,dO _,λ_ _=>rfl⟩
theorem ka.refl(b:Nat)(w:World):ka b w w:=⟨X,X,X,X,λ_ _=>rfl⟩
theorem ka.rely{w w1:World}{f:Nat}{h:bG}(t:ka f w w1)(i:¬h.o f)(k:¬h.r f):eg h w w1:=
 ⟨t.tape,t.os,t.output,sK t.size.symm,λb l=>t.block b λe=>by subst e;exact l.elim i k⟩
theorem ka.base{p:cy}{w w1:World}{f:Nat}(t:ka f w w1)(l:¬p.Fz f)(b:p.Base w):p.Base w1:=
 ⟨t.tape.trans b.tape,t.os.trans b.os,t.output.trans b.output,by rw[t.size];exact b.size,λk i=>(t.block k λe=>l (e▸i)).trans (b.block k i)⟩
theorem ka.live{p:cy}{w w1:World}{e:Nat}(t:ka e w w1)(f:e≠p.Wg)(b:p.Live w):p.Live w1:=
 let⟨k,i,x⟩:=b;⟨k,i,by unfold WgAt at*;rw[t.block _ (Ne.symm f)];exact x⟩
namespace cy
variable (p:cy)
inductive WS(rem:Nat):Nat->Tr->Nat->bG->Option Nat->Goroutine->World->Prop
 |idle {r:Nat} {T:Tr} {h:bG} {g:Goroutine} {w:World}:rem<=r->h.r=p.Fz->Own p.P false (λ_ g _=>p.Recv r g) T h g w->WS rem 9 T 0 h none g w
 |pV {r:Nat} {h:bG} {g:Goroutine} {w:World}:rem<=r->h.r=p.Fz->p.Recv r g->WS rem 8 .leaf 0 h none (parked (core g) #[rcase p.ch z0] (.recv true)) w
 |fA {r m:Nat} {T:Tr} {h:bG} {g:Goroutine} {w:World}:rem<=r->h.r=p.Fz->Own p.P false (p.tX m (p.Recv r)) T h g w->WS rem 10 T 0 h (some m) g w
 |r0 {m:Nat} {h:bG} {g:Goroutine} {w:World}:Goes p.P false p.RL DC0 p.wD m g w->WS rem 7 (.nat m) 0 h none g w
 |k1 {m:Nat} {h:bG} {g:Goroutine} {w:World}:Goes p.P false p.RL DC0 p.DD m g w->WS rem 6 (.nat m) 0 h none g w
 |d1 {m:Nat} {h:bG} {g:Goroutine} {w:World}:Goes p.P false p.RL DC0 p.Dz m g w->WS rem 5 (.nat m) 1 h none g w
 |d2 {m:Nat} {h:bG} {g:Goroutine} {w:World}:Goes p.P false p.RL DC0 p.DA m g w->WS rem 4 (.nat m) 1 h none g w
 |d3 {m:Nat} {h:bG} {g:Goroutine} {w:World}:Goes p.P false p.RL DC0 p.DB m g w->WS rem 3 (.nat m) 1 h none g w
 |d4 {m:Nat} {h:bG} {g:Goroutine} {w:World}:Goes p.P false p.RL DC0 p.DC m g w->WS rem 2 (.nat m) 1 h none g w
 |quit {q d:Nat} {h:bG} {g:Goroutine} {w:World}:QuitsD p.P q d g->WS rem 1 (.nat q) d h none g w
def left:dn->Nat
 |.sp _ _=>p.J
 |.snd i=>i
 |.fR i=>i+1
 |_=>0
def ph(v:Nat):dn->Nat
 |.sp r s=>9*p.n+8+4*p.J+20+16*r+s
 |.snd i=>9*p.n+8+4*i+1
 |.fR i=>9*p.n+8+4*(i+1)
 |.kd=>8*p.n+7
 |.anch=>8*v+6
 |.w1=>8*v+5
 |.w2 vs=>8*vs+4
 |.w3=>5
 |.blk=>5
 |.w4=>4
 |.ke=>3
 |.acq=>2
 |.fin=>1
section
variable (AnchW:Goroutine->World->Prop)
inductive MS:dn->Nat->Tr->Nat->Goroutine->World->Prop
 |skd {r m:Nat} {g:Goroutine} {w:World}:r<p.n->Goes p.P true p.RL p.D0 (p.AtKdS (p.kV AnchW r)) m g w->MS (.sp r 5) (p.n-(r+1)) (.nat m) 0 g w
 |sa1 {r m:Nat} {g:Goroutine} {w:World}:r<p.n->Goes p.P true p.RL p.D0 (p.AtA1 (p.kV AnchW r)) m g w->MS (.sp r 4) (p.n-(r+1)) (.nat m) 1 g w
 |ske {r m:Nat} {g:Goroutine} {w:World}:r<p.n->Goes p.P true p.RL p.D0 (p.AtKeS (p.kV AnchW r)) m g w->MS (.sp r 3) (p.n-(r+1)) (.nat m) 1 g w
 |sgo {r m:Nat} {g:Goroutine} {w:World}:r<p.n->Goes p.P true p.RL p.D0 (p.AtGo (p.kV AnchW r)) m g w->MS (.sp r 2) (p.n-(r+1)) (.nat m) 0 g w
 |snd {i m:Nat} {g:Goroutine} {w:World}:i<=p.J->Goes p.P true p.RL p.D0 (λg _=>p.ml AnchW i g) m g w->MS (.snd i) p.n (.nat m) 0 g w
 |fR {i:Nat} {z:Value} {g:Goroutine} {w:World}:i<p.J->(∀w,p.Base w->∃m,Goes p.P true p.RL p.D0 (λg _=>p.ml AnchW i g) m (Conc.served (core g) undef) w)->MS (.fR i) p.n .leaf 0 (parked (core g) #[scase p.ch (.int .i64 ((p.J:Int)-(i+1:Nat))) z] .send) w
 |kd {m:Nat} {g:Goroutine} {w:World}:Goes p.P true p.RL p.D0 (p.AtKd AnchW) m g w->MS .kd p.n (.nat m) 0 g w
 |anch {m:Nat} {g:Goroutine} {w:World}:Goes p.P true p.RL p.D0 AnchW m g w->MS .anch p.n (.nat m) 1 g w
 |w1 {m:Nat} {g:Goroutine} {w:World}:Goes p.P true p.RL p.D0 (p.AtW1 AnchW) m g w->MS .w1 p.n (.nat m) 1 g w
 |w2 {vs m:Nat} {g:Goroutine} {w:World}:Goes p.P true p.RL p.D0 (p.AtW2 AnchW vs) m g w->MS (.w2 vs) p.n (.nat m) 1 g w
 |w3 {m:Nat} {g:Goroutine} {w:World}:Goes p.P true p.RL p.D0 p.AtW3 m g w->MS .w3 p.n (.nat (m+1)) 1 g w
 |blk {m:Nat} {g:Goroutine} {w:World}:(∀rK,p.RL w rK->p.AtW3 g rK)->MS .blk p.n (.nat m) 1 {g with status:=.blocked} w
 |w4 {m:Nat} {g:Goroutine} {w:World}:Goes p.P true p.RL p.D0 p.AtW4 m g w->MS .w4 p.n (.nat m) 1 g w
 |ke {m:Nat} {g:Goroutine} {w:World}:Goes p.P true p.RL p.D0 p.AtKe m g w->MS .ke p.n (.nat m) 1 g w
 |acq {m:Nat} {g:Goroutine} {w:World}:Goes p.P true p.RL p.D0 p.AtAcq m g w->MS .acq p.n (.nat m) 0 g w
 |fin {m:Nat} {g:Goroutine} {w:World}:Goes p.P true p.RL p.D0 p.qi m g w->MS .fin p.n (.nat m) 0 g w
end
section
variable {p:cy}{w w1 w2:World}{AnchW:Goroutine->World->Prop}
theorem RL.refl(w:World):p.RL w w:=⟨id,id⟩
theorem RL.trans(a:p.RL w w1)(b:p.RL w1 w2):p.RL w w2:=⟨b.1 ∘ a.1,b.2 ∘ a.2⟩
theorem jy:∀a b c,p.RL a b->p.RL b c->p.RL a c:=λ_ _ _=>RL.trans
theorem RL.at(w:World)(d:Nat):p.RL w (w.at d):=⟨id,λb=>⟨b.tape,b.os,b.output,b.size,b.block⟩⟩
variable {rem s d:Nat}{T:Tr}{h:bG}{c:Option Nat}{g:Goroutine}
theorem WS.rely(x:p.WS rem s T d h c g w)(r:eg h w w1)(rl:p.RL w w1):p.WS rem s T d h c g w1:=by
 cases x with
 |idle a b k=>exact .idle a b (k.rely r)
 |pV a b k=>exact .pV a b k
 |fA a b k=>exact .fA a b (k.rely r)
 |r0 k=>exact .r0 (Goes.rely jy k rl)
 |k1 k=>exact .k1 (Goes.rely jy k rl)
 |d1 k=>exact .d1 (Goes.rely jy k rl)
 |d2 k=>exact .d2 (Goes.rely jy k rl)
 |d3 k=>exact .d3 (Goes.rely jy k rl)
 |d4 k=>exact .d4 (Goes.rely jy k rl)
 |quit k=>exact .quit k
theorem WS.less{e:Nat}(x:p.WS rem s T d h c g w)(f:e<=rem):p.WS e s T d h c g w:=by
 cases x with
 |idle a b k=>exact .idle (iU f a) b k
 |pV a b k=>exact .pV (iU f a) b k
 |fA a b k=>exact .fA (iU f a) b k
 |r0 k=>exact .r0 k
 |k1 k=>exact .k1 k
 |d1 k=>exact .d1 k
 |d2 k=>exact .d2 k
 |d3 k=>exact .d3 k
 |d4 k=>exact .d4 k
 |quit k=>exact .quit k
theorem Recv.z{r:Nat}{g:Goroutine}(h:p.Recv r g):p.tY g:=by cases r with|zero=>exact h|succ r=>exact h.1
theorem Own.running{e:Bool}{S:bG->Goroutine->World->Prop}(i:∀h g w,S h g w->g.status=.running)(k:Own p.P e S T h g w):g.status=.running:=by
 cases T with
 |leaf=>exact i _ _ _ (k w (.refl _ _))
 |mk f=>exact k.1
theorem WS.status(x:p.WS rem s T d h c g w):(s≠8/\s≠1/\g.status=.running)\/(s=1/\(g.status=.running\/g.status=.finished))\/(s=8/\g.status=.blocked):=by
 cases x with
 |idle a b k=>exact .inl ⟨by omega,by omega,Own.running (λ_ _ _ x=>x.z.1) k⟩
 |pV a b k=>exact .inr (.inr ⟨X,X⟩)
 |fA a b k=>exact .inl ⟨by omega,by omega,Own.running (λ_ _ _ x=>x.1) k⟩
 |r0 k=>exact .inl ⟨by omega,by omega,Goes.running (λ_ _ x=>x.1) w (RL.refl w) k⟩
 |k1 k=>exact .inl ⟨by omega,by omega,Goes.running (λ_ _ x=>x.1) w (RL.refl w) k⟩
 |d1 k=>exact .inl ⟨by omega,by omega,Goes.running (λ_ _ x=>x.1) w (RL.refl w) k⟩
 |d2 k=>exact .inl ⟨by omega,by omega,Goes.running (λ_ _ x=>x.1) w (RL.refl w) k⟩
 |d3 k=>exact .inl ⟨by omega,by omega,Goes.running (λ_ _ x=>x.1) w (RL.refl w) k⟩
 |d4 k=>exact .inl ⟨by omega,by omega,Goes.running (λ_ _ x=>x.1) w (RL.refl w) k⟩
 |quit k=>exact .inr (.inl ⟨X,k.status⟩)
theorem WS.woken(x:p.WS rem s T d h c g w)(a a':Goroutine)(w':World)(l:s=8->∃s r f,w'.heap[p.ch]?=some (.chan 0 #[] false s r f)):woken p.P a a' w' g=g:=by
 rcases x.status with⟨_,_,e⟩|⟨_,e⟩|⟨e,_⟩
 .unfold Go.Conc.woken;split
  .exact again_running _ (.inl e)
  .rfl
 .unfold Go.Conc.woken;split
  .exact again_running _ e
  .rfl
 .obtain⟨n,m,f,i⟩:=l e
  cases x with
  |pV _ _ k=>exact woken_recv_open a a' i
  |_=>omega
variable {tag:dn}{j:Nat}{a:Goroutine}
theorem MS.rely(x:p.MS AnchW tag j T d a w)(rl:p.RL w w1):p.MS AnchW tag j T d a w1:=by
 cases x with
 |skd h k=>exact .skd h (Goes.rely jy k rl)
 |sa1 h k=>exact .sa1 h (Goes.rely jy k rl)
 |ske h k=>exact .ske h (Goes.rely jy k rl)
 |sgo h k=>exact .sgo h (Goes.rely jy k rl)
 |snd h k=>exact .snd h (Goes.rely jy k rl)
 |fR h k=>exact .fR h k
 |kd k=>exact .kd (Goes.rely jy k rl)
 |anch k=>exact .anch (Goes.rely jy k rl)
 |w1 k=>exact .w1 (Goes.rely jy k rl)
 |w2 k=>exact .w2 (Goes.rely jy k rl)
 |w3 k=>exact .w3 (Goes.rely jy k rl)
 |blk k=>exact .blk λw2 e=>k w2 (rl.trans e)
 |w4 k=>exact .w4 (Goes.rely jy k rl)
 |ke k=>exact .ke (Goes.rely jy k rl)
 |acq k=>exact .acq (Goes.rely jy k rl)
 |fin k=>exact .fin (Goes.rely jy k rl)
theorem ml.run{i:Nat}{g:Goroutine}(h:p.ml AnchW i g):g.status=.running:=by cases i<;>exact h.1
def dn.Ke:dn->Prop
 |.fR _|.blk=>True
 |_=>False
theorem MS.status(e:∀g w,AnchW g w->g.status=.running)(x:p.MS AnchW tag j T d a w):(a.status=.running/\¬dn.Ke tag)\/(a.status=.blocked/\dn.Ke tag):=by
 cases x with
 |skd _ k=>exact .inl ⟨Goes.running (λ_ _ x=>x.1) w (RL.refl w) k,id⟩
 |sa1 _ k=>exact .inl ⟨Goes.running (λ_ _ x=>x.1) w (RL.refl w) k,id⟩
 |ske _ k=>exact .inl ⟨Goes.running (λ_ _ x=>x.1) w (RL.refl w) k,id⟩
 |sgo _ k=>exact .inl ⟨Goes.running (λ_ _ x=>x.1) w (RL.refl w) k,id⟩
 |snd _ k=>exact .inl ⟨Goes.running (λ_ _ x=>x.run) w (RL.refl w) k,id⟩
 |fR _ k=>exact .inr ⟨X,bo⟩
 |kd k=>exact .inl ⟨Goes.running (λ_ _ x=>x.1) w (RL.refl w) k,id⟩
 |anch k=>exact .inl ⟨Goes.running e w (RL.refl w) k,id⟩
 |w1 k=>exact .inl ⟨Goes.running (λ_ _ x=>x.1) w (RL.refl w) k,id⟩
 |w2 k=>exact .inl ⟨Goes.running (λ_ _ x=>x.1) w (RL.refl w) k,id⟩
 |w3 k=>exact .inl ⟨Goes.running (λ_ _ x=>x.1) w (RL.refl w) k,id⟩
 |blk k=>exact .inr ⟨X,bo⟩
 |w4 k=>exact .inl ⟨Goes.running (λ_ _ x=>x.1) w (RL.refl w) k,id⟩
 |ke k=>exact .inl ⟨Goes.running (λ_ _ x=>x.1) w (RL.refl w) k,id⟩
 |acq k=>exact .inl ⟨Goes.running (λ_ _ x=>x.1) w (RL.refl w) k,id⟩
 |fin k=>exact .inl ⟨Goes.running (λ_ _ x=>x.1) w (RL.refl w) k,id⟩
theorem MS.wokenBy(i:∀g w,AnchW g w->g.status=.running)(x:p.MS AnchW tag j T d a w)(rl:p.RL w w1)(F:tag.op->∃s r t,w1.heap[p.ch]?=some (.chan 0 #[] false s r t))(g g':Goroutine):
 ∃tag' q,p.MS AnchW tag' j q d (woken p.P g g' w1 a) w1/\(tag'=tag/\q=T\/(tag=.blk/\tag'=.w3))/\(mayWake p.P g=true->g'.status=.running->tag'≠.blk):=by
 rcases x.status i with⟨e,D⟩|⟨e,hp⟩
 .refine⟨tag,T,?_,.inl ⟨X,X⟩,λ_ _ B=>by subst B;exact D bo⟩;have:Go.Conc.woken p.P g g' w1 a=a:=by
   unfold Go.Conc.woken;split
   .exact again_running _ (.inl e)
   .rfl
  rw[this];exact x.rely rl
 .cases x with
  |fR hi k=>obtain⟨L,K,t,C⟩:=F bo;rw[woken_send_open g g' C];exact⟨_,_,.fR hi k,.inl ⟨X,X⟩,λ_ _=>by simp⟩
  |@blk n H _ k=>
   obtain⟨_,f,_⟩:=k w (RL.refl w);by_cases l:(mayWake p.P g&&g'.status !=.blocked&&g'.status !=.waiting)=true
   .refine⟨.w3,.nat (n+1),?_,.inr ⟨X,X⟩,λ_ _=>by simp⟩;unfold Go.Conc.woken;rw[ce l,ConcR.again_blocked (k w (RL.refl w)).1 f];exact .w3 (m:=n) (Goes.stop λw2 o=>k w2 (rl.trans o))
   .refine⟨.blk,.nat n,?_,.inl ⟨X,X⟩,λy A=>by simp[y,A]at l⟩;unfold Go.Conc.woken;rw[ck l];exact .blk λw2 o=>k w2 (rl.trans o)
  |_=>exact hp.elim
theorem MS.bound(x:p.MS AnchW tag j T d a w):j+pend tag.dV<=p.n:=by cases x<;>simp only[dn.dV,pend]<;>(try simp)<;>omega
theorem W2{v e:Nat}(h:e<=v)(tag:dn):p.ph e tag<=p.ph v tag:=by cases tag<;>simp only[ph]<;>omega
end
end cy
end Go.Proofs.YtklkkoelldkncaaGreatDoor
namespace Go.Proofs.YtklkkoelldkncaaGreatDoor
open Go.Conc Go.ConcN
open Go.ConcR (KK wgBlock WgAt stA smA rd wr DC0 g_of_ofEvents)
structure cy.Ok(p:cy):Prop where
 out:∀V w w1,w1.heap[p.C]?=w.heap[p.C]?->p.mY V w->p.mY V w1
 res:∀m v S w w1,(∀b,S b->w1.heap[b]?=w.heap[b]?)->p.hU m v S w->p.hU m v S w1
 mg:∀m l,p.fE m l->gH l=some p.C
 FV:∀m m' l,p.fE m l->p.fE m' l->m=m'
 wc:p.Wg≠p.C
 wh:p.Wg≠p.ch
 ch:p.C≠p.ch
 ra:p.Wg<p.fW.heap.size
 Br:p.C<p.fW.heap.size
 xH:p.ch<p.fW.heap.size
 n1:1<=p.n
 nn:p.n<2147483648
namespace cy
variable (p:cy)
def kd(D:Nat->WX):Nat->WD:=λi=>⟨min (D i).stage 7,0,0⟩
def eH(j:Nat)(D:Nat->WX):Nat:=sumTo j λi=>(D i).stage
def Al(j:Nat)(D:Nat->WX)(bD:Nat)(ci:Nat->Nat)(k:Nat)(l:Loc):Prop:=
 (1<=k/\k<=j/\((∃b,gH l=some b/\(D (k-1)).made b)\/∃m,m<bD/\ci m=k-1/\p.fE m l))\/(k=0/\l=.obj p.ch)
def Re(l:Loc):Prop:=∃b,gH l=some b/\p.Fz b
def Un(N bD:Nat)(l:Loc):Prop:=(∃b,gH l=some b/\N<=b)\/∃m,bD<=m/\p.fE m l
structure Cm(gs:Array Goroutine)(w:World)(t:Trace)(j d0:Nat)(D:Nat->WX)(bD:Nat)(V:Nat->Option Value)(S:Nat->Nat->Prop)(ci:Nat->Nat):Prop where
 size:gs.size=j+1
 wk:∀i,i<j->∃g,gs[i+1]?=some g/\p.WS (p.J-bD) (D i).stage (D i).tree (D i).deaf (D i).h (D i).cur g w
 made:∀i,i<j->∀b,(D i).made b->p.fW.heap.size<=b/\b<w.heap.size
 sep:∀i i' b,i<j->i'<j->(D i).made b->(D i').made b->i=i'
 own:∀i,i<j->∀b,(D i).h.o b->(D i).made b
 hr:∀i,i<j->∀b,(D i).h.r b->p.Fz b
 cur:∀i,i<j->∀m,(D i).cur=some m->m<bD/\ci m=i/\V m=none
 fA:∀m,m<bD->ci m<j/\((∃v,V m=some v)\/(D (ci m)).cur=some m)
 res:∀m v,V m=some v->m<bD/\p.hU m v (S m) w/\∀b,S m b->(D (ci m)).made b/\¬(D (ci m)).h.o b
 p7:∀m m' b,S m b->S m' b->V m≠none->V m'≠none->m=m'
 ti:TI (ShN p.Wg) (p.Al j D bD ci) p.Re (p.Un w.heap.size bD) t j
 norel:NoRelease (stA p.Wg) t
 deaf0:Deaf t 0=d0
 deafW:∀i,i<j->Deaf t (i+1)=(D i).deaf
 rel:∀i,i<j->(D i).stage<=6->∃r,RelBy (stA p.Wg) t (i+1) r
 base:p.Base w
 out:p.mY V w
structure gF(w:World)(j:Nat)(tag:dn)(D:Nat->WX):Prop where
 op:tag.op->(∃s r tm,w.heap[p.ch]?=some (.chan 0 #[] false s r tm))/\∀i,i<j->8<=(D i).stage
 sh:¬tag.op->(∃s r tm,w.heap[p.ch]?=some (.chan 0 #[] true s r tm))/\∀i,i<j->(D i).stage≠8
 fR:∀i,tag=.fR i->∀i',i'<j->(D i').stage≠8
def fF(D:Nat->WX):Nat->Tr:=λi=>(D i).tree
def M3(a b:Nat×((Nat->Tr)×Tr)):Prop:=Prod.Lex (·<·) (Prod.Lex (nV p.n) Tr.lt) a b
theorem M3.wf:WellFounded p.M3:=(Prod.lex Nat.lt_wfRel (Prod.lex ⟨nV p.n,⟨nV.acc p.n⟩⟩ ⟨Tr.lt,⟨Tr.acc⟩⟩)).wf
variable (AnchW:Goroutine->World->Prop)
def jP(f:Nat×((Nat->Tr)×Tr))(m:Machine)(t:Trace):Prop:=
 ∃(gs:Array Goroutine)(w:World)(sl:Option (Nat×Nat))(j d0:Nat)(tag:dn)(D:Nat->WX)(bD:Nat)(V:Nat->Option Value)(S:Nat->Nat->Prop)(ci:Nat->Nat)(T0:Tr)(a:Goroutine)(e d:Int),
  m=crowd gs w sl/\gs[0]?=some a/\p.MS AnchW tag j T0 d0 a w/\p.Cm gs w t j d0 D bD V S ci/\WgAt p.ty p.Wg w e d/\ConcN.Mode j (kd D) tag.dV e d/\p.gF w j tag D/\bD+p.left tag=p.J/\
  (tag=.fin->AcqAll p.Wg j t)/\f=(p.ph (Vc j (kd D)) tag+eH j D,fF D,T0)
section
variable {p:cy}{AnchW:Goroutine->World->Prop}{gs:Array Goroutine}{w w':World}{sl:Option (Nat×Nat)}{t:Trace}{j d0:Nat}{D:Nat->WX}{bD:Nat}{V V':Nat->Option Value}{S S':Nat->Nat->Prop}{ci:Nat->Nat}{T0:Tr}{a:Goroutine}{tag:dn}
theorem qn{l:Loc}(h:ShN p.Wg l):gH l=some p.Wg:=by obtain⟨a,rfl,e⟩:=h;simp[gH,e]
theorem wI(k:p.Ok)(s:∀i,i<j->∀b,(D i).made b->p.fW.heap.size<=b/\b<w.heap.size)(hs:∀i M b,i<j->M<j->(D i).made b->(D M).made b->i=M)(hb:p.fW.heap.size<=w.heap.size):
 zI (ShN p.Wg) (p.Al j D bD ci) p.Re (p.Un w.heap.size bD):=by
 have d:∀{l:Loc}{b o:Nat},gH l=some b->gH l=some o->b=o:=λe e'=>dF (e.symm.trans e');have hC:=k.Br;have hW:=k.ra;have hH:=k.xH;have n:gH (.obj p.ch)=some p.ch:=X;have A:∀q l,(1<=q/\q<=j/\((∃b,gH l=some b/\(D (q-1)).made b)\/∃m,m<bD/\ci m=q-1/\p.fE m l))->l≠.obj p.ch:=by
  rintro q l ⟨B,C,x⟩ rfl;rcases x with⟨b,e,x⟩|⟨m,e,f,x⟩
  .have:=d n e;have:=(s _ O b x).1;omega
  .exact k.ch (d (k.mg _ _ x) n)
 refine⟨?_,?_,?_,?_,?_,?_,?_⟩
 .rintro q q' l (y|⟨H,y2⟩) (y'|⟨P,Q⟩)
  rotate_left
  .exact absurd Q (A _ _ y)
  .exact absurd y2 (A _ _ y')
  .rw[H,P]
  obtain⟨B,C,x⟩:=y;obtain⟨h1',h2',h⟩:=y';rcases x with⟨b,e,x⟩|⟨m,e,f,x⟩<;>rcases h with⟨o,e',h⟩|⟨W,e',f',h⟩
  .have:=hs _ _ b O O x (d e' e▸h);omega
  .have:=d e (k.mg _ _ h);have:=(s _ O b x).1;omega
  .have:=d e' (k.mg _ _ x);have:=(s _ O o h).1;omega
  .have:=k.FV _ _ _ x h;subst this;omega
 .rintro q l (⟨B,C,x⟩|⟨H,rfl⟩) ⟨o,e',T,K,L,F⟩
  rotate_left
  .exact L (d e' n)
  rcases x with⟨b,e,x⟩|⟨m,e,f,x⟩
  .have:=d e e';have:=(s _ O b x).1;omega
  .exact F (d e' (k.mg _ _ x))
 .rintro q l (⟨B,C,x⟩|⟨H,rfl⟩) h
  rotate_left
  .rcases h with⟨o,e',h⟩|⟨W,e',h⟩
   .have:=d n e';omega
   .exact k.ch (d (k.mg _ _ h) n)
  rcases x with⟨b,e,x⟩|⟨m,e,f,x⟩<;>rcases h with⟨o,e',h⟩|⟨W,e',h⟩
  .have:=d e e';have:=(s _ O b x).2;omega
  .have:=d e (k.mg _ _ h);have:=(s _ O b x).1;omega
  .have:=d e' (k.mg _ _ x);omega
  .have:=k.FV _ _ _ x h;omega
 .rintro q l (⟨B,C,x⟩|⟨H,rfl⟩) g
  rotate_left
  .exact k.wh (d (qn g) n)
  rcases x with⟨b,e,x⟩|⟨m,e,f,x⟩
  .have:=d e (qn g);have:=(s _ O b x).1;omega
  .exact k.wc (d (qn g) (k.mg _ _ x))
 .rintro l ⟨o,e',T,K,L,F⟩ x;rcases x with⟨b,e,x⟩|⟨m,e,x⟩
  .have:=d e e';omega
  .exact F (d e' (k.mg _ _ x))
 .rintro l ⟨o,e',T,K,L,F⟩ g;exact K (d e' (qn g))
 .rintro l x g;rcases x with⟨b,e,x⟩|⟨m,e,x⟩
  .have:=d e (qn g);omega
  .exact k.wc (d (qn g) (k.mg _ _ x))
theorem Cm.wI(k:p.Ok)(h:p.Cm gs w t j d0 D bD V S ci):zI (ShN p.Wg) (p.Al j D bD ci) p.Re (p.Un w.heap.size bD):=cy.wI k h.made h.sep h.base.size
theorem Cm.at(h:p.Cm gs w t j d0 D bD V S ci)(k:p.Ok)(d:Nat):p.Cm gs (w.at d) t j d0 D bD V S ci:=
 {h with wk:=λi hi=>let⟨g,f,x⟩:=h.wk i hi;⟨g,f,x.rely (.at _ w d) (RL.at w d)⟩,made:=h.made,res:=λm v e=>let⟨a,b,c⟩:=h.res m v e;⟨a,k.res _ _ _ w _ (λ_ _=>rfl) b,c⟩,ti:=h.ti,base:=(RL.at w d).2 h.base,out:=k.out _ w _ X h.out}
theorem Bs{i:Nat}{d:WX}(h:d.made=λb=>(D i).made b\/(w.heap.size<=b/\b<w'.heap.size)){b f:Nat}(x:(upd D i d f).made b):(D f).made b\/(f=i/\w.heap.size<=b/\b<w'.heap.size):=by
 by_cases e:f=i
 .subst e;rw[upd_same,h]at x;exact x.imp id λx=>⟨X,x⟩
 .rw[upd_ne D _ e]at x;exact .inl x
theorem stepW(k:p.Ok)(lu:∀g w,AnchW g w->g.status=.running)(ha:gs[0]?=some a)(pk:p.MS AnchW tag j T0 d0 a w)(h:p.Cm gs w t j d0 D bD V S ci)(hc:p.gF w j tag D)(hl:bD+p.left tag=p.J)(pj:j<=p.n)
 {i:Nat} (hi:i<j) {g g':Goroutine} {es:Array Event} {d:WX} {st' sm':Int} (hg:gs[i+1]?=some g) (hgo:stepG p.P false g w=.go g' w' es)
 (rl:p.RL w w') (pl:∀n,n<j->n≠i->eg (D n).h w w') (sD:p.WS (p.J-bD) d.stage d.tree d.deaf d.h d.cur g' w')
 (A:d.made=λb=>(D i).made b\/(w.heap.size<=b/\b<w'.heap.size)) (pm:w.heap.size<=w'.heap.size) (Ut:∀b,d.h.o b->d.made b) (Ey:∀b,d.h.r b->p.Fz b)
 (Tw:∀m,d.cur=some m->m<bD/\ci m=i/\V' m=none) (hV:∀m,ci m≠i->V' m=V m) (TS:∀m,m<bD->ci m=i->(∃v,V' m=some v)\/d.cur=some m)
 (UD:∀m v,V' m=some v->m<bD/\p.hU m v (S' m) w'/\∀b,S' m b->(upd D i d (ci m)).made b/\¬(upd D i d (ci m)).h.o b)
 (UJ:∀m m' b,S' m b->S' m' b->V' m≠none->V' m'≠none->m=m')
 (mv:∀op∈MemOp.ofEvents (i+1) g.frame.fn g.frame.place es,rX (ShN p.Wg) (p.Al j (upd D i d) bD ci) p.Re (i+1) op) (EN:∀e∈es,e.loc≠.mark (.release (stA p.Wg)))
 (W:deafBehind (D i).deaf es=d.deaf) (hrel:d.stage<=6->∃r,RelBy (stA p.Wg) (t++MemOp.ofEvents (i+1) g.frame.fn g.frame.place es) (i+1) r)
 (EQ:p.mY V' w') (iT:WgAt p.ty p.Wg w' st' sm') (Uf:∀tag':dn,(tag'=tag\/(tag=.blk/\tag'=.w3))->(mayWake p.P g=true->g'.status=.running->tag'≠.blk)->ConcN.Mode j (kd (upd D i d)) tag'.dV st' sm')
 (uj:w'.heap[p.ch]?=w.heap[p.ch]?) (h8:d.stage≠8) (nq:tag.op->8<=d.stage) (xa:tag=.fin->AcqAll p.Wg j (t++MemOp.ofEvents (i+1) g.frame.fn g.frame.place es))
 (B:d.stage<(D i).stage\/(d.stage=(D i).stage/\d.tree.lt (D i).tree)):
 ∃T ops gw,runT p.P (crowd gs w sl) (i+1)=(.next T,ops)/\p.M3 gw (p.ph (Vc j (kd D)) tag+eH j D,fF D,T0)/\p.jP AnchW gw T (t++ops):=by
 have H:tag.op->∃s r tm,w'.heap[p.ch]?=some (.chan 0 #[] false s r tm):=λx=>by rw[uj];exact(hc.op x).1
 obtain⟨tag',T',EK,o,UZ⟩:=pk.wokenBy lu rl H g g';have jr:=runT_crowd_go (P:=p.P) (sl:=sl) (i:=i+1) hg (by simpa using hgo);have C:tag'.op↔tag.op:=by
  rcases o with⟨rfl,_⟩|⟨rfl,rfl⟩
  .exact Iff.rfl
  .exact Iff.rfl
 have Tu:p.gF w' j tag' (upd D i d):=by
  refine⟨λx=>⟨H (C.1 x),λn f=>?_⟩,λx=>⟨by rw[uj];exact(hc.sh (λy=>x (C.2 y))).1,λn f=>?_⟩,λq hq n f=>?_⟩
  .by_cases e:n=i
   .subst e;rw[upd_same];exact nq (C.1 x)
   .rw[upd_ne D _ e];exact(hc.op (C.1 x)).2 n f
  .by_cases e:n=i
   .subst e;rw[upd_same];exact h8
   .rw[upd_ne D _ e];exact(hc.sh (λy=>x (C.2 y))).2 n f
  .by_cases e:n=i
   .subst e;rw[upd_same];exact h8
   .rw[upd_ne D _ e];rcases o with⟨rfl,_⟩|⟨rfl,rfl⟩
    .exact hc.fR q hq n f
    .cases hq
 have uq:∀n,n<j->∀b,(upd D i d n).made b->p.fW.heap.size<=b/\b<w'.heap.size:=λn f b x=>by
  rcases Bs A x with x|⟨_,F,K⟩
  .have:=h.made n f b x;omega
  .have:=h.base.size;omega
 have Q:∀n M b,n<j->M<j->(upd D i d n).made b->(upd D i d M).made b->n=M:=λn M b F K x y=>by
  rcases Bs A x with x|⟨e,h3,h4⟩<;>rcases Bs A y with y|⟨e',h5,h6⟩
  .exact h.sep _ _ b F K x y
  .have:=(h.made _ F b x).2;omega
  .have:=(h.made _ K b y).2;omega
  .omega
 have hA:=cy.wI (bD:=bD) (ci:=ci) k uq Q (rl.2 h.base).size
 have UO:TI (ShN p.Wg) (p.Al j (upd D i d) bD ci) p.Re (p.Un w'.heap.size bD) t j:=h.ti.Gr (λq hq l x=>by
  rcases x with⟨F,K,x⟩|x
  rotate_left
  .exact .inl (.inr x)
  rcases x with⟨b,e,x⟩|x
  .rcases Bs A x with x|⟨_,h3,h4⟩
   .exact .inl (.inl ⟨F,K,.inl ⟨b,e,x⟩⟩)
   .exact .inr (.inl ⟨b,e,h3⟩)
  .exact .inl (.inl ⟨F,K,.inr x⟩)) (λl x=>.inl x) (λl x=>x.imp (λ⟨b,e,F⟩=>⟨b,e,by omega⟩) id)
 have np:p.Cm ((gs.map (Go.Conc.woken p.P g g' w')).setIfInBounds (i+1) g') w' (t++MemOp.ofEvents (i+1) g.frame.fn g.frame.place es) j d0 (upd D i d) bD V' S' ci:=by
  refine⟨by simp[h.size],λn f=>?_,uq,Q,λn f b x=>?_,λn f b x=>?_,λn f m x=>?_,λm hm=>?_,UD,UJ,UO.app hA O mv,h.norel.app (norel_of EN),by rw[Deaf_other t O _ g_of_ofEvents,h.deaf0],λn f=>?_,λn f L=>?_,rl.2 h.base,EQ⟩
  .by_cases e:n=i
   .subst e;exact⟨g',get_map_set_same _ _ _ (by rw[h.size];omega),by rw[upd_same];exact sD⟩
   .obtain⟨x,hx,sE⟩:=h.wk n f;have U1:=sE.woken g g' w' λSF=>by
     by_cases ht:tag.op
     .exact H ht
     .exact absurd SF ((hc.sh ht).2 n f)
    exact⟨x,by rw[get_map_set _ _ _ _ O,hx,mB,U1],by rw[upd_ne D _ e];exact sE.rely (pl n f e) rl⟩
  .by_cases e:n=i
   .subst e;rw[upd_same]at x ⊢;exact Ut b x
   .rw[upd_ne D _ e]at x ⊢;exact h.own n f b x
  .by_cases e:n=i
   .subst e;rw[upd_same]at x;exact Ey b x
   .rw[upd_ne D _ e]at x;exact h.hr n f b x
  .by_cases e:n=i
   .subst e;rw[upd_same]at x;exact Tw m x
   .rw[upd_ne D _ e]at x;obtain⟨F,K,h3⟩:=h.cur n f m x;exact⟨F,K,by rw[hV m O];exact h3⟩
  .obtain⟨F,K⟩:=h.fA m hm;refine⟨F,?_⟩;by_cases e:ci m=i
   .rw[e,upd_same];exact TS m hm e
   .rw[upd_ne D _ e,hV m e];exact K
  .by_cases e:n=i
   .subst e;rw[Deaf_own,h.deafW n f,upd_same];exact W
   .rw[Deaf_other t O _ g_of_ofEvents,h.deafW n f,upd_ne D _ e]
  .by_cases e:n=i
   .subst e;rw[upd_same]at L;exact hrel L
   .rw[upd_ne D _ e]at L;obtain⟨r,hr⟩:=h.rel n f L;exact⟨r,hr.appOther g_of_ofEvents O⟩
 refine⟨_,_,(p.ph (Vc j (kd (upd D i d))) tag'+eH j (upd D i d),fF (upd D i d),T'),jr,?_,_,w',sl,j,d0,tag',upd D i d,bD,V',S',ci,T',Go.Conc.woken p.P g g' w' a,st',sm',X,by rw[get_map_set _ _ _ _ O,ha];rfl,EK,np,iT,Uf tag' (o.imp And.left id) UZ,Tu,?_,?_,X⟩
 .have e1:=sumTo_upd D d (λx=>x.stage) hi;have e2:=sumTo_upd D d (λx=>ConcN.cnt ⟨min x.stage 7,0,0⟩) hi;have Sc:∀v,p.ph v tag'=p.ph v tag:=λv=>by
   rcases o with⟨rfl,_⟩|⟨rfl,rfl⟩<;>rfl
  rw[Sc];have R9:∀x:Nat,ConcN.cnt ⟨min x 7,0,0⟩=if 5<=x then 1 else 0:=λx=>by
   simp only[ConcN.cnt];by_cases e:5<=x
   .rw[ce O,ce e]
   .rw[ck O,ck e]
  have JY:Vc j (kd (upd D i d))<=Vc j (kd D)/\(d.stage=(D i).stage->Vc j (kd (upd D i d))=Vc j (kd D)):=by
   simp only[Vc,kd]at*
   simp only[R9]at e2 ⊢;refine⟨?_,λe=>?_⟩
   .rcases B with B|⟨B,_⟩
    .have:(if 5<=d.stage then 1 else 0)<=(if 5<=(D i).stage then 1 else 0):=by split<;>split<;>omega
     omega
    .rw[B]at e2;omega
   .rw[e]at e2;omega
  simp only[eH];rcases B with B|⟨B,ht⟩
  .refine Prod.Lex.left _ _ ?_;have:=W2 (p:=p) JY.1 tag;omega
  .rw[JY.2 B];have:(sumTo j λn=>(upd D i d n).stage)=sumTo j λi=>(D i).stage:=by omega
   rw[this];refine Prod.Lex.right _ (Prod.Lex.left _ _ ⟨i,by omega,?_,λq hq=>?_⟩)
   .simp only[fF,upd_same];exact ht
   .simp only[fF,upd_ne D _ hq]
 .rcases o with⟨rfl,_⟩|⟨rfl,rfl⟩<;>exact hl
 .intro e;rcases o with⟨rfl,_⟩|⟨rfl,rfl⟩
  .exact xa e
  .cases e
theorem Gm(k:p.Ok)(ha:gs[0]?=some a)(h:p.Cm gs w t j d0 D bD V S ci)(hl:bD+p.left tag=p.J)
 {a':Goroutine} {es:Array Event} {tag':dn} {K:Tr} {st' sm':Int} (T:stepG p.P true a w=.go a' w' es)
 (rl:p.RL w w') (y:∀i,i<j->eg (D i).h w w') (F:w'.heap.size=w.heap.size) (A:∀b,p.fW.heap.size<=b->w'.heap[b]?=w.heap[b]?) (hC:w'.heap[p.C]?=w.heap[p.C]?)
 (mv:∀op∈MemOp.ofEvents 0 a.frame.fn a.frame.place es,rX (ShN p.Wg) (p.Al j D bD ci) p.Re 0 op) (EN:∀e∈es,e.loc≠.mark (.release (stA p.Wg)))
 (q:p.MS AnchW tag' j K (deafBehind d0 es) a' w') (iT:WgAt p.ty p.Wg w' st' sm') (g:ConcN.Mode j (kd D) tag'.dV st' sm') (UW:∀i,i<j->(D i).stage=8->∃s r tm,w'.heap[p.ch]?=some (.chan 0 #[] false s r tm)) (o:p.gF w' j tag' D) (W:p.left tag'=p.left tag)
 (n:tag'=.fin->AcqAll p.Wg j (t++MemOp.ofEvents 0 a.frame.fn a.frame.place es))
 (av:p.ph (Vc j (kd D)) tag'<p.ph (Vc j (kd D)) tag\/(p.ph (Vc j (kd D)) tag'=p.ph (Vc j (kd D)) tag/\K.lt T0)):
 ∃f ops H,runT p.P (crowd gs w sl) 0=(.next f,ops)/\p.M3 H (p.ph (Vc j (kd D)) tag+eH j D,fF D,T0)/\p.jP AnchW H f (t++ops):=by
 have B:=runT_crowd_go (P:=p.P) (sl:=sl) (i:=0) ha (by simpa using T);have Q:p.Cm ((gs.map (Go.Conc.woken p.P a a' w')).setIfInBounds 0 a') w' (t++MemOp.ofEvents 0 a.frame.fn a.frame.place es) j (deafBehind d0 es) D bD V S ci:=by
  refine⟨by simp[h.size],λl d=>?_,λi hi b x=>by rw[F];exact h.made i hi b x,h.sep,h.own,h.hr,h.cur,h.fA,λm v e=>?_,h.p7,?_,h.norel.app (norel_of EN),by rw[Deaf_own,h.deaf0],λl d=>?_,λl d iS=>?_,rl.2 h.base,k.out _ w _ hC h.out⟩
  .obtain⟨x,hx,C⟩:=h.wk l d;exact⟨x,by rw[get_map_set _ _ _ _ O,hx,mB,C.woken a a' w' (UW l d)],C.rely (y l d) rl⟩
  .obtain⟨L,M,h3⟩:=h.res m v e;have hj:=(h.fA m L).1;exact⟨L,k.res _ _ _ w _ (λb x=>A b (h.made _ hj b (h3 b x).1).1) M,h3⟩
  .rw[F];exact h.ti.app (h.wI k) (jF _) mv
  .rw[Deaf_other t O _ g_of_ofEvents,h.deafW l d]
  .obtain⟨r,hr⟩:=h.rel l d iS;exact⟨r,hr.appOther g_of_ofEvents O⟩
 refine⟨_,_,(p.ph (Vc j (kd D)) tag'+eH j D,fF D,K),B,?_,_,w',sl,j,_,tag',D,bD,V,S,ci,K,a',st',sm',X,get_map_set_same _ _ _ (by rw[h.size];omega),q,Q,iT,g,o,by rw[W];exact hl,n,X⟩;rcases av with h|⟨L,M⟩
 .exact Prod.Lex.left _ _ O
 .rw[L];exact Prod.Lex.right _ (Prod.Lex.right _ M)
end
end cy
theorem Ft{e:Event}(g:e.sync=false){b:Nat}(f:gH e.loc=some b):(MemAct.ofEvent e).touch? =some ⟨e.loc,e.write,.plain⟩:=by
 obtain⟨d,wr,h⟩:=e;simp only at g f;subst g;cases d<;>first|(cases wr<;>rfl)|simp[gH]at f
theorem Hb{g:Nat}{h:bG}{n:Nat}{Al:Nat->Loc->Prop}{Re:Loc->Prop}{o:Loc->Prop}{fn:FuncId}{pos:String}{es:Array Event}(y:∀e∈es,ja h n e)
 (s:∀l b,gH l=some b->h.o b->Al g l) (f:∀l b,gH l=some b->h.r b->Re l\/Al g l):∀op∈MemOp.ofEvents g fn pos es,rX o Al Re g op:=by
 intro op k;rw[ofEvents_eq]at k;obtain⟨e,B,rfl⟩:=pp.1 k;refine⟨X,λx d=>?_⟩;rcases y e B with q|⟨A,b,m,i⟩
 .simp only[ConcR.ofEvent_loc_mark q]at d;cases d
 .simp only[Ft A m,gU]at d;subst d;rcases i with i|⟨i,hd⟩
  .exact .inr (.inl ⟨s _ b m i,by simp⟩)
  .rcases f _ b m hd with f|f
   .exact .inr (.inr ⟨f,i,by simp⟩)
   .exact .inr (.inl ⟨f,by simp⟩)
theorem ja.mark{h:bG}{n:Nat}{e:Event}(i:ja h n e):∀m,e.loc=.mark m->m=.noRoom:=by
 intro m d;rcases i with g|⟨_,b,f,_⟩
 .rw[g]at d;cases d;rfl
 .rw[d]at f;cases f
theorem ja.idle{h:bG}{n d:Nat}{es:Array Event}(g:∀e∈es,ja h n e):deafBehind d es=d:=
 deafBehind_idle (λe i=>⟨λf=>(by cases ja.mark (g e i) _ f),λf=>(by cases ja.mark (g e i) _ f)⟩) d
theorem ja.norel{h:bG}{n:Nat}{es:Array Event}{a:Addr}(d:∀e∈es,ja h n e):∀e∈es,e.loc≠.mark (.release a):=λe g f=>(by cases ja.mark (d e g) _ f)
namespace cy
section
variable {p:cy}{AnchW:Goroutine->World->Prop}{gs:Array Goroutine}{w w':World}{sl:Option (Nat×Nat)}{t:Trace}{j d0:Nat}{D:Nat->WX}{bD:Nat}{V:Nat->Option Value}{S:Nat->Nat->Prop}{ci:Nat->Nat}{T0:Tr}{a:Goroutine}{tag:dn}
theorem Mode.keep{j:Nat}{D d:Nat->WX}{tag tag':dn}{f e:Int}(g:ConcN.Mode j (kd D) tag.dV f e)(h:∀i,i<j->min (d i).stage 7=min (D i).stage 7)(k:tag'=tag\/(tag=.blk/\tag'=.w3)):ConcN.Mode j (kd d) tag'.dV f e:=by
 refine ConcN.Mode.retag (ConcN.Mode.congr (λi hi=>?_) g) ?_
 .exact h i hi
 .rcases k with rfl|⟨rfl,rfl⟩
  .exact .inl X
  .exact .inr ⟨X,X⟩
theorem KI(k:p.Ok)(lu:∀g w,AnchW g w->g.status=.running)(ha:gs[0]?=some a)(pk:p.MS AnchW tag j T0 d0 a w)(h:p.Cm gs w t j d0 D bD V S ci)(hc:p.gF w j tag D)(hl:bD+p.left tag=p.J)(pj:j<=p.n)
 {W Q:Int} (iT:WgAt p.ty p.Wg w W Q) (C:ConcN.Mode j (kd D) tag.dV W Q) (K:tag≠.fin)
 {i s:Nat} (hi:i<j) {g:Goroutine} (hg:gs[i+1]?=some g) {St:bG->Goroutine->World->Prop} {f:World->Tr} {hh:bG} {c:Option Nat} (L:(D i).stage=s) (mw:(D i).tree=.mk f) (lC:(D i).deaf=0) (AK:(D i).h=hh) (la:(D i).cur=c) (h8:9<=s)
 (hr:hh.r=p.Fz) (hO:Own p.P false St (.mk f) hh g w) (P:∀T h' g' w',h'.r=p.Fz->Own p.P false St T h' g' w'->p.WS (p.J-bD) s T 0 h' c g' w'):
 ∃B ops gw,runT p.P (crowd gs w sl) (i+1)=(.next B,ops)/\p.M3 gw (p.ph (Vc j (kd D)) tag+eH j D,fF D,T0)/\p.jP AnchW gw B (t++ops):=by
 obtain⟨_,hO⟩:=hO;obtain⟨g',w',es,hgo,n,Ex⟩:=hO w (.refl _ _);subst AK la;have og:∀b,b<p.fW.heap.size->¬(D i).h.o b:=λb A x=>by have:=(h.made i hi b (h.own i hi b x)).1;omega
 have ac4:=h.base.size;have keep:∀b,b<p.fW.heap.size->w'.heap[b]?=w.heap[b]?:=λb A=>n.keep b O (og b A);have rl:p.RL w w':=⟨λ⟨W,Q,x⟩=>⟨W,Q,by unfold WgAt at*;rw[keep _ k.ra];exact x⟩,λb=>⟨n.tape.trans b.tape,n.os.trans b.os,n.output.trans b.output,iU b.size n.size,λq hq=>(keep q hq.1).trans (b.block q hq)⟩⟩
 have F:∀m v,V m=some v->∀b,S m b->b<w.heap.size/\¬(D i).h.o b:=λm v e b x=>by obtain⟨h1,_,H⟩:=h.res m v e;have hj:=(h.fA m h1).1;refine⟨(h.made _ hj b (H b x).1).2,λy=>?_⟩;have:=h.sep _ _ b hj hi (H b x).1 (h.own i hi b y);subst this;exact(H b x).2 y
 have EC:∀b,((D i).h.grow w w').o b->(D i).made b\/(w.heap.size<=b/\b<w'.heap.size):=λb x=>x.imp (h.own i hi b) id
 refine stepW (V':=V) (S':=S) (d:=⟨s,f w,0,(D i).h.grow w w',(D i).cur,λb=>(D i).made b\/(w.heap.size<=b/\b<w'.heap.size)⟩) k lu ha pk h hc hl pj hi hg hgo rl (λM o mt=>?_) (P _ _ _ _ hr Ex) X n.size EC (λb x=>by rw[<-hr];exact x)
  (h.cur i hi) (λ_ _=>rfl) (λm hm e=>by have:=(h.fA m hm).2;rw[e]at this;exact this) (λm v e=>?_) h.p7 (Hb n.ev (λl b e x=>.inl ⟨by omega,by omega,.inl ⟨b,e,?_⟩⟩) (λl b e x=>.inl ⟨b,e,by rw[<-hr];exact x⟩))
  (ja.norel n.ev) (by rw[lC];exact ja.idle n.ev) (λx=>by simp only at x;omega) (k.out _ w _ (keep _ k.Br) h.out) (st':=W) (sm':=Q) (by unfold WgAt at*;rw[keep _ k.ra];exact iT)
  (λtag' ht _=>Mode.keep C (λM o=>?_) ht) (keep _ k.xH) (by simp only;omega) (λ_=>by simp only;omega) (λe=>absurd e K) (.inr ⟨L.symm,by rw[mw];exact⟨w,X⟩⟩)
 .refine⟨n.tape,n.os,n.output,n.size,λb A=>?_⟩;rcases A with A|A
  .have hm:=h.own M o b A;exact n.keep b (h.made M o b hm).2 λy=>mt (h.sep _ _ b o hi hm (h.own i hi b y))
  .exact keep b (h.hr M o b A).1
 .obtain⟨h1,h2,H⟩:=h.res m v e;refine⟨h1,k.res _ _ _ w _ (λb x=>n.keep b (F m v e b x).1 (F m v e b x).2) h2,λb x=>?_⟩;by_cases ei:ci m=i
  .rw[ei,upd_same];have:=H b x;rw[ei]at this;exact⟨.inl this.1,λy=>y.elim this.2 λy=>by have:=(F m v e b x).1;omega⟩
  .rw[upd_ne D _ ei];exact H b x
 .simp only[Nat.add_sub_cancel,upd_same];exact .inl (h.own i hi b x)
 .by_cases e:M=i
  .subst e;rw[upd_same,L]
  .rw[upd_ne D _ e]
end
end cy
end Go.Proofs.YtklkkoelldkncaaGreatDoor
namespace Go.Proofs.YtklkkoelldkncaaGreatDoor
open Go.Conc Go.ConcN
open Go.ConcR (KK wgBlock WgAt stA smA rd wr DC0 g_of_ofEvents Bk ofEvent_loc_mark ofEvent_cell bk_of_mute)
namespace cy
section
variable {p:cy}{AnchW:Goroutine->World->Prop}{gs:Array Goroutine}{w w':World}{sl:Option (Nat×Nat)}{t:Trace}{j d0:Nat}{D:Nat->WX}{bD:Nat}{V:Nat->Option Value}{S:Nat->Nat->Prop}{ci:Nat->Nat}{T0:Tr}{a:Goroutine}{tag:dn}
theorem ut(k:p.Ok)(h:p.Cm gs w t j d0 D bD V S ci){i:Nat}(hi:i<j){b:Nat}(d:b<p.fW.heap.size):¬(D i).h.o b:=λx=>by have:=(h.made i hi b (h.own i hi b x)).1;omega
theorem W6(k:p.Ok)(lu:∀g w,AnchW g w->g.status=.running)(ha:gs[0]?=some a)(pk:p.MS AnchW tag j T0 d0 a w)(h:p.Cm gs w t j d0 D bD V S ci)(hc:p.gF w j tag D)(hl:bD+p.left tag=p.J)(pj:j<=p.n)
 {st sm:Int} (iT:WgAt p.ty p.Wg w st sm) (Q:ConcN.Mode j (kd D) tag.dV st sm) (xa:tag≠.fin)
 {i m r:Nat} (hi:i<j) {g:Goroutine} (hg:gs[i+1]?=some g) (iS:(D i).stage=10) (lC:(D i).deaf=0) (la:(D i).cur=some m) (hr:p.J-bD<=r) (hO:p.tX m (p.Recv r) (D i).h g w):
 ∃F ops gw,runT p.P (crowd gs w sl) (i+1)=(.next F,ops)/\p.M3 gw (p.ph (Vc j (kd D)) tag+eH j D,fF D,T0)/\p.jP AnchW gw F (t++ops):=by
 obtain⟨_,hO⟩:=hO;obtain⟨v,g',w',es,hgo,hR,B,EQ,C,W⟩:=hO V h.out;obtain⟨hm,L,Tf⟩:=h.cur i hi m la;have hC:=k.Br;have rl:p.RL w w':=⟨B.live (Ne.symm k.wc),B.base λx=>x.2.2.2 X⟩
 obtain⟨T,hT⟩:=W w' (rl.2 h.base);have hold:∀b,(D i).h.o b->b≠p.C:=λb x e=>by subst e;exact ut k h hi hC x
 have s:∀f l,V f=some l->∀b,S f b->b≠p.C/\¬(D i).h.o b:=λf l e b x=>by obtain⟨h1,_,h3⟩:=h.res f l e;have hj:=(h.fA f h1).1;refine⟨λe'=>by have:=(h.made _ hj b (h3 b x).1).1;omega,λy=>?_⟩;have:=h.sep _ _ b hj hi (h3 b x).1 (h.own i hi b y);subst this;exact(h3 b x).2 y
 have mt:∀f l,V f=some l->f≠m:=λf l e e'=>by subst e';rw[Tf]at e;cases e
 have K:∀e∈es,∀q,e.loc≠.mark q:=λe A q hq=>by have:=k.mg _ _ (C e A).2;rw[hq]at this;cases this
 refine stepW (V':=upd V m (some v)) (S':=upd S m (D i).h.o) (d:=⟨9,T,0,p.eI,none,λb=>(D i).made b\/(w.heap.size<=b/\b<w'.heap.size)⟩) k lu ha pk h hc hl pj hi hg hgo rl (λi' M hn=>B.rely (ut k h M hC) λx=>(h.hr i' M _ x).2.2.2 X)
  (.idle hr X hT) X (sK B.size.symm) (λb x=>x.elim) (λb x=>x) (λ_ x=>by cases x) (λf P=>upd_ne V _ λe=>P (e▸L)) (λf P e=>.inl ?_) (λf l e=>?_) (λm1 m2 b x y e1 e2=>?_)
  (λop nq=>?_) (λe A=>K e A _) (by rw[lC];exact deafBehind_idle (λe A=>⟨K e A _,K e A _⟩) 0) (λx=>by simp only at x;omega) EQ (st':=st) (sm':=sm) (by unfold WgAt at*;rw[B.block _ k.wc];exact iT)
  (λtag' B _=>Mode.keep Q (λi' M=>?_) B) (B.block _ (Ne.symm k.ch)) (by simp) (λ_=>by simp) (λe=>absurd e xa) (.inl (by rw[iS];simp))
 .by_cases H:f=m
  .subst H;exact⟨v,upd_same V _ _⟩
  .rw[upd_ne V _ H];rcases(h.fA f P).2 with x|x
   .exact x
   .rw[e,la]at x;exact absurd (dF x).symm H
 .by_cases H:f=m
  .subst H;rw[upd_same]at e;cases e;rw[upd_same S,L,upd_same D];exact⟨hm,k.res _ _ _ w _ (λb x=>B.block b (hold b x)) hR,λb x=>⟨.inl (h.own i hi b x),λy=>y.elim⟩⟩
  .rw[upd_ne V _ H]at e;rw[upd_ne S _ H];obtain⟨h1,h2,h3⟩:=h.res f l e;refine⟨h1,k.res _ _ _ w _ (λb x=>B.block b (s f l e b x).1) h2,λb x=>?_⟩;by_cases ei:ci f=i
   .rw[ei,upd_same];have:=h3 b x;rw[ei]at this;exact⟨.inl this.1,λy=>y.elim⟩
   .rw[upd_ne D _ ei];exact h3 b x
 .have so:∀{q:Nat},q≠m->upd V m (some v) q≠none->∃l,V q=some l:=λ{q}hq hx=>by
   rw[upd_ne V _ hq]at hx;exact Option.ne_none_iff_exists'.1 hx
  by_cases n:m1=m<;>by_cases o:m2=m
  .rw[n,o]
  .subst n;rw[upd_same]at x;rw[upd_ne S _ o]at y;obtain⟨l,e⟩:=so o e2;exact absurd x (s m2 l e b y).2
  .subst o;rw[upd_same]at y;rw[upd_ne S _ n]at x;obtain⟨l,e⟩:=so n e1;exact absurd y (s m1 l e b x).2
  .rw[upd_ne S _ n]at x;rw[upd_ne S _ o]at y;rw[upd_ne V _ n]at e1;rw[upd_ne V _ o]at e2;exact h.p7 m1 m2 b x y e1 e2
 .rw[ofEvents_eq]at nq;obtain⟨e,A,rfl⟩:=pp.1 nq;refine⟨X,λx hx=>?_⟩;simp only[Ft (C e A).1 (k.mg _ _ (C e A).2),gU]at hx;subst hx;exact .inr (.inl ⟨.inl ⟨by omega,by omega,.inr ⟨m,hm,by rw[L];simp,(C e A).2⟩⟩,by simp⟩)
 .by_cases e:i'=i
  .subst e;rw[upd_same,iS];simp
  .rw[upd_ne D _ e]
theorem Fg(D:Nat->WX)(i:Nat)(d:WX):kd (upd D i d)=upd (kd D) i ⟨min d.stage 7,0,0⟩:=by funext q;simp only[kd,upd];split<;>rfl
theorem KD{Al:Nat->Loc->Prop}{Re:Loc->Prop}{g:Nat}{fn:FuncId}{pos:String}{es:Array Event}(k:∀e∈es,Bk p.Wg e):∀op∈MemOp.ofEvents g fn pos es,rX (ShN p.Wg) Al Re g op:=by
 intro op f;rw[ofEvents_eq]at f;obtain⟨e,l,rfl⟩:=pp.1 f;refine⟨X,λx d=>?_⟩;rcases k e l with h|h|⟨a,wr,rfl,i⟩
 .simp only[ofEvent_loc_mark h]at d;cases d
 .simp only[ofEvent_loc_mark h]at d;cases d
 .simp only[ofEvent_cell,MemAct.touch?,gU]at d;subst d;exact .inl ⟨⟨a,X,i⟩,by simp,by simp⟩
theorem rv{w:World}{a:Addr}{v:Value}:ka a.block w (w.setCell a v):=by have:=aside_setCell w a v;exact⟨this.tape,this.os,this.output,this.size,λb d=>this.block b d⟩
theorem n7(k:p.Ok)(lu:∀g w,AnchW g w->g.status=.running)(ha:gs[0]?=some a)(pk:p.MS AnchW tag j T0 d0 a w)(h:p.Cm gs w t j d0 D bD V S ci)(hc:p.gF w j tag D)(hl:bD+p.left tag=p.J)(pj:j<=p.n)
 {i s C:Nat} (hi:i<j) {g g':Goroutine} {es:Array Event} {l q:Nat} {T':Tr} {st' sm':Int} (hg:gs[i+1]?=some g) (hgo:stepG p.P false g w=.go g' w' es) (iS:(D i).stage=s) (L:(D i).deaf=C) (la:(D i).cur=none) (h7:s<=7)
 (f:ka p.Wg w w') (n:WgAt p.ty p.Wg w' st' sm') (y:(∀e∈es,Bk p.Wg e)\/(s=7/\es=#[ConcR.mk (.releaseMerge (stA p.Wg))]))
 (hd:∀jx e,es[jx]?=some e->(MemAct.ofEvent e).touch? =none\/0<deafBehind C (es.extract 0 jx)) (sD:p.WS (p.J-bD) l T' q (D i).h none g' w') (Tz:deafBehind C es=q) (h7':l<=7) (Q:s=7->l<=6->es=#[ConcR.mk (.releaseMerge (stA p.Wg))]/\C=0)
 (A:∀tag':dn,(tag'=tag\/(tag=.blk/\tag'=.w3))->(mayWake p.P g=true->g'.status=.running->tag'≠.blk)->ConcN.Mode j (upd (kd D) i ⟨l,0,0⟩) tag'.dV st' sm') (H:tag=.fin->AcqAll p.Wg j (t++MemOp.ofEvents (i+1) g.frame.fn g.frame.place es))
 (av:l<s\/(l=s/\T'.lt (D i).tree)):
 ∃o ops gw,runT p.P (crowd gs w sl) (i+1)=(.next o,ops)/\p.M3 gw (p.ph (Vc j (kd D)) tag+eH j D,fF D,T0)/\p.jP AnchW gw o (t++ops):=by
 have hW:=k.ra;have T:¬tag.op:=λx=>by have:=(hc.op x).2 i hi;omega
 have rl:p.RL w w':=⟨λ_=>⟨_,_,n⟩,f.base λx=>x.2.1 X⟩
 have M:Deaf t (i+1)=C:=by rw[h.deafW i hi,L]
 have F:∀m' v',V m'=some v'->∀b,S m' b->b≠p.Wg:=λm' v' e b x e'=>by obtain⟨h1,_,h3⟩:=h.res m' v' e;have:=(h.made _ (h.fA m' h1).1 b (h3 b x).1).1;omega
 have mv:∀{Al:Nat->Loc->Prop}{Re:Loc->Prop},∀op∈MemOp.ofEvents (i+1) g.frame.fn g.frame.place es,rX (ShN p.Wg) Al Re (i+1) op:=λ{Al Re}=>by
  rcases y with K|⟨_,rfl⟩
  .exact KD K
  .intro op W;rw[ofEvents_eq]at W;obtain⟨e,B,rfl⟩:=pp.1 W;simp only[uC,fB,qO,qS]at B;subst B;exact⟨X,λx hx=>by simp[ConcR.mk,MemAct.ofEvent,MemAct.touch?]at hx⟩
 refine stepW (V':=V) (S':=S) (d:=⟨l,T',q,(D i).h,none,λb=>(D i).made b\/(w.heap.size<=b/\b<w'.heap.size)⟩) k lu ha pk h hc hl pj hi hg hgo rl (λi' P hn=>f.rely (ut k h P hW) λx=>(h.hr i' P _ x).2.1 X)
  sD X (sK f.size.symm) (λb x=>.inl (h.own i hi b x)) (h.hr i hi) (λ_ x=>by cases x) (λ_ _=>rfl) (λm hm e=>by have:=(h.fA m hm).2;rw[e,la]at this;exact this) (λm v e=>?_) h.p7 mv (λe B=>?_) (by rw[L];exact Tz) (λx=>?_) (k.out _ w _ (f.block _ (Ne.symm k.wc)) h.out) n
  (λtag' ht hw=>by rw[Fg];simp only;rw[show min l 7=l by omega];exact A tag' ht hw) (f.block _ (Ne.symm k.wh)) (by simp only;omega) (λx=>absurd x T) H (by simp only;rw[iS];exact av)
 .obtain⟨h1,h2,h3⟩:=h.res m v e;refine⟨h1,k.res _ _ _ w _ (λb x=>f.block b (F m v e b x)) h2,λb x=>?_⟩;by_cases ei:ci m=i
  .rw[ei,upd_same];have:=h3 b x;rw[ei]at this;exact⟨.inl this.1,this.2⟩
  .rw[upd_ne D _ ei];exact h3 b x
 .rcases y with K|⟨_,rfl⟩
  .exact norel_of_Bk K e B
  .simp only[uC,fB,qO,qS]at B;subst B;simp[ConcR.mk]
 .simp only at x;by_cases e7:s=7
  .obtain⟨this,Tx⟩:=Q e7 x;subst this;exact⟨t.size,RelBy.new (by rw[M,Tx]) _ _⟩
  .obtain⟨r,hr⟩:=h.rel i hi O;rcases y with K|⟨e,_⟩
   .exact⟨r,hr.book M _ _ K hd⟩
   .exact absurd e e7
end
end cy
namespace cy
section
variable {p:cy}{AnchW:Goroutine->World->Prop}{gs:Array Goroutine}{w w':World}{sl:Option (Nat×Nat)}{t:Trace}{j d0:Nat}{D:Nat->WX}{bD:Nat}{V:Nat->Option Value}{S:Nat->Nat->Prop}{ci:Nat->Nat}{T0:Tr}{a:Goroutine}{tag:dn}
theorem Tr.jJ(m:Nat):(Tr.nat m).lt (Tr.nat (m+1)):=⟨default,X⟩
theorem Mode.xM{j i:Nat}{D:Nat->WX}{tag:dn}{f e:Int}(d:ConcN.Mode j (kd D) tag.dV f e)(hi:i<j)(h:(D i).stage≠1):tag≠.fin:=by rintro rfl;exact ConcN.Mode.not_ret d hi (by simp only[kd];omega) X
theorem Kf{D:Nat->WX}{i s:Nat}(h:(D i).stage=s)(d:s<=7):(kd D i).stage=s:=by simp only[kd,h];omega
theorem uv(k:p.Ok)(o:∀g w,AnchW g w->g.status=.running)(ha:gs[0]?=some a)(C:p.MS AnchW tag j T0 d0 a w)(h:p.Cm gs w t j d0 D bD V S ci)(W:p.gF w j tag D)(hl:bD+p.left tag=p.J)(B:j<=p.n)
 {st sm:Int} (K:WgAt p.ty p.Wg w st sm) (f:ConcN.Mode j (kd D) tag.dV st sm)
 {i s P L:Nat} (hi:i<j) {g g':Goroutine} (hg:gs[i+1]?=some g) (A:stepG p.P false g w=.go g' w #[]) (l:(D i).stage=s) (y:(D i).deaf=P) (q:(D i).cur=none) (H:(D i).tree=.nat (L+1)) (T:s<=7) (h1:s≠1)
 (F:p.WS (p.J-bD) s (.nat L) P (D i).h none g' w):
 ∃n ops M,runT p.P (crowd gs w sl) (i+1)=(.next n,ops)/\p.M3 M (p.ph (Vc j (kd D)) tag+eH j D,fF D,T0)/\p.jP AnchW M n (t++ops):=by
 have ms:=Kf l T;by_cases h6:s=7
 . -- nothing is listed: 'release' is not said yet
  subst h6;have hW:=k.ra
  refine stepW (V':=V) (S':=S) (d:=⟨7,.nat L,P,(D i).h,none,λb=>(D i).made b\/(w.heap.size<=b/\b<w.heap.size)⟩) k o ha C h W hl B hi hg A (RL.refl w) (λi' uo hn=>.refl _ _)
   F X (dO _) (λb x=>.inl (h.own i hi b x)) (h.hr i hi) (λ_ x=>by cases x) (λ_ _=>rfl) (λm hm e=>by have:=(h.fA m hm).2;rw[e,q]at this;exact this) (λm v e=>?_) h.p7 (λop nq=>by simp[MemOp.ofEvents]at nq) (λe he=>by simp at he) (by rw[y];rfl) (λx=>by simp only at x;omega) h.out K
   (λtag' ht hw=>Mode.keep f (λi' uo=>?_) ht) X (by simp) (λx=>by have:=(W.op x).2 i hi;omega) (λe=>absurd e (Mode.xM f hi O)) (.inr ⟨l.symm,by rw[H];exact Tr.jJ L⟩)
  .obtain⟨h1,h2,h3⟩:=h.res m v e;refine⟨h1,h2,λb x=>?_⟩;by_cases Q:ci m=i
   .rw[Q,upd_same];have:=h3 b x;rw[Q]at this;exact⟨.inl this.1,this.2⟩
   .rw[upd_ne D _ Q];exact h3 b x
  .by_cases e:i'=i
   .subst e;rw[upd_same,l]
   .rw[upd_ne D _ e]
 .exact n7 k o ha C h W hl B hi hg A l y q T (.refl _ w) K (.inl (by simp)) (by simp) F X T (λe=>absurd e h6) (λtag' ht _=>ConcN.Mode.retag (by have:=f.same (i:=i) 0 0;rwa[ms]at this) (ht.elim (λe=>.inl (by rw[e])) λ⟨e1,e2⟩=>.inr ⟨by rw[e1];rfl,by rw[e2];rfl⟩)) (λe=>absurd e (Mode.xM f hi O)) (.inr ⟨X,by rw[H];exact Tr.jJ L⟩)
set_option maxHeartbeats 1600000 in
theorem R8(k:p.Ok)(K:∀g w,AnchW g w->g.status=.running)(Q:gs[0]?=some a)(F:p.MS AnchW tag j T0 d0 a w)(h:p.Cm gs w t j d0 D bD V S ci)(hc:p.gF w j tag D)(hl:bD+p.left tag=p.J)(P:j<=p.n)
 {st sm:Int} (n:WgAt p.ty p.Wg w st sm) (y:ConcN.Mode j (kd D) tag.dV st sm) (xa:tag=.fin->AcqAll p.Wg j t)
 {i:Nat} (hi:i<j) {g:Goroutine} (hg:gs[i+1]?=some g) (jr:g.status=.running) (h7:(D i).stage<=7):
 ∃xK ops gw,runT p.P (crowd gs w sl) (i+1)=(.next xK,ops)/\p.M3 gw (p.ph (Vc j (kd D)) tag+eH j D,fF D,T0)/\p.jP AnchW gw xK (t++ops):=by
 obtain⟨SD,JL,hs⟩:=h.wk i hi;obtain rfl:g=SD:=by rw[hg]at JL;exact dF JL
 generalize H:(D i).stage=s at hs;generalize mw:(D i).tree=T at hs;generalize C:(D i).deaf=dd at hs;generalize M:(D i).cur=c at hs;generalize AK:(D i).h=hh at hs;have AO:=k.nn;have hb:=F.bound;have Te:=Vc_le j (kd D);have B:s<=7:=by omega
 have ms:=Kf H B;have TA:Deaf t (i+1)=dd:=by rw[h.deafW i hi,C]
 have nf:s≠1->tag≠.fin:=λe=>Mode.xM y hi O;have ur:=y;obtain⟨kt,EF⟩:∃kt,kt=tag.dV:=⟨_,X⟩
 rw[<-EF]at y hb;have rt:∀{D':Nat->WD}{st' sm':Int}{tag':dn},ConcN.Mode j D' kt st' sm'->(tag'=tag\/(tag=.blk/\tag'=.w3))->ConcN.Mode j D' tag'.dV st' sm':=λhm ht=>ConcN.Mode.retag (EF▸hm) (ht.elim (λe=>.inl (by rw[e])) λ⟨e1,e2⟩=>.inr ⟨by rw[e1];rfl,by rw[e2];rfl⟩);have bk2:∀e∈#[rd (stA p.Wg),wr (stA p.Wg)],Bk p.Wg e:=by intro e A;simp at A;rcases A with rfl|rfl<;>exact bk_cell _ _ X
 have DW:∀jx e,(#[rd (stA p.Wg),wr (stA p.Wg)]:Array Event)[jx]?=some e->(MemAct.ofEvent e).touch? =none\/0<deafBehind 1 ((#[rd (stA p.Wg),wr (stA p.Wg)]:Array Event).extract 0 jx):=by
  intro jx e A
  match jx,A with
  |0,_=>exact .inr (by simp[deafBehind])
  |1,_=>exact .inr (by simp[deafBehind,rd])
  |jx+2,A=>simp at A
 have IR:∀x:Event,∀jx e,(#[x]:Array Event)[jx]?=some e->(MemAct.ofEvent e).touch? =none\/0<deafBehind 1 ((#[x]:Array Event).extract 0 jx):=by
  intro x jx e A
  match jx,A with
  |0,_=>exact .inr (by simp[deafBehind])
  |jx+1,A=>simp at A
 cases hs with
 |idle _ _ _=>omega
 |pV _ _ _=>omega
 |fA _ _ _=>omega
 |r0 x=>
  rcases Goes.cases x with o|⟨m',rfl,d⟩
  .obtain⟨_,g',l,Bv,hk⟩:=o w (RL.refl w)
   refine n7 k K Q F h hc hl P hi hg l H C M B (.refl _ w) n (.inr ⟨X,X⟩) (by intro jx e A;exact .inl (by have:=my A;simp at this;subst this;rfl)) (.k1 hk) X O (λ_ _=>⟨X,X⟩)
    (λtag' ht _=>rt (y.counted hi O (.inl X) 0 0) ht) (λe=>absurd e (nf O)) (.inl O)
  .obtain⟨g',w',es,l,⟨rfl,rfl⟩,W⟩:=d w (RL.refl w);exact uv k K Q F h hc hl P n ur hi hg l H C M mw B O (.r0 W)
 |k1 x=>
  rcases Goes.cases x with o|⟨m',rfl,d⟩
  .obtain⟨_,g',l,Bv,hk⟩:=o w (RL.refl w)
   exact n7 k K Q F h hc hl P hi hg l H C M B (.refl _ w) n (.inl (by intro e A;simp at A;subst A;exact .inl X)) (by intro jx e A;exact .inl (by have:=my A;simp at this;subst this;rfl)) (.d1 hk) X O (λe=>by omega)
    (λtag' ht _=>rt (y.counted hi O (.inr X) 0 0) ht) (λe=>absurd e (nf O)) (.inl O)
  .obtain⟨g',w',es,l,⟨rfl,rfl⟩,W⟩:=d w (RL.refl w);exact uv k K Q F h hc hl P n ur hi hg l H C M mw B O (.k1 W)
 |d1 x=>
  rcases Goes.cases x with o|⟨m',rfl,d⟩
  .obtain⟨_,qI⟩:=o w (RL.refl w);have Ts:ConcN.cnt (kd D i)=1:=by simp[ConcN.cnt,ms]
   have hV1:1<=Vc j (kd D):=by have:=le_sumTo (f:=λx=>ConcN.cnt (kd D x)) hi;simp only[Vc];omega
   have Uz:ConcN.cnt (⟨1,0,0⟩:WD)=0:=X;have KF:OpenSt j (kd D)->OpenSt j (upd (kd D) i ⟨1,0,0⟩):=λh a Q=>by
    by_cases e:a=i
    .subst e;rw[upd_same];simp
    .rw[upd_ne _ _ e];exact h a Q
   cases y with
   |opn h1 h2 h3=>
    obtain⟨v,hv⟩:∃v,Vc j (kd D)+pend kt=v+1:=⟨Vc j (kd D)+pend kt-1,by omega⟩
    rw[hv]at n;have EV:WgAt p.ty p.Wg w (((v:Nat)+1)*KK+((0:Nat):Int)) 0:=by simpa using n
    obtain⟨g',l,_,hq⟩:=qI v 0 O O EV;obtain⟨q,hq⟩:=hq O;have sF:Vc j (upd (kd D) i ⟨1,0,0⟩)+pend kt=v:=by have:=Vc_upd (kd D) (⟨1,0,0⟩:WD) hi;omega
    refine n7 k K Q F h hc hl P hi hg l H C M B (rv (a:=stA p.Wg)) (n.setSt _) (.inl bk2) DW (.quit hq) X O (λe=>by omega) (λtag' ht _=>rt ?_ ht) (λe=>absurd e (nf O)) (.inl O);have e:((v:Nat):Int)*KK+((0:Nat):Int)=((Vc j (upd (kd D) i ⟨1,0,0⟩)+pend kt:Nat):Int)*KK:=by rw[sF];simp
    rw[e];exact .opn h1 (KF h2) (λvs ev=>by have:=h3 vs ev;omega)
   |reg h1 h2 h3=>
    obtain⟨v,hv⟩:∃v,Vc j (kd D)=v+1:=⟨Vc j (kd D)-1,by omega⟩
    rw[hv]at n;have EV:WgAt p.ty p.Wg w (((v:Nat)+1)*KK+((1:Nat):Int)) 0:=by simpa using n
    obtain⟨g',l,TW,hq⟩:=qI v 1 O O EV;by_cases UR:v=0
    .subst UR;obtain⟨Bv,hk⟩:=TW ⟨X,X⟩;refine n7 k K Q F h hc hl P hi hg l H C M B (rv (a:=stA p.Wg)) (n.setSt _) (.inl bk2) DW (.d2 hk) X O (λe=>by omega) (λtag' ht _=>rt ?_ ht) (λe=>absurd e (nf O)) (.inl O);have pl:∀a,a<j->a≠i->(kd D a).stage=1:=λa Q e=>by
      have c0:=others_uncounted hi hv Ts a Q e;have:=h2 a Q;simp only[ConcN.cnt]at c0;split at c0<;>omega
     have:=ConcN.Mode.last (j:=j) (D:=upd (kd D) i ⟨4,0,0⟩) (tag:=kt) i h1 hi (by rw[upd_same];simp) (λa Q e=>by rw[upd_ne _ _ e];exact pl a Q e);rw[upd_same]at this;simpa using this
    .obtain⟨q,hq⟩:=hq O;have sF:Vc j (upd (kd D) i ⟨1,0,0⟩)=v:=by have:=Vc_upd (kd D) (⟨1,0,0⟩:WD) hi;omega
     refine n7 k K Q F h hc hl P hi hg l H C M B (rv (a:=stA p.Wg)) (n.setSt _) (.inl bk2) DW (.quit hq) X O (λe=>by omega) (λtag' ht _=>rt ?_ ht) (λe=>absurd e (nf O)) (.inl O);have e:((v:Nat):Int)*KK+((1:Nat):Int)=((Vc j (upd (kd D) i ⟨1,0,0⟩):Nat):Int)*KK+1:=by rw[sF];simp
     rw[e];exact .reg h1 (KF h2) O
   |last L _ h2 h3 h4=>
    by_cases e:i=L
    .subst e;omega
    .have:=h4 i hi e;omega
   |sema h2=>have:=h2 i hi;omega
   |fin _ h2=>have:=h2 i hi;omega
  .obtain⟨g',w',es,l,⟨rfl,rfl⟩,W⟩:=d w (RL.refl w);exact uv k K Q F h hc hl P n ur hi hg l H C M mw B O (.d1 W)
 |d2 x=>
  rcases Goes.cases x with o|⟨m',rfl,d⟩
  .obtain⟨_,hx⟩:=o w (RL.refl w);obtain⟨ui,pl,rfl,rfl⟩:=y.isLast hi O;simp only[ms]at n;obtain⟨g',l,Bv,hk⟩:=hx (by simpa using n);refine n7 k K Q F h hc hl P hi hg l H C M B (.refl _ w) n (.inl (by intro e A;simp at A;subst A;exact bk_cell _ _ X)) (IR _) (.d3 hk) X O (λe=>by omega) (λtag' ht _=>rt ?_ ht) (λe=>absurd e (nf O)) (.inl O);have:=ConcN.Mode.last (j:=j) (D:=upd (kd D) i ⟨3,0,0⟩) (tag:=kt) i ui hi (by rw[upd_same];simp) (λa Q e=>by rw[upd_ne _ _ e];exact pl a Q e);rw[upd_same]at this;simpa using this
  .obtain⟨g',w',es,l,⟨rfl,rfl⟩,W⟩:=d w (RL.refl w);exact uv k K Q F h hc hl P n ur hi hg l H C M mw B O (.d2 W)
 |d3 x=>
  rcases Goes.cases x with o|⟨m',rfl,d⟩
  .obtain⟨_,hx⟩:=o w (RL.refl w);obtain⟨ui,pl,rfl,rfl⟩:=y.isLast hi O;simp only[ms]at n;obtain⟨g',l,Bv,hk⟩:=hx (by simpa using n);refine n7 k K Q F h hc hl P hi hg l H C M B (rv (a:=stA p.Wg)) (n.setSt 0) (.inl (by intro e A;simp at A;subst A;exact bk_cell _ _ X)) (IR _) (.d4 hk) X O (λe=>by omega) (λtag' ht _=>rt ?_ ht) (λe=>absurd e (nf O)) (.inl O);have:=ConcN.Mode.last (j:=j) (D:=upd (kd D) i ⟨2,0,0⟩) (tag:=kt) i ui hi (by rw[upd_same];simp) (λa Q e=>by rw[upd_ne _ _ e];exact pl a Q e);rw[upd_same]at this;simpa using this
  .obtain⟨g',w',es,l,⟨rfl,rfl⟩,W⟩:=d w (RL.refl w);exact uv k K Q F h hc hl P n ur hi hg l H C M mw B O (.d3 W)
 |d4 x=>
  rcases Goes.cases x with o|⟨m',rfl,d⟩
  .obtain⟨_,EM,hx⟩:=o w (RL.refl w);obtain⟨ui,pl,rfl,rfl⟩:=y.isLast hi O;simp only[ms]at n;obtain⟨g',l,q,hq⟩:=hx (by simpa using n);have UF:g'.status=.running:=by
    cases q with
    |zero=>exact absurd hq.2 ab
    |succ q=>exact hq.elim (λx=>absurd x.2 ab) (λx=>x.1)
   refine n7 k K Q F h hc hl P hi hg l H C M B (rv (a:=smA p.Wg)) (n.setSm 1) (es:=semEvents (smA p.Wg)) (.inl ?_) ?_ (.quit hq) (by simp[deafBehind,semEvents]) O (λe=>by omega) ?_ (λe=>absurd e (nf O)) (.inl O)
   .intro e A;simp[semEvents]at A;rcases A with rfl|rfl|rfl|rfl
    .exact .inl X
    .exact bk_cell _ _ X
    .exact bk_cell _ _ X
    .exact .inr (.inl X)
   .intro jx e A
    match jx,A with
    |0,A=>simp[semEvents]at A;subst A;exact .inl X
    |1,_=>exact .inr (by simp[deafBehind,semEvents])
    |2,_=>exact .inr (by simp[deafBehind,semEvents])
    |3,A=>simp[semEvents]at A;subst A;exact .inl X
    |jx+4,A=>simp[semEvents]at A
   .intro tag' ht hw;have Uh:=hw EM UF;rw[EF]at ui;have e3:tag'=.w3:=by
     rcases ht with rfl|⟨_,rfl⟩
     .cases tag'<;>first|rfl|exact ui.elim|exact absurd X Uh
     .rfl
    subst e3;simp only[jX];exact .sema λa Q=>by
     by_cases e:a=i
     .subst e;rw[upd_same]
     .rw[upd_ne _ _ e];exact pl a Q e
  .obtain⟨g',w',es,l,⟨rfl,rfl⟩,W⟩:=d w (RL.refl w);exact uv k K Q F h hc hl P n ur hi hg l H C M mw B O (.d4 W)
 |@quit m _ _ _ _ x=>
  cases m with
  |zero=>rw[x.1]at jr;cases jr
  |succ q=>
   rcases x with⟨hf,_⟩|⟨_,g',es,EL,d,hq⟩
   .rw[hf]at jr;cases jr
   .have JF:∀e∈es,Bk p.Wg e:=λe A=>bk_of_mute (EL e A)
    have og:∀jx e,es[jx]?=some e->(MemAct.ofEvent e).touch? =none\/0<deafBehind dd (es.extract 0 jx):=λjx e A=>.inl (by
     rcases bk_of_mute (Wg:=p.Wg) (EL e (my A))with h1|h1|⟨a,wr,rfl,_⟩
     .rw[ofEvent_loc_mark h1];rfl
     .rw[ofEvent_loc_mark h1];rfl
     .have:=EL _ (my A);simp[Event.mute]at this)
    refine n7 k K Q F h hc hl P hi hg (d w) H C M B (.refl _ w) n (.inl JF) og (.quit hq) X O (λe=>by omega) (λtag' ht _=>rt (by have:=y.same (i:=i) 0 0;rwa[ms]at this) ht) (λe=>(xa e).app λi' r uo hr=>?_) (.inr ⟨X,by rw[mw];exact Tr.jJ q⟩);by_cases e':i'=i
    .subst e';exact hr.book TA _ _ JF og
    .exact hr.appOther g_of_ofEvents O
end
