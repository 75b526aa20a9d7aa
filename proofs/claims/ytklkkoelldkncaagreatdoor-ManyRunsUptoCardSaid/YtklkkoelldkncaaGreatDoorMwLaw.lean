/-
  The law ManyRuns holds for every input of bulk at most 1048576, as its row says.
-/
import Derived.Test.YtklkkoelldkncaaGreatDoorRows
import Derived.Test.YtklkkoelldkncaaGreatDoorMwMQ
import Derived.Test.YtklkkoelldkncaaGreatDoorMwManyRuns
import Derived.Test.YtklkkoelldkncaaGreatDoorCards
import Derived.Test.YtklkkoelldkncaaGreatDoorTie
set_option linter.unusedSimpArgs false
set_option linter.unusedVariables false
namespace Go.Proofs.YtklkkoelldkncaaGreatDoor
open Go.RowKit Go.ChangeShapes Go.WideShapes Go.ChangeAt an
namespace lawManyRuns
theorem own:ownKnob Tryz.prog.godebug=none:=by kernel_rfl
theorem laidOut:laidOutB Tryz.prog=true:=by kernel_rfl
theorem aaY{H:Type}{A:TypeId×Value->H}{W:World}{i:DataW H->Nat}{B:Nat}(a:rM i):TB Tryz.prog H A W i B 39 dJ (cR.ok B):=λg cs x D d=>by
 obtain⟨xs,m,_,rfl,h,f,e⟩:=DataW.trod_struct Tryz.underlying39 D;have C:Tryz.prog.cellsOf 39=4:=by kernel_rfl
 rw[C]at h;obtain⟨j,e0,F⟩:=vO a d e f 0 (t:=3) (o:=0) (s:=1) X X X (by kernel_rfl) (TB.int Tryz.underlying3);obtain⟨k,p,o1⟩:=vO a d e f 1 (t:=3) (o:=1) (s:=1) X X X (by kernel_rfl) (TB.int Tryz.underlying3);obtain⟨l,q,K⟩:=vO a d e f 2 (t:=3) (o:=2) (s:=1) X X X (by kernel_rfl) (TB.int Tryz.underlying3);obtain⟨n,y,L⟩:=vO a d e f 3 (t:=9) (o:=3) (s:=1) X X X (by kernel_rfl) (TB.str a Tryz.underlying9);have hp:=FB (cs:=cs) [1,1,1,1] 0 (by simp) (by rw[h];rfl);simp only[pieces,eT,cb]at hp;simp only[eT]at e0;rw[e0,p,q,y]at hp;exact⟨(⟨j,k,l,n⟩:dJ),hp,⟨F,o1,K,L⟩⟩
theorem aaZ{H:Type}{n:TypeId×Value->H}{W:World}{j:DataW H->Nat}{B:Nat}(a:rM j):TB Tryz.prog H n W j B 29 cZ (λp=>cZ.rel W (bk.of W) [] p/\cR.ok B p.v):=λe cs x y f=>by
 obtain⟨xs,m,_,rfl,h,i,g⟩:=DataW.trod_struct Tryz.underlying29 y;have q:Tryz.prog.cellsOf 29=2:=by kernel_rfl
 rw[q]at h;obtain⟨k,e0,A⟩:=vO a f g i 0 (t:=3) (o:=0) (s:=1) X X X (by kernel_rfl) (TB.int Tryz.underlying3);obtain⟨d,l,o1⟩:=vO a f g i 1 (t:=27) (o:=1) (s:=1) X X X (by kernel_rfl) (TB.slice (ρ:=dJ) Tryz.underlying27 (by kernel_rfl) ab a (aaY a));have hp:=FB (cs:=cs) [1,1] 0 (by simp) (by rw[h];rfl);simp only[pieces,eT,cb]at hp;simp only[eT]at e0;rw[e0,l]at hp;exact⟨cZ.mk (⟨k,d.v⟩:fN) d.h,hp,o1.1,⟨A,o1.2⟩⟩
theorem RE{H:Type}(l:List (DataW H)):l.length<=Rows.uptoBulkAll l:=by
 induction l with
 |nil=>simp
 |cons x r i=>
  have:1<=Rows.uptoBulk x:=by
   cases x with
   |lit l=>cases l<;>simp[Rows.uptoBulk]
   |nil=>simp[Rows.uptoBulk]
   |ptr d=>simp[Rows.uptoBulk]
   |slice e g=>simp[Rows.uptoBulk]
   |agg f=>simp[Rows.uptoBulk]
   |iface t d=>simp[Rows.uptoBulk]
   |map a=>simp[Rows.uptoBulk]
   |held h=>simp[Rows.uptoBulk]
  simp only[Rows.uptoBulkAll,bN];omega
theorem DK{H:Type}{d:DataW H}{l:List (DataW H)}(h:d∈l):Rows.uptoBulk d<=Rows.uptoBulkAll l:=by
 induction l with
 |nil=>cases h
 |cons x r a=>
  simp only[Rows.uptoBulkAll];rcases fB.1 h with e|e
  .subst e;omega
  .have:=a e;omega
theorem blk(H:Type):rM (Rows.uptoBulk (H:=H)):=⟨λs=>by simp[Rows.uptoBulk],λes sp=>by have:=RE es;simp only[Rows.uptoBulk];omega,λes sp d hd=>by
 simp only[Rows.uptoBulk];rcases hd with h|h
 .have:=DK h;omega
 .have:=DK h;omega,λps d hd=>by have:=DK hd;simp only[Rows.uptoBulk];omega⟩
set_option maxRecDepth 100000 in
theorem walk(H:Type)(enc:TypeId×Value->H)(W:World)(base:Nat)(args:Array Value)(g:List (DataW H))(p:List MemPlace)
 (d:∀(j:Nat)t v,Tryz.f3.params[j]?=some t->args[j]?=some v->Value.okWide Tryz.prog W .any base t v)
 (l:DataW.TrodAll enc Tryz.prog W 0 (λ_=>true) true Tryz.f3.params.toList args.toList g p)
 (m:Rows.uptoSmall H g=true) (S:laidMetH Tryz.prog Rows.manyRunsUptoRow.laid W):
 ∃M last o w' t',runNT Tryz.prog (M+1) (Conc.solo (Conc.G (Frame.enter Tryz.prog 3 args .normal) []) W) #[]=(.ended o w',t')/\runN Tryz.prog M (Conc.solo (Conc.G (Frame.enter Tryz.prog 3 args .normal) []) W)=.next last/\step Tryz.prog last=.ended o w'/\Conc.Good Tryz.prog (λv x=>v=.bool true/\Ext W x) last o w' t':=by
 have a:=d;clear d;rw[Tryz.params3]at a l;have h:Rows.uptoBulkAll g<=1048576:=om m;have f:=blk H;obtain⟨n,vs0,C,D,p0,q0,e0,rfl,rfl,k0,r0⟩:=trodAll_cons l;obtain⟨q,vs1,d1,F,p1,q1,K,rfl,rfl,k1,r1⟩:=trodAll_cons r0;obtain⟨z1,rfl,rfl⟩:=trodAll_nil r1;subst z1;subst K;obtain rfl:args=#[n,q]:=by cases args;simpa using e0
 have P:=a 0 3 n X X;have Q:=a 1 22 q X X;clear a m;simp only[Rows.uptoBulkAll]at h;obtain⟨x0,c0,L⟩:=Il (B:=1048576) k0 (show Rows.uptoBulk C<=1048576 by omega) (TB.int Tryz.underlying3);obtain rfl:=Rm Tryz.underlying3 P X c0;obtain⟨s,A,e⟩:=Il (B:=1048576) k1 (show Rows.uptoBulk d1<=1048576 by omega) (TB.slice (ρ:=cZ) Tryz.underlying22 (by kernel_rfl) ab f (aaZ f));obtain rfl:=Rn Tryz.underlying22 Q A;obtain⟨fu,i⟩:=ZS x0 (s.v.map cZ.v) L ⟨by rw[kF];exact e.2.1,λy V=>by obtain⟨r,k,rfl⟩:=mE.1 V;exact(e.2.2 r k).2⟩;have T:gG (bk.of W):=aaS (by kernel_rfl) (by kernel_rfl) Tryz.underlying237 Tryz.underlying67 (by kernel_rfl) (by kernel_rfl) (by kernel_rfl) (by kernel_rfl) S;exact aa0 (rs:=s.v) e.2.1 e.1 (λr k=>(e.2.2 r k).1) T i
set_option maxRecDepth 100000 in
theorem lifted(h:Os)(d:h.Started)(H:Type)(enc:TypeId×Value->H)(F:Stop.Interp):
 ReturnsInLeavingWide {} Tryz.checked h 3 .any ((Rows.OpenSpec.upto Rows.manyRunsSpec).preRow enc Tryz.prog Tryz.f3 [] false Rows.manyRunsUptoRow.laid) (((Rows.OpenSpec.upto Rows.manyRunsSpec).at F).post enc Tryz.prog Tryz.f3 false true false false):=by
 refine VL (C:=Tryz.checked) (S:=Rows.OpenSpec.upto Rows.manyRunsSpec) (k:=Rows.uptoSmall) (tb:=4) X own d Tryz.func3
  (abi (enc:=enc) (C:=Tryz.checked) (s:=Rows.OpenSpec.upto Rows.manyRunsSpec) (k:=Rows.uptoSmall) X #[.int .i64 0,.slice none 0 0] 8 (World.shaped_of_ZipB (by kernel_rfl) (by kernel_rfl)) (by kernel_rfl) (x:=([.lit (.int .i64 0),.nil],[],[])) (by kernel_rfl) (by kernel_rfl) (by kernel_rfl)
   (by rw[MakeChecks.laidMetH_plain _ _ _ (by kernel_rfl)];exact laidMet_laidAll _ (by kernel_rfl) (by kernel_rfl)))
  laidOut ?_ X Tryz.underlying4 X ?_ (λW base args g p a b c e=>walk H enc W base args g p a b c e)
 .intro t l;have i:(Tryz.f3.params.toList.all λt=>Tryz.prog.readableRec t&&decide (t<Tryz.prog.types.size))=true:=by kernel_rfl
  have:=mD.1 i t l;rw[eJ]at this;exact⟨this.1,om this.2⟩
 .intro g f;have j:g.length=2:=f;rcases g with _|⟨m,_|⟨d1,_|⟨o,n⟩⟩⟩<;>simp at j
  rfl
theorem proved:Rows.ManyRunsUptoSaid:=
 Up 3 Tryz.f3 ⟨X,X,X⟩ ⟨X,X,X,X,X,X,X⟩ ⟨X,X,X,X,X,X,X⟩ (by kernel_rfl) Tryz.func3 (by kernel_rfl)
  (om (by kernel_rfl)) (by unfold Func.isWrapper;first|(rw[ce (by decide+kernel)];kernel_rfl)|(rw[ck (by decide+kernel)];exact⟨X,X⟩))
  (λd a H enc F=>by rw[OpenClaim.pre_eq_preRow];exact lifted d a H enc F)
theorem card:Rows.ManyRunsUptoCardSaid:=
 Uq .later [.data,.data,.data,.data,.sentinel,.sentinel,.pinned] true (true,"a9de40bb054224e2e0e885ee4f83b0a17537c80097224f1088754afab29a0a94") true proved (by kernel_rfl) manyRunsUpto_row_tie X ⟨X,X⟩ (by kernel_rfl) X
  (λf fn e d=>by
   obtain rfl:f=3:=dF ((show Tryz.prog.funcNamed Rows.manyRunsUptoRow.func=some 3 by kernel_rfl).symm.trans e)|>.symm;obtain rfl:fn=Tryz.f3:=(dF (Tryz.func3.symm.trans d)).symm
   exact⟨by kernel_rfl,λj t g=>by
    have a:(Tryz.f3.params.toList.all λu=>!Tryz.prog.wantsStandIn u)=true:=by kernel_rfl
    exact(show Tryz.prog.wantsStandIn t=false by simpa using mD.1 a t (Array.mem_toList_iff.2 (my g)))⟩)
  (by kernel_rfl)
