/-
  The law DeskSays holds for every input of bulk at most 1048576, as its row says.
-/
import Derived.Test.YteagbdjohkfneaaGreatDoorRows
import Derived.Test.YteagbdjohkfneaaGreatDoorDzP7
import Derived.Test.YteagbdjohkfneaaGreatDoorDzDeskSays
import Derived.Test.YteagbdjohkfneaaGreatDoorCards
import Derived.Test.YteagbdjohkfneaaGreatDoorTie
namespace Go.Proofs.YteagbdjohkfneaaGreatDoor
open Go.RowKit Go.ChangeShapes Go.WideShapes Go.ChangeAt an
namespace lawDeskSays
theorem own:ownKnob Tryz.prog.godebug=none:=by kernel_rfl
theorem laidOut:laidOutB Tryz.prog=true:=by kernel_rfl
theorem TJ{H:Type}(l:List (DataW H)):l.length<=Rows.uptoBulkAll l:=by
 induction l with
 |nil=>simp
 |cons x r i=>
  have:1<=Rows.uptoBulk x:=by
   cases x with
   |lit l=>cases l<;>simp[Rows.uptoBulk]
   |nil=>simp[Rows.uptoBulk]
   |ptr d=>simp[Rows.uptoBulk]
   |slice e g=>simp[Rows.uptoBulk]
   |agg f=>simp[Rows.uptoBulk]
   |iface t d=>simp[Rows.uptoBulk]
   |map a=>simp[Rows.uptoBulk]
   |held h=>simp[Rows.uptoBulk]
  simp only[Rows.uptoBulkAll,eB];omega
theorem E8{H:Type}{d:DataW H}{l:List (DataW H)}(h:d∈l):Rows.uptoBulk d<=Rows.uptoBulkAll l:=by
 induction l with
 |nil=>cases h
 |cons x r a=>
  simp only[Rows.uptoBulkAll];rcases fM.1 h with e|e
  .subst e;omega
  .have:=a e;omega
theorem ak(H:Type):Bg (Rows.uptoBulk (H:=H)):=⟨λs=>by simp[Rows.uptoBulk],λa e=>by have:=TJ a;simp only[Rows.uptoBulk];omega,λa e d hd=>by
 simp only[Rows.uptoBulk];rcases hd with h|h
 .have:=E8 h;omega
 .have:=E8 h;omega,λps d hd=>by have:=E8 hd;simp only[Rows.uptoBulk];omega⟩
set_option maxRecDepth 100000 in
theorem walk(H:Type)(enc:TypeId×Value->H)(W:World)(base:Nat)(args:Array Value)(f:List (DataW H))(p:List MemPlace)
 (d:∀(j:Nat)t v,Tryz.f3.params[j]?=some t->args[j]?=some v->Value.okWide Tryz.prog W .any base t v)
 (m:DataW.TrodAll enc Tryz.prog W 0 (λ_=>true) true Tryz.f3.params.toList args.toList f p)
 (n:Rows.uptoSmall H f=true) (C:laidMetH Tryz.prog Rows.deskSaysUptoRow.laid W):
 Calls Tryz.prog 3 args W λe q=>e=.returned (.bool true)/\Ext W q:=by
 have a:=d;clear d;rw[Tryz.params3]at a m;have i:Rows.uptoBulkAll f<=1048576:=j5 n;have l:=ak H;obtain⟨o,L,x,y,Q,S,e0,rfl,rfl,F,K⟩:=trodAll_cons m;obtain⟨P,rfl,rfl⟩:=trodAll_nil K;subst P;obtain rfl:args=#[o]:=by cases args;simpa using e0
 have A:=a 0 9 o X X;clear a n;simp only[Rows.uptoBulkAll]at i;obtain⟨M,s,z⟩:=Ty (B:=1048576) F (show Rows.uptoBulk x<=1048576 by omega) (TB.str l Tryz.underlying9);obtain rfl:=Tz Tryz.underlying9 A s;obtain⟨fu,k⟩:=UE M z;have D:fA Tryz.prog W:=aco (g:=3) (by kernel_rfl) (by kernel_rfl) Tryz.underlying245 Tryz.underlying173 (by kernel_rfl) (by kernel_rfl) (by kernel_rfl) (by kernel_rfl) C;exact(YF k (List.Sublist.refl ([]:List Item)) D).law λ_ _ _ h=>h.1
set_option maxRecDepth 100000 in
theorem lifted(os:Os)(d:os.Started)(H:Type)(enc:TypeId×Value->H)(F:Stop.Interp):
 ReturnsInHanded {} Tryz.checked os 3 .any ((Rows.OpenSpec.upto Rows.deskSaysSpec).preRow enc Tryz.prog Tryz.f3 [] false Rows.deskSaysUptoRow.laid) (((Rows.OpenSpec.upto Rows.deskSaysSpec).at F).post enc Tryz.prog Tryz.f3 false true false false):=by
 refine Xz (C:=Tryz.checked) (S:=Rows.OpenSpec.upto Rows.deskSaysSpec) (k:=Rows.uptoSmall) (tb:=4) X own d (by kernel_rfl) Tryz.func3
  (acY (enc:=enc) (C:=Tryz.checked) (s:=Rows.OpenSpec.upto Rows.deskSaysSpec) (k:=Rows.uptoSmall) X #[.string ⟨#[]⟩] 8 (World.shaped_of_ZipB (by kernel_rfl) (by kernel_rfl)) (by kernel_rfl) (x:=([.lit (.string [])],[],[])) (by kernel_rfl) (by kernel_rfl) (by kernel_rfl)
   (by rw[MakeChecks.laidMetH_plain _ _ _ (by kernel_rfl)];exact laidMet_laidAll _ (by kernel_rfl) (by kernel_rfl)))
  laidOut ?_ X Tryz.underlying4 X ?_ (λW base args g p a b c e=>walk H enc W base args g p a b c e)
 .intro t j;have h:(Tryz.f3.params.toList.all λt=>Tryz.prog.readableRec t&&decide (t<Tryz.prog.types.size))=true:=by kernel_rfl
  have:=lQ.1 h t j;rw[eu]at this;exact⟨this.1,j5 this.2⟩
 .intro g f;have i:g.length=1:=f;rcases g with _|⟨l,_|⟨n,m⟩⟩<;>simp at i
  rfl
theorem proved:Rows.DeskSaysUptoSaid:=
 OpenClaim.holds_of_cond 3 Tryz.f3 X X X X X X X ⟨X,X,X,X,X⟩ X X X X X (by kernel_rfl) Tryz.func3 (by kernel_rfl)
  (j5 (by kernel_rfl)) (by unfold Func.isWrapper;first|(rw[bE (by decide+kernel)];kernel_rfl)|(rw[ca (by decide+kernel)];exact⟨X,X⟩))
  (λos a H enc _ F=>by rw[OpenClaim.pre_eq_preRow];exact lifted os a H enc F)
theorem card:Rows.DeskSaysUptoCardSaid:=
 Claim7.holds_tied_plain_at .later [] [.data,.data,.data,.data,.sentinel,.sentinel,.pinned] true (true,"f3db13bb193eccd52ca9f5cbd8d6fdcbf21faf2c20207b9860659251f72fe06c") true proved (λ_ h=>by cases h) (by kernel_rfl) (λ_ h=>by cases h) deskSaysUpto_row_tie X ⟨X,X⟩ (by kernel_rfl) X
  (λf e g d=>by
   obtain rfl:f=3:=dp ((show Tryz.prog.funcNamed Rows.deskSaysUptoRow.func=some 3 by kernel_rfl).symm.trans g)|>.symm;obtain rfl:e=Tryz.f3:=(dp (Tryz.func3.symm.trans d)).symm
   exact⟨by kernel_rfl,λj t i=>by
    have a:(Tryz.f3.params.toList.all λu=>!Tryz.prog.wantsStandIn u)=true:=by kernel_rfl
    exact(show Tryz.prog.wantsStandIn t=false by simpa using lQ.1 a t (Array.mem_toList_iff.2 (Array.mem_of_getElem? i)))⟩)
  (by kernel_rfl)
