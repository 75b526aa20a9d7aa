/-
  The lift of a row that says 'leaving', from the one that says that nobody else is there; the card that says 'goes'; the table of powers out of what is laid.
-/
import Derived.Test.YtchmclllcdknjaaGreatDoorGoY
import Derived.Test.YtchmclllcdknjaaGreatDoorGoZ
import Derived.Leaving
import Derived.SevenTiedAt
import Derived.LaidSub
import Derived.Lib.LaidTab
namespace Go.Proofs.YtchmclllcdknjaaGreatDoor
open Go.RowKit Go.ChangeShapes Go.WideShapes Go.ChangeAt Enc
theorem holds_leaving {p:Pinned} {s:OpenSpec} {c:OpenClaim} (hwf:c.wf s=true) (hlv:c.leaving=true) (hst:c.start=.entering) (hsp:c.stops=[]) (h:({c with leaving:=false}:OpenClaim).holds p s):c.holds p s:=by
  obtain ⟨a1,a2,a3,a4,a5,a6,a7,a8,f,fn,g1,g2,r,b1,b2,b3,b4,b5,k,c1,c2,c3,c4,c5,c6,m,l,q,n1,v1,e1,L,hL,all⟩:=h
  refine ⟨hwf,a2,a3,a4,a5,a6,a7,a8,f,fn,g1,g2,r,b1,b2,b3,b4,b5,k,c1,c2,c3,c4,c5,c6,m,l,q,n1,v1,e1,L,hL,fun os x y H enc inj=>?_⟩
  have A:=all os x y H enc inj
  unfold OpenClaim.form at A ⊢
  simp only [hst,hsp] at A ⊢
  intro F
  obtain ⟨z0,z1,z2,z3,al⟩:=A F
  refine ⟨z0,z1,z2,z3,fun w tape i hf=>?_⟩
  obtain ⟨n,v,w',hn,hc,hr,hp,⟨j,last,hj,hs,hq⟩,ha⟩:=al w tape i hf
  refine ⟨n,v,w',hn,hc,hr,hp,⟨j,last,hj,hs,?_⟩,ha⟩
  have e:c.atReturn p.checked.prog=leavingAtReturn p.checked.prog:=by unfold OpenClaim.atReturn; rw [hlv]
  rw [e]
  have hq':aloneAtReturn p.checked.prog last w' (runNT p.checked.prog n (Machine.entering p.checked.prog w tape f i) #[]).2:=hq
  exact ⟨hq'.2.1,onlyLeaving_of_quiet hq'.1,hq'.2.2⟩
theorem holds_tied_goes (Lk:Looks) {p:Pinned} {s:OpenSpec} {c:OpenClaim} (kinds:List LaidKind) (tests:Bool) (har:Bool×String) (lk:Bool)
    (hc:c.holds p s) (hw:c.wfByText s=true) (htie:c.laidByTextAt Lk p kinds tests)
    (hst:c.start=.entering) (hnb:c.noBlocks=false∧c.again=false) (hm:p.checked.prog.mainIs=some (har.1,har.2.toList)) (hn:(!har.1&&har.2.isEmpty&&!lk)=false)
    (hl:∀ f fn,p.checked.prog.funcNamed c.func=some f→p.checked.prog.funcs[f]? = some fn→lk=p.checked.prog.looks []∧∀ (j:Nat) t,fn.params[j]? = some t→p.checked.prog.wantsStandIn t=false)
    (hg:true=c.goesBy p.checked.prog) :
    Claim7.holds p (.plain s) {stood:={row:=c,standIns:=[],harness:=har,looks:=lk},kinds:=[],alts:=[],goes:=true,laidByText:=true,laidKinds:=kinds,laidTests:=tests,laidLooks:=Lk}:=by
  have h6:Claim7.isSixth {stood:={row:=c,standIns:=[],harness:=har,looks:=lk},kinds:=[]}=false:=by simpa [Claim7.isSixth] using hn
  exact ⟨Claim7.tied_new_at Lk kinds tests (Claim7.new_of_sixth hc har lk hst hnb hm h6 hl) hw,fun D hD=>(by cases hD),htie,(fun h=>by cases h),hg⟩
theorem tab_of_laid {P:Program} {W:World} {laid:List (String×DataW Unit)} {g:Nat} {t e:TypeId} {n:Nat} (hg:P.globalNamed "internal/strconv.uint64pow10"=some g) (hty:(P.globals[g]?).map (·.type)=some t) (ht:P.underlying t=some (.array n e)) (he:P.underlying e=some (.int .u64))
    (hce:P.cellsOf e=1) (hct:P.cellsOf t=n) (hp:(laid.all fun x=>x.2.handleName?.isNone)=true) (hf:(laid.filter fun x=>x.1== "internal/strconv.uint64pow10")=[("internal/strconv.uint64pow10",Lib.tabData .u64 Lib.pow10Tab)]) (h:laidMetH P laid W):Tab P W:=by
  rw [MakeChecks.laidMetH_plain _ _ _ hp] at h
  have h2:=laidMet.filter (fun x=>x.1== "internal/strconv.uint64pow10") h
  rw [hf] at h2
  exact Lib.tabIs_of_head hg hty ht he hce hct h2
end Go.Proofs.YtchmclllcdknjaaGreatDoor
