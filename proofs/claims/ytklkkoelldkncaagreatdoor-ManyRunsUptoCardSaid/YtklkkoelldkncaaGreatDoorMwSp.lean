/-
  What the functions compute, typed; printed by a program.
-/
import Derived.Test.YtklkkoelldkncaaGreatDoorGoMG
set_option linter.unusedSimpArgs false
set_option linter.unusedVariables false
namespace Go.Proofs.YtklkkoelldkncaaGreatDoor
open Go.RowKit an
set_option linter.unusedVariables false
set_option linter.unusedSimpArgs false
set_option maxHeartbeats 1000000
structure dJ where
 ba:Int
 cI:Int
 fw:Int
 aM:Y
instance :DecidableEq dJ:=λa b=>decidable_of_iff (a.ba=b.ba/\a.cI=b.cI/\a.fw=b.fw/\a.aM=b.aM) (by cases a;cases b;simp)
def dJ.zero:dJ:=⟨(0:Int),(0:Int),(0:Int),([]:Y)⟩
instance :an dJ:=⟨λp=>enc p.ba++(enc p.cI++(enc p.fw++(enc p.aM))),4,λp=>by simp only[cr,an.len];rfl,λp=>by simp only[jc,an.one,jG]⟩
theorem GQ{p:dJ}{k:Nat}{ch:List Value}(h:bu (enc p.ba) k ch):bu (enc p) (0+k) ch:=dS (eW h) O
theorem abP{p:dJ}{k:Nat}{vs:List Value}{y:Int}(h:bA (enc p.ba) k vs (enc y)):bA (enc p) (0+k) vs (enc ({p with ba:=y}:dJ)):=dP (cs':=enc ({p with ba:=y}:dJ)) (eE h) O
theorem Ny{p:dJ}{k:Nat}{ch:List Value}(h:bu (enc p.cI) k ch):bu (enc p) (1+k) ch:=dS (bX (m:=1) (an.len _) (eW h)) O
theorem abR{p:dJ}{k:Nat}{vs:List Value}{y:Int}(h:bA (enc p.cI) k vs (enc y)):bA (enc p) (1+k) vs (enc ({p with cI:=y}:dJ)):=dP (cs':=enc ({p with cI:=y}:dJ)) (bU (m:=1) (an.len _) (eE h)) O
theorem GO{p:dJ}{k:Nat}{ch:List Value}(h:bu (enc p.fw) k ch):bu (enc p) (2+k) ch:=dS (bX (m:=1) (an.len _) (bX (m:=1) (an.len _) (eW h))) O
theorem abO{p:dJ}{k:Nat}{vs:List Value}{y:Int}(h:bA (enc p.fw) k vs (enc y)):bA (enc p) (2+k) vs (enc ({p with fw:=y}:dJ)):=dP (cs':=enc ({p with fw:=y}:dJ)) (bU (m:=1) (an.len _) (bU (m:=1) (an.len _) (eE h))) O
theorem GR{p:dJ}{k:Nat}{ch:List Value}(h:bu (enc p.aM) k ch):bu (enc p) (3+k) ch:=dS (bX (m:=1) (an.len _) (bX (m:=1) (an.len _) (bX (m:=1) (an.len _) h))) O
theorem abQ{p:dJ}{k:Nat}{vs:List Value}{y:Y}(h:bA (enc p.aM) k vs (enc y)):bA (enc p) (3+k) vs (enc ({p with aM:=y}:dJ)):=dP (cs':=enc ({p with aM:=y}:dJ)) (bU (m:=1) (an.len _) (bU (m:=1) (an.len _) (bU (m:=1) (an.len _) h))) O
instance :cq dJ:=⟨λp=>cq.ok p.ba/\cq.ok p.cI/\cq.ok p.fw/\cq.ok p.aM⟩
instance :cR dJ:=⟨λB p=>cR.ok B p.ba/\cR.ok B p.cI/\cR.ok B p.fw/\cR.ok B p.aM⟩
structure fN where
 N:Int
 dN:List dJ
instance :DecidableEq fN:=λa b=>decidable_of_iff (a.N=b.N/\a.dN=b.dN) (by cases a;cases b;simp)
def fN.zero:fN:=⟨(0:Int),[]⟩
instance :cq fN:=⟨λp=>cq.ok p.N/\cq.ok p.dN⟩
instance :cR fN:=⟨λB p=>cR.ok B p.N/\cR.ok B p.dN⟩
structure bh where
 bS:Int
 bx:BitVec 8
instance :DecidableEq bh:=λa b=>decidable_of_iff (a.bS=b.bS/\a.bx=b.bx) (by cases a;cases b;simp)
def bh.zero:bh:=⟨(0:Int),(0:BitVec 8)⟩
instance :an bh:=⟨λp=>enc p.bS++(enc p.bx),2,λp=>by simp only[cr,an.len];rfl,λp=>by simp only[jc,an.one,jG]⟩
theorem Q3{p:bh}{k:Nat}{ch:List Value}(h:bu (enc p.bS) k ch):bu (enc p) (0+k) ch:=dS (eW h) O
theorem acD{p:bh}{k:Nat}{vs:List Value}{y:Int}(h:bA (enc p.bS) k vs (enc y)):bA (enc p) (0+k) vs (enc ({p with bS:=y}:bh)):=dP (cs':=enc ({p with bS:=y}:bh)) (eE h) O
theorem Q2{p:bh}{k:Nat}{ch:List Value}(h:bu (enc p.bx) k ch):bu (enc p) (1+k) ch:=dS (bX (m:=1) (an.len _) h) O
theorem acC{p:bh}{k:Nat}{vs:List Value}{y:BitVec 8}(h:bA (enc p.bx) k vs (enc y)):bA (enc p) (1+k) vs (enc ({p with bx:=y}:bh)):=dP (cs':=enc ({p with bx:=y}:bh)) (bU (m:=1) (an.len _) h) O
instance :cq bh:=⟨λp=>cq.ok p.bS/\cq.ok p.bx⟩
instance :cR bh:=⟨λB p=>cR.ok B p.bS/\cR.ok B p.bx⟩
structure dk where
 jB:Int
 fv:List Int
 kc:bh
 fy:List (Vector Int 10)
instance :DecidableEq dk:=λa b=>decidable_of_iff (a.jB=b.jB/\a.fv=b.fv/\a.kc=b.kc/\a.fy=b.fy) (by cases a;cases b;simp)
def dk.zero:dk:=⟨(0:Int),[],bh.zero,[]⟩
instance :cq dk:=⟨λp=>cq.ok p.jB/\cq.ok p.fv/\cq.ok p.kc/\cq.ok p.fy⟩
instance :cR dk:=⟨λB p=>cR.ok B p.jB/\cR.ok B p.fv/\cR.ok B p.kc/\cR.ok B p.fy⟩
structure ay where
 aw:Int
 aM:Y
instance :DecidableEq ay:=λa b=>decidable_of_iff (a.aw=b.aw/\a.aM=b.aM) (by cases a;cases b;simp)
def ay.zero:ay:=⟨(0:Int),([]:Y)⟩
instance :an ay:=⟨λp=>enc p.aw++(enc p.aM),2,λp=>by simp only[cr,an.len];rfl,λp=>by simp only[jc,an.one,jG]⟩
theorem HY{p:ay}{k:Nat}{ch:List Value}(h:bu (enc p.aw) k ch):bu (enc p) (0+k) ch:=dS (eW h) O
theorem acx{p:ay}{k:Nat}{vs:List Value}{y:Int}(h:bA (enc p.aw) k vs (enc y)):bA (enc p) (0+k) vs (enc ({p with aw:=y}:ay)):=dP (cs':=enc ({p with aw:=y}:ay)) (eE h) O
theorem HZ{p:ay}{k:Nat}{ch:List Value}(h:bu (enc p.aM) k ch):bu (enc p) (1+k) ch:=dS (bX (m:=1) (an.len _) h) O
theorem acy{p:ay}{k:Nat}{vs:List Value}{y:Y}(h:bA (enc p.aM) k vs (enc y)):bA (enc p) (1+k) vs (enc ({p with aM:=y}:ay)):=dP (cs':=enc ({p with aM:=y}:ay)) (bU (m:=1) (an.len _) h) O
instance :cq ay:=⟨λp=>cq.ok p.aw/\cq.ok p.aM⟩
instance :cR ay:=⟨λB p=>cR.ok B p.aw/\cR.ok B p.aM⟩
structure aw where
 Base:Int
 aJ:List Y
instance :DecidableEq aw:=λa b=>decidable_of_iff (a.Base=b.Base/\a.aJ=b.aJ) (by cases a;cases b;simp)
def aw.zero:aw:=⟨(0:Int),[]⟩
instance :cq aw:=⟨λp=>cq.ok p.Base/\cq.ok p.aJ⟩
instance :cR aw:=⟨λB p=>cR.ok B p.Base/\cR.ok B p.aJ⟩
structure aP where
 ao:Int
 aM:Y
instance :DecidableEq aP:=λa b=>decidable_of_iff (a.ao=b.ao/\a.aM=b.aM) (by cases a;cases b;simp)
def aP.zero:aP:=⟨(0:Int),([]:Y)⟩
instance :an aP:=⟨λp=>enc p.ao++(enc p.aM),2,λp=>by simp only[cr,an.len];rfl,λp=>by simp only[jc,an.one,jG]⟩
theorem Qo{p:aP}{k:Nat}{ch:List Value}(h:bu (enc p.ao) k ch):bu (enc p) (0+k) ch:=dS (eW h) O
theorem aco{p:aP}{k:Nat}{vs:List Value}{y:Int}(h:bA (enc p.ao) k vs (enc y)):bA (enc p) (0+k) vs (enc ({p with ao:=y}:aP)):=dP (cs':=enc ({p with ao:=y}:aP)) (eE h) O
theorem Qp{p:aP}{k:Nat}{ch:List Value}(h:bu (enc p.aM) k ch):bu (enc p) (1+k) ch:=dS (bX (m:=1) (an.len _) h) O
theorem acp{p:aP}{k:Nat}{vs:List Value}{y:Y}(h:bA (enc p.aM) k vs (enc y)):bA (enc p) (1+k) vs (enc ({p with aM:=y}:aP)):=dP (cs':=enc ({p with aM:=y}:aP)) (bU (m:=1) (an.len _) h) O
instance :cq aP:=⟨λp=>cq.ok p.ao/\cq.ok p.aM⟩
instance :cR aP:=⟨λB p=>cR.ok B p.ao/\cR.ok B p.aM⟩
structure To where
 Next:Int
 bg:List aP
instance :DecidableEq To:=λa b=>decidable_of_iff (a.Next=b.Next/\a.bg=b.bg) (by cases a;cases b;simp)
def To.zero:To:=⟨(0:Int),[]⟩
instance :cq To:=⟨λp=>cq.ok p.Next/\cq.ok p.bg⟩
instance :cR To:=⟨λB p=>cR.ok B p.Next/\cR.ok B p.bg⟩
structure bm where
 ea:Bool
 bd:List ay
 au:aw
 to:To
 bw:To
instance :DecidableEq bm:=λa b=>decidable_of_iff (a.ea=b.ea/\a.bd=b.bd/\a.au=b.au/\a.to=b.to/\a.bw=b.bw) (by cases a;cases b;simp)
def bm.zero:bm:=⟨false,[],aw.zero,To.zero,To.zero⟩
instance :cq bm:=⟨λp=>cq.ok p.ea/\cq.ok p.bd/\cq.ok p.au/\cq.ok p.to/\cq.ok p.bw⟩
instance :cR bm:=⟨λB p=>cR.ok B p.ea/\cR.ok B p.bd/\cR.ok B p.au/\cR.ok B p.to/\cR.ok B p.bw⟩
structure bi where
 aD:bh
 all:List bm
 aQ:List Y
 ah:List Y
instance :DecidableEq bi:=λa b=>decidable_of_iff (a.aD=b.aD/\a.all=b.all/\a.aQ=b.aQ/\a.ah=b.ah) (by cases a;cases b;simp)
def bi.zero:bi:=⟨bh.zero,[],[],[]⟩
instance :cq bi:=⟨λp=>cq.ok p.aD/\cq.ok p.all/\cq.ok p.aQ/\cq.ok p.ah⟩
instance :cR bi:=⟨λB p=>cR.ok B p.aD/\cR.ok B p.all/\cR.ok B p.aQ/\cR.ok B p.ah⟩
structure aK where
 ba:Int
 aw:Int
 To:Int
 bh:Int
 ao:Int
 At:Vector Int 6
 aM:Y
instance :DecidableEq aK:=λa b=>decidable_of_iff (a.ba=b.ba/\a.aw=b.aw/\a.To=b.To/\a.bh=b.bh/\a.ao=b.ao/\a.At=b.At/\a.aM=b.aM) (by cases a;cases b;simp)
def aK.zero:aK:=⟨(0:Int),(0:Int),(0:Int),(0:Int),(0:Int),(Vector.replicate 6 (0:Int)),([]:Y)⟩
instance :an aK:=⟨λp=>enc p.ba++(enc p.aw++(enc p.To++(enc p.bh++(enc p.ao++(enc p.At++(enc p.aM)))))),12,λp=>by simp only[cr,an.len];rfl,λp=>by simp only[jc,an.one,jG]⟩
theorem Qg{p:aK}{k:Nat}{ch:List Value}(h:bu (enc p.ba) k ch):bu (enc p) (0+k) ch:=dS (eW h) O
theorem ack{p:aK}{k:Nat}{vs:List Value}{y:Int}(h:bA (enc p.ba) k vs (enc y)):bA (enc p) (0+k) vs (enc ({p with ba:=y}:aK)):=dP (cs':=enc ({p with ba:=y}:aK)) (eE h) O
theorem Qf{p:aK}{k:Nat}{ch:List Value}(h:bu (enc p.aw) k ch):bu (enc p) (1+k) ch:=dS (bX (m:=1) (an.len _) (eW h)) O
theorem acj{p:aK}{k:Nat}{vs:List Value}{y:Int}(h:bA (enc p.aw) k vs (enc y)):bA (enc p) (1+k) vs (enc ({p with aw:=y}:aK)):=dP (cs':=enc ({p with aw:=y}:aK)) (bU (m:=1) (an.len _) (eE h)) O
theorem Qj{p:aK}{k:Nat}{ch:List Value}(h:bu (enc p.To) k ch):bu (enc p) (2+k) ch:=dS (bX (m:=1) (an.len _) (bX (m:=1) (an.len _) (eW h))) O
theorem acn{p:aK}{k:Nat}{vs:List Value}{y:Int}(h:bA (enc p.To) k vs (enc y)):bA (enc p) (2+k) vs (enc ({p with To:=y}:aK)):=dP (cs':=enc ({p with To:=y}:aK)) (bU (m:=1) (an.len _) (bU (m:=1) (an.len _) (eE h))) O
theorem Qk{p:aK}{k:Nat}{ch:List Value}(h:bu (enc p.bh) k ch):bu (enc p) (3+k) ch:=dS (bX (m:=1) (an.len _) (bX (m:=1) (an.len _) (bX (m:=1) (an.len _) (eW h)))) O
theorem Qm{p:aK}{k:Nat}{vs:List Value}{y:Int}(h:bA (enc p.bh) k vs (enc y)):bA (enc p) (3+k) vs (enc ({p with bh:=y}:aK)):=dP (cs':=enc ({p with bh:=y}:aK)) (bU (m:=1) (an.len _) (bU (m:=1) (an.len _) (bU (m:=1) (an.len _) (eE h)))) O
theorem Qh{p:aK}{k:Nat}{ch:List Value}(h:bu (enc p.ao) k ch):bu (enc p) (4+k) ch:=dS (bX (m:=1) (an.len _) (bX (m:=1) (an.len _) (bX (m:=1) (an.len _) (bX (m:=1) (an.len _) (eW h))))) O
theorem acl{p:aK}{k:Nat}{vs:List Value}{y:Int}(h:bA (enc p.ao) k vs (enc y)):bA (enc p) (4+k) vs (enc ({p with ao:=y}:aK)):=dP (cs':=enc ({p with ao:=y}:aK)) (bU (m:=1) (an.len _) (bU (m:=1) (an.len _) (bU (m:=1) (an.len _) (bU (m:=1) (an.len _) (eE h))))) O
theorem Aa{p:aK}{k:Nat}{ch:List Value}(h:bu (enc p.At) k ch):bu (enc p) (5+k) ch:=dS (bX (m:=1) (an.len _) (bX (m:=1) (an.len _) (bX (m:=1) (an.len _) (bX (m:=1) (an.len _) (bX (m:=1) (an.len _) (eW h)))))) O
theorem Ql{p:aK}{k:Nat}{vs:List Value}{y:Vector Int 6}(h:bA (enc p.At) k vs (enc y)):bA (enc p) (5+k) vs (enc ({p with At:=y}:aK)):=dP (cs':=enc ({p with At:=y}:aK)) (bU (m:=1) (an.len _) (bU (m:=1) (an.len _) (bU (m:=1) (an.len _) (bU (m:=1) (an.len _) (bU (m:=1) (an.len _) (eE h)))))) O
theorem Qi{p:aK}{k:Nat}{ch:List Value}(h:bu (enc p.aM) k ch):bu (enc p) (11+k) ch:=dS (bX (m:=1) (an.len _) (bX (m:=1) (an.len _) (bX (m:=1) (an.len _) (bX (m:=1) (an.len _) (bX (m:=1) (an.len _) (bX (m:=6) (an.len _) h)))))) O
theorem acm{p:aK}{k:Nat}{vs:List Value}{y:Y}(h:bA (enc p.aM) k vs (enc y)):bA (enc p) (11+k) vs (enc ({p with aM:=y}:aK)):=dP (cs':=enc ({p with aM:=y}:aK)) (bU (m:=1) (an.len _) (bU (m:=1) (an.len _) (bU (m:=1) (an.len _) (bU (m:=1) (an.len _) (bU (m:=1) (an.len _) (bU (m:=6) (an.len _) h)))))) O
instance :cq aK:=⟨λp=>cq.ok p.ba/\cq.ok p.aw/\cq.ok p.To/\cq.ok p.bh/\cq.ok p.ao/\cq.ok p.At/\cq.ok p.aM⟩
instance :cR aK:=⟨λB p=>cR.ok B p.ba/\cR.ok B p.aw/\cR.ok B p.To/\cR.ok B p.bh/\cR.ok B p.ao/\cR.ok B p.At/\cR.ok B p.aM⟩
structure cH where
 ba:Int
 ee:Int
 N:Int
instance :DecidableEq cH:=λa b=>decidable_of_iff (a.ba=b.ba/\a.ee=b.ee/\a.N=b.N) (by cases a;cases b;simp)
def cH.zero:cH:=⟨(0:Int),(0:Int),(0:Int)⟩
instance :an cH:=⟨λp=>enc p.ba++(enc p.ee++(enc p.N)),3,λp=>by simp only[cr,an.len];rfl,λp=>by simp only[jc,an.one,jG]⟩
theorem GK{p:cH}{k:Nat}{ch:List Value}(h:bu (enc p.ba) k ch):bu (enc p) (0+k) ch:=dS (eW h) O
theorem abL{p:cH}{k:Nat}{vs:List Value}{y:Int}(h:bA (enc p.ba) k vs (enc y)):bA (enc p) (0+k) vs (enc ({p with ba:=y}:cH)):=dP (cs':=enc ({p with ba:=y}:cH)) (eE h) O
theorem zK{p:cH}{k:Nat}{ch:List Value}(h:bu (enc p.ee) k ch):bu (enc p) (1+k) ch:=dS (bX (m:=1) (an.len _) (eW h)) O
theorem abK{p:cH}{k:Nat}{vs:List Value}{y:Int}(h:bA (enc p.ee) k vs (enc y)):bA (enc p) (1+k) vs (enc ({p with ee:=y}:cH)):=dP (cs':=enc ({p with ee:=y}:cH)) (bU (m:=1) (an.len _) (eE h)) O
theorem Nw{p:cH}{k:Nat}{ch:List Value}(h:bu (enc p.N) k ch):bu (enc p) (2+k) ch:=dS (bX (m:=1) (an.len _) (bX (m:=1) (an.len _) h)) O
theorem abM{p:cH}{k:Nat}{vs:List Value}{y:Int}(h:bA (enc p.N) k vs (enc y)):bA (enc p) (2+k) vs (enc ({p with N:=y}:cH)):=dP (cs':=enc ({p with N:=y}:cH)) (bU (m:=1) (an.len _) (bU (m:=1) (an.len _) h)) O
instance :cq cH:=⟨λp=>cq.ok p.ba/\cq.ok p.ee/\cq.ok p.N⟩
instance :cR cH:=⟨λB p=>cR.ok B p.ba/\cR.ok B p.ee/\cR.ok B p.N⟩
structure Mark where
 au:Int
 seq:Int
instance :DecidableEq Mark:=λa b=>decidable_of_iff (a.au=b.au/\a.seq=b.seq) (by cases a;cases b;simp)
def Mark.zero:Mark:=⟨(0:Int),(0:Int)⟩
instance :an Mark:=⟨λp=>enc p.au++(enc p.seq),2,λp=>by simp only[cr,an.len];rfl,λp=>by simp only[jc,an.one,jG]⟩
theorem Dm{p:Mark}{k:Nat}{ch:List Value}(h:bu (enc p.au) k ch):bu (enc p) (0+k) ch:=dS (eW h) O
theorem ach{p:Mark}{k:Nat}{vs:List Value}{y:Int}(h:bA (enc p.au) k vs (enc y)):bA (enc p) (0+k) vs (enc ({p with au:=y}:Mark)):=dP (cs':=enc ({p with au:=y}:Mark)) (eE h) O
theorem Qe{p:Mark}{k:Nat}{ch:List Value}(h:bu (enc p.seq) k ch):bu (enc p) (1+k) ch:=dS (bX (m:=1) (an.len _) h) O
theorem aci{p:Mark}{k:Nat}{vs:List Value}{y:Int}(h:bA (enc p.seq) k vs (enc y)):bA (enc p) (1+k) vs (enc ({p with seq:=y}:Mark)):=dP (cs':=enc ({p with seq:=y}:Mark)) (bU (m:=1) (an.len _) h) O
instance :cq Mark:=⟨λp=>cq.ok p.au/\cq.ok p.seq⟩
instance :cR Mark:=⟨λB p=>cR.ok B p.au/\cR.ok B p.seq⟩
structure bj where
 n:Int
 V:bh
 aN:List (Int×Int)
 du:Vector (List ay) 6
 dK:Vector To 6
 aJ:Vector aw 6
 dM:Vector To 6
 order:List Y
 be:List Mark
 bb:List aK
instance :DecidableEq bj:=λa b=>decidable_of_iff (a.n=b.n/\a.V=b.V/\a.aN=b.aN/\a.du=b.du/\a.dK=b.dK/\a.aJ=b.aJ/\a.dM=b.dM/\a.order=b.order/\a.be=b.be/\a.bb=b.bb) (by cases a;cases b;simp)
def bj.zero:bj:=⟨(0:Int),bh.zero,[],(Vector.replicate 6 []),(Vector.replicate 6 To.zero),(Vector.replicate 6 aw.zero),(Vector.replicate 6 To.zero),[],[],[]⟩
def oN(a:Int)(d:Int)(e:Int):Option Bool:=
 (bif decide (a>=d)then(some (decide (a<=e)))else
 some false).bind λf=>
 some f
def zt(a:Int):Option (bi×Int):=
 (oN a (1:Int) (6:Int)).bind λg=>
 bif !g then(none)else
 (cnt a).bind λe=>
 (lH a).bind λf=>
 Let (List.replicate f bm.zero) λd=>
 some (({bi.zero with aD:=({bh.zero with bx:=((1:BitVec 8)<<<e)-(1:BitVec 8)}:bh),all:=d,aQ:=([]:List Y),ah:=([]:List Y)}:bi),(0:Int))
def zu(a:Int):Option Int:=
 (oN a (1:Int) (6:Int)).bind λf=>
 bif !f then(some (1:Int))else
 (cnt a).bind λg=>
 (lH a).bind λe=>
 Let (List.replicate e bm.zero) λd=>
 none
def rI(a:bi)(d:Int):Option Int:=
 (oN d (0:Int) (aq ((a.all.length:Int)-(1:Int)))).bind λe=>
 bif !e then(some (1:Int))else
 some (0:Int)
def qe(a:bi)(d:Int):Option Bool:=
 (oN d (0:Int) (aq ((a.all.length:Int)-(1:Int)))).bind λi=>
 (bif i then((cnt d).bind λe=>
 some ((((a.aD.bx>>>e)&&&(1:BitVec 8)).toNat:Int)==((1:BitVec 8).toNat:Int)))else
 some false).bind λg=>
 (bif g then((bf a.all d).bind λf=>
 some (!f.ea))else
 some false).bind λh=>
 some h
def wa(d:bi)(e:Int):Option Int:=
 (rI d e).bind λf=>
 bif f !=(0:Int)then(some f)else
 (qe d e).bind λa=>
 bif !a then(some (11:Int))else
 some (0:Int)
def sU(a:Int)(d:Int)(e:Int):Option Bool:=
 (bif decide (a>=d)then(some (decide (a<=e)))else
 some false).bind λf=>
 some f
def oz(a:Y):Option Bool:=
 some (decide ((a.length:Int)>(200:Int)))
def B8(d:List Y)(a:Nat)(g:Unit):Option (d6 Unit Int):=
 (bf d (a:Int)).bind λf=>
 (oz f).bind λe=>
 bif e then(some (.ret (a:Int)))else
 some (.go ())
def yU(a:List Y):Option Int:=
 andThen (dT (B8 a) a.length 0 ()) λ_=>
 some (-1:Int)
def yO(a:List Y):Option Bool:=
 (yU a).bind λd=>
 some (decide (d>=(0:Int)))
def sT(a:aw):Option Int:=
 (sU a.Base (0:Int) (16777215:Int)).bind λe=>
 (bif !e then(some true)else
 some (decide ((a.aJ.length:Int)>(16:Int)))).bind λf=>
 bif f then(some (1:Int))else
 (yO a.aJ).bind λd=>
 bif d then(some (2:Int))else
 some (0:Int)
def rx(a:List Y):Option (List Y):=
 (room ([]:List Y) a).bind λd=>
 some (([]:List Y)++a)
def xD(a:aw)(e:Y):Option (aw×Int):=
 (sT a).bind λi=>
 bif i !=(0:Int)then(some (({aw.zero with aJ:=([]:List Y)}:aw),i))else
 (oz e).bind λg=>
 bif g then(some (({aw.zero with aJ:=([]:List Y)}:aw),(2:Int)))else
 (bif (a.aJ.length:Int)==(16:Int)then(some true)else
 some (decide ((aq (a.Base+(a.aJ.length:Int)))>=(16777215:Int)))).bind λh=>
 bif h then(some (({aw.zero with aJ:=([]:List Y)}:aw),(8:Int)))else
 (rx a.aJ).bind λd=>
 (room d ([e]:List Y)).bind λj=>
 Let (d++([e]:List Y)) λf=>
 some (({aw.zero with Base:=a.Base,aJ:=f}:aw),(0:Int))
def rC(a:BitVec 8):Option Bool:=
 some (((a>>>6).toNat:Int)!=((0:BitVec 8).toNat:Int))
def rA(a:bh):Option Int:=
 (bif decide (a.bS<(0:Int))then(some true)else
 some (decide (a.bS>(16777215:Int)))).bind λf=>
 (bif f then(some true)else
 some ((a.bx.toNat:Int)==((0:BitVec 8).toNat:Int))).bind λg=>
 (bif g then(some true)else
 (rC a.bx).bind λd=>
 some d).bind λe=>
 bif e then(some (1:Int))else
 some (0:Int)
def uX(a:BitVec 8):Option Int:=
 (bf ([8,0,1,0,2,0,1,0,3,0,1,0,2,0,1,0,4,0,1,0,2,0,1,0,3,0,1,0,2,0,1,0,5,0,1,0,2,0,1,0,3,0,1,0,2,0,1,0,4,0,1,0,2,0,1,0,3,0,1,0,2,0,1,0,6,0,1,0,2,0,1,0,3,0,1,0,2,0,1,0,4,0,1,0,2,0,1,0,3,0,1,0,2,0,1,0,5,0,1,0,2,0,1,0,3,0,1,0,2,0,1,0,4,0,1,0,2,0,1,0,3,0,1,0,2,0,1,0,7,0,1,0,2,0,1,0,3,0,1,0,2,0,1,0,4,0,1,0,2,0,1,0,3,0,1,0,2,0,1,0,5,0,1,0,2,0,1,0,3,0,1,0,2,0,1,0,4,0,1,0,2,0,1,0,3,0,1,0,2,0,1,0,6,0,1,0,2,0,1,0,3,0,1,0,2,0,1,0,4,0,1,0,2,0,1,0,3,0,1,0,2,0,1,0,5,0,1,0,2,0,1,0,3,0,1,0,2,0,1,0,4,0,1,0,2,0,1,0,3,0,1,0,2,0,1,0]:Y) (a.toNat:Int)).bind λd=>
 some (d.toBitVec.toNat:Int)
def qb(a:bh):Option (Int×Int):=
 (rA a).bind λd=>
 bif d !=(0:Int)then(some ((0:Int),d))else
 (uX a.bx).bind λe=>
 some (e,(0:Int))
def qh(a:bi):Option Int:=
 (qb a.aD).bind λd=>
 some d.1
def rF(a:Int)(d:Int)(e:Int):Option Bool:=
 (bif decide (a>=d)then(some (decide (a<=e)))else
 some false).bind λf=>
 some f
def tJ(a:Int):Option Bool:=
 (rF a (0:Int) (16777215:Int)).bind λd=>
 some d
def Cs(a:Int):Option Bool:=
 (tJ a).bind λd=>
 some (!d)
def B7(d:List Int)(a:Nat)(g:Unit):Option (d6 Unit Int):=
 (bf d (a:Int)).bind λf=>
 (Cs f).bind λe=>
 bif e then(some (.ret (a:Int)))else
 some (.go ())
def yT(a:List Int):Option Int:=
 andThen (dT (B7 a) a.length 0 ()) λ_=>
 some (-1:Int)
def yN(a:List Int):Option Bool:=
 (yT a).bind λd=>
 some (decide (d>=(0:Int)))
def mV(a:aK):Option Int:=
 (rF a.ba (0:Int) (255:Int)).bind λm=>
 (bif !m then(some true)else
 (rF a.aw (0:Int) (5:Int)).bind λd=>
 some (!d)).bind λi=>
 (bif i then(some true)else
 (rF a.To (0:Int) (5:Int)).bind λe=>
 some (!e)).bind λj=>
 (bif j then(some true)else
 (tJ a.bh).bind λf=>
 some (!f)).bind λk=>
 (bif k then(some true)else
 (tJ a.ao).bind λg=>
 some (!g)).bind λl=>
 bif l then(some (1:Int))else
 (yN a.At.toList).bind λh=>
 bif h then(some (1:Int))else
 bif decide ((a.aM.length:Int)>(200:Int))then(some (2:Int))else
 some (0:Int)
def vV(a:Int):Option (List (BitVec 8)):=
 some ([BitVec.ofInt 8 a,BitVec.ofInt 8 (a.fdiv (2^(min 8 64)):Int),BitVec.ofInt 8 (a.fdiv (2^(min 16 64)):Int)]:List (BitVec 8))
def zr(d:Nat)(a:(BitVec 32)):Option (BitVec 32):=
 bif ((a&&&(1:BitVec 32)).toNat:Int)==((1:BitVec 32).toNat:Int)then(some ((a>>>1)^^^(2197175160:BitVec 32)))else
 some (a>>>1)
def zq(a:Y)(d:Nat)(g:(BitVec 32)):Option (BitVec 32):=
 (bf a (d:Int)).bind λe=>
 (bE (zr) 8 0 (g^^^(BitVec.ofInt 32 (e.toBitVec.toNat:Int)))).bind λf=>
 some f
def rE(d:Y):Option (BitVec 32):=
 (lj (d.length:Int)).bind λa=>
 (bE (zq d) a 0 (4294967295:BitVec 32)).bind λe=>
 some ((4294967295:BitVec 32)^^^e)
def vU(a:BitVec 32):Option (List (BitVec 8)):=
 (vV (a.toNat:Int)).bind λd=>
 (room d ([BitVec.ofInt 8 ((a>>>24).toNat:Int)]:List (BitVec 8))).bind λe=>
 some (d++([BitVec.ofInt 8 ((a>>>24).toNat:Int)]:List (BitVec 8)))
def tL(f:List Int)(e:Nat)(d:(List (BitVec 8))):Option (List (BitVec 8)):=
 (bf f (e:Int)).bind λg=>
 (vV g).bind λa=>
 (room d a).bind λh=>
 some (d++a)
def tK(a:aK):Option (Y×Int):=
 (mV a).bind λi=>
 bif i !=(0:Int)then(some (([]:Y),i))else
 (room ([a.bh,a.ao]:List Int) a.At.toList).bind λj=>
 Let (([a.bh,a.ao]:List Int)++a.At.toList) λg=>
 (lj ((([a.bh,a.ao]:List Int)++a.At.toList).length:Int)).bind λe=>
 (bE (tL g) e 0 ([BitVec.ofInt 8 a.ba,BitVec.ofInt 8 a.aw,BitVec.ofInt 8 a.To]:List (BitVec 8))).bind λd=>
 (room d (Y.bytes a.aM)).bind λk=>
 (rE (fx (d++(Y.bytes a.aM)))).bind λh=>
 (vU h).bind λf=>
 (room (d++(Y.bytes a.aM)) f).bind λl=>
 some (fx ((d++(Y.bytes a.aM))++f),(0:Int))
def qf(a:bi)(f:Int)(g:Int)(h:Int)(i:Int)(j:Y):Option ((List Y)×bi):=
 (tK ({aK.zero with ba:=f,aw:=g,To:=h,bh:=a.aD.bS,ao:=i,aM:=j}:aK)).bind λd=>
 (bif d.2==(0:Int)then(some (decide ((a.ah.length:Int)<(60:Int))))else
 some false).bind λe=>
 bif e then((room a.ah ([d.1]:List Y)).bind λk=>
 some (a.ah++([d.1]:List Y),({a with ah:=a.ah++([d.1]:List Y)}:bi)))else
 some (a.ah,a)
def zA(a:bi)(g:Int)(h:Y):Option ((List bm)×(List Y)×bi×Int):=
 (wa a g).bind λl=>
 bif l !=(0:Int)then(some (a.all,a.ah,a,l))else
 bif decide ((h.length:Int)>(150:Int))then(some (a.all,a.ah,a,(2:Int)))else
 bif (a.ah.length:Int)==(60:Int)then(some (a.all,a.ah,a,(8:Int)))else
 (bf a.all g).bind λj=>
 (xD j.au h).bind λd=>
 bif d.2 !=(0:Int)then(some (a.all,a.ah,a,d.2))else
 (bf a.all g).bind λk=>
 Let (a.all.set g.toNat ({k with au:=d.1}:bm)) λe=>
 (qh ({a with all:=e}:bi)).bind λi=>
 (qf ({a with all:=e}:bi) (1:Int) g i (aq ((aq (d.1.Base+(d.1.aJ.length:Int)))-(1:Int))) h).bind λf=>
 some (e,f.1,({f.2 with all:=e,aQ:=a.aQ,ah:=f.1}:bi),(0:Int))
def q8(f:aw)(g:Int)(a:Nat)(d:(List aP)):Option (List aP):=
 (bf f.aJ (a:Int)).bind λe=>
 bif decide ((a:Int)<g)then((room d ([({aP.zero with ao:=aq (f.Base+(a:Int)),aM:=e}:aP)]:List aP)).bind λh=>
 some (d++([({aP.zero with ao:=aq (f.Base+(a:Int)),aM:=e}:aP)]:List aP)))else
 some d
def xE(a:aw)(f:Int):Option ((List aP)×Int):=
 (sT a).bind λe=>
 bif e !=(0:Int)then(some (([]:List aP),e))else
 (bE (q8 a f) a.aJ.length 0 ([]:List aP)).bind λd=>
 some (d,(0:Int))
def vW(e:bi)(j:Int)(h:(List aP)×Int)(g:Nat)(a:bi×(List Y)):Option (bi×(List Y)):=
 (bf h.1 (g:Int)).bind λf=>
 (qh ({a.1 with all:=e.all,aQ:=e.aQ,ah:=a.2}:bi)).bind λi=>
 (qf ({a.1 with all:=e.all,aQ:=e.aQ,ah:=a.2}:bi) (1:Int) j i f.ao f.aM).bind λd=>
 some (({d.2 with all:=e.all,aQ:=e.aQ,ah:=d.1}:bi),d.1)
def zv(a:bi)(e:Int):Option ((List Y)×bi×Int):=
 (wa a e).bind λl=>
 bif l !=(0:Int)then(some (a.ah,a,l))else
 (bf a.all e).bind λj=>
 (xE j.au (4:Int)).bind λg=>
 (bE (vW a e g) g.1.length 0 (a,a.ah)).bind λ(h,f)=>
 (qh ({h with all:=a.all,aQ:=a.aQ,ah:=f}:bi)).bind λi=>
 (bf a.all e).bind λk=>
 (qf ({h with all:=a.all,aQ:=a.aQ,ah:=f}:bi) (3:Int) e i k.to.Next ([]:Y)).bind λd=>
 some (d.1,({d.2 with all:=a.all,aQ:=a.aQ,ah:=d.1}:bi),(0:Int))
def yP(a:List Y)(d:Int)(e:Int):Option (List Y):=
 (co a d e).bind λg=>
 bif d==e then(some a)else
 (co a 0 d).bind λh=>
 (co a e (a.length:Int)).bind λf=>
 some (a.take ((d:Int).toNat)++a.drop ((e:Int).toNat))
def oM(a:Int)(d:Y):Option Int:=
 (bf d (aq ((3:Int)+(aq ((3:Int)*a))))).bind λe=>
 (bf d (aq ((aq ((3:Int)+(aq ((3:Int)*a))))+(1:Int)))).bind λf=>
 (bf d (aq ((aq ((3:Int)+(aq ((3:Int)*a))))+(2:Int)))).bind λg=>
 some (aq ((BitVec.ofInt 64 (aq ((BitVec.ofInt 64 (e.toBitVec.toNat:Int)|||BitVec.ofInt 64 (aq ((f.toBitVec.toNat:Int)*2^(min 8 64)))).toNat:Int))|||BitVec.ofInt 64 (aq ((g.toBitVec.toNat:Int)*2^(min 16 64)))).toNat:Int))
def vT(g:Y)(a:Nat)(d:aK):Option aK:=
 (oM (aq ((2:Int)+(a:Int))) g).bind λf=>
 (dI d.At (a:Int)).bind λh=>
 Let ({d with At:=d.At.setIfInBounds (a:Int).toNat f}:aK) λe=>
 some e
def zp(d:Y):Option (aK×Int):=
 bif decide ((d.length:Int)>(231:Int))then(some (aK.zero,(2:Int)))else
 bif decide ((d.length:Int)<(31:Int))then(some (aK.zero,(3:Int)))else
 (co d 0 (aq ((d.length:Int)-(4:Int)))).bind λa=>
 (co d (aq ((d.length:Int)-(4:Int))) (d.length:Int)).bind λo=>
 (rE a).bind λh=>
 (vU h).bind λi=>
 bif !(decide (fx i=o))then(some (aK.zero,(5:Int)))else
 (bf a (0:Int)).bind λl=>
 (bf a (1:Int)).bind λm=>
 (bf a (2:Int)).bind λn=>
 (oM (0:Int) a).bind λj=>
 (oM (1:Int) a).bind λk=>
 (co a (27:Int) (a.length:Int)).bind λg=>
 (bE (vT a) 6 0 ({aK.zero with ba:=(l.toBitVec.toNat:Int),aw:=(m.toBitVec.toNat:Int),To:=(n.toBitVec.toNat:Int),bh:=j,ao:=k,aM:=g}:aK)).bind λf=>
 (mV f).bind λe=>
 bif e !=(0:Int)then(some (aK.zero,e))else
 some (f,(0:Int))
def uR(g:To)(h:Nat)(i:Int):Option (d6 Int Int):=
 (bf g.bg (h:Int)).bind λa=>
 (bif decide (a.ao<=i)then(some true)else
 some (decide (a.ao>=(aq (g.Next+(16:Int)))))).bind λe=>
 (bif e then(some true)else
 (oz a.aM).bind λd=>
 some d).bind λf=>
 bif f then(some (.ret (4:Int)))else
 some (.go a.ao)
def xB(a:To):Option Int:=
 (sU a.Next (0:Int) (16777215:Int)).bind λd=>
 bif !d then(some (1:Int))else
 bif decide ((a.bg.length:Int)>(16:Int))then(some (2:Int))else
 andThen (dT (uR a) a.bg.length 0 a.Next) λe=>
 some (0:Int)
def vE(a:List aP):Option (List aP):=
 (room ([]:List aP) a).bind λd=>
 some (([]:List aP)++a)
def uS(a:aP)(d:Int):Option Int:=
 some (aq (a.ao-d))
def yK(f:List aP)(g:Int)(a:Int×Int):Option (d6 (Int×Int) (Int×Bool)):=
 bif decide (a.1<a.2)then((bf f (aq (((BitVec.ofInt 64 (aq (a.1+a.2)))>>>1).toNat:Int))).bind λe=>
 (uS e g).bind λd=>
 bif decide (d<(0:Int))then(some (.go (aq ((aq (((BitVec.ofInt 64 (aq (a.1+a.2)))>>>1).toNat:Int))+(1:Int)),a.2)))else
 some (.go (a.1,aq (((BitVec.ofInt 64 (aq (a.1+a.2)))>>>1).toNat:Int))))else
 some (.fZ (a.1,a.2))
def yJ(fu:Nat)(a:List aP)(g:Int):Option (Int×Bool):=
 andThen (df (yK a g) fu ((0:Int),(a.length:Int))) λ(f,i)=>
 (bif decide (f<(a.length:Int))then((bf a f).bind λe=>
 (uS e g).bind λd=>
 some (d==(0:Int)))else
 some false).bind λh=>
 some (f,h)
def tE(a:List aP)(d:Int)(e:List aP):Option (List aP):=
 (co a d (a.length:Int)).bind λ_=>
 (room a e).bind λ_=>
 some (a.take d.toNat++e++a.drop d.toNat)
def q9(a:To×(List Y)×(List aP)):Option (d6 (To×(List Y)×(List aP)) (To×(List Y)×Int)):=
 (bif decide ((a.2.2.length:Int)>(0:Int))then((bf a.2.2 (0:Int)).bind λg=>
 some (g.ao==a.1.Next))else
 some false).bind λh=>
 bif h then((bf a.2.2 (0:Int)).bind λe=>
 (room a.2.1 ([e.aM]:List Y)).bind λi=>
 (co a.2.2 (1:Int) (a.2.2.length:Int)).bind λd=>
 Let (aq (a.1.Next+(1:Int))) λf=>
 some (.go (({a.1 with Next:=f,bg:=d}:To),a.2.1++([e.aM]:List Y),d)))else
 some (.fZ (({a.1 with bg:=a.2.2}:To),a.2.1,a.2.2))
def mF(fu:Nat)(d:To)(e:aP):Option (To×(List Y)×Int):=
 (xB d).bind λs=>
 bif s !=(0:Int)then(some (({To.zero with bg:=([]:List aP)}:To),([]:List Y),s))else
 (sU e.ao (0:Int) (16777214:Int)).bind λk=>
 bif !k then(some (({To.zero with bg:=([]:List aP)}:To),([]:List Y),(1:Int)))else
 (oz e.aM).bind λl=>
 bif l then(some (({To.zero with bg:=([]:List aP)}:To),([]:List Y),(2:Int)))else
 (vE d.bg).bind λm=>
 Let (([]:List aP),m) λ(t,a)=>
 (yJ fu a e.ao).bind λg=>
 (bif decide (e.ao<d.Next)then(some true)else
 some (decide (e.ao>=(aq (d.Next+(16:Int)))))).bind λo=>
 (bif o then(some true)else
 some g.2).bind λp=>
 bif p then(some (({To.zero with Next:=d.Next,bg:=a}:To),([]:List Y),(0:Int)))else
 bif decide (e.ao>d.Next)then((tE a g.1 ([e]:List aP)).bind λn=>
 some (({To.zero with Next:=d.Next,bg:=n}:To),([]:List Y),(0:Int)))else
 Let (aq (d.Next+(1:Int))) λj=>
 andThen (df (q9) fu (({To.zero with Next:=j,bg:=a}:To),([e.aM]:List Y),a)) λ(q,h,i)=>
 (vE i).bind λf=>
 some (({q with bg:=f}:To),h,(0:Int))
def uz(a:Int):Option Y:=
 bif decide (a<(10:Int))then((co ([48,49,50,51,52,53,54,55,56,57,97,98,99,100,101,102,103,104,105,106,107,108,109,110,111,112,113,114,115,116,117,118,119,120,121,122]:Y) a (aq (a+(1:Int)))).bind λd=>
 some d)else
 (co (fS:Y) (aq (a*(2:Int))) (aq ((aq (a*(2:Int)))+(2:Int)))).bind λe=>
 some e
def sW(a:BitVec 64):Option Int:=
 (bif decide ((a.toNat:Int)>=((4294967296:BitVec 64).toNat:Int))then(some (a>>>32,(32:Int)))else
 some (a,(0:Int))).bind λ(e,i)=>
 (bif decide ((e.toNat:Int)>=((65536:BitVec 64).toNat:Int))then(some (e>>>16,aq (i+(16:Int))))else
 some (e,i)).bind λ(h,j)=>
 (bif decide ((h.toNat:Int)>=((256:BitVec 64).toNat:Int))then(some (h>>>8,aq (j+(8:Int))))else
 some (h,j)).bind λ(f,g)=>
 (bf (Bm:Y) ((BitVec.ofInt 8 (f.toNat:Int)).toNat:Int)).bind λd=>
 some (aq (g+(d.toBitVec.toNat:Int)))
def uy(a:Int):Option Int:=
 some ((aq (a*(78913:Int))).fdiv (2^(min 18 64)):Int)
def uw(a:Bool):Option Int:=
 bif a then(some (1:Int))else
 some (0:Int)
def po(a:(BitVec 64)×Int×(List (BitVec 8))):Option (d6 ((BitVec 64)×Int×(List (BitVec 8))) (List (BitVec 8))):=
 bif decide (a.2.1>=(8:Int))then((bf (fS:Y) ((((((BitVec.ofInt 32 ((a.1%(100000000:BitVec 64)).toNat:Int))%(10000:BitVec 32))%(100:BitVec 32))*(2:BitVec 32))+(1:BitVec 32)).toNat:Int)).bind λA=>
 (bf (fS:Y) (((((BitVec.ofInt 32 ((a.1%(100000000:BitVec 64)).toNat:Int))%(10000:BitVec 32))%(100:BitVec 32))*(2:BitVec 32)).toNat:Int)).bind λB=>
 (bf a.2.2 (aq (a.2.1-(1:Int)))).bind λP=>
 Let (a.2.2.set (aq (a.2.1-(1:Int))).toNat A.toBitVec) λy=>
 Let y λd=>
 (bf d (aq (a.2.1-(2:Int)))).bind λC=>
 Let (d.set (aq (a.2.1-(2:Int))).toNat B.toBitVec) λh=>
 (bf (fS:Y) ((((((BitVec.ofInt 32 ((a.1%(100000000:BitVec 64)).toNat:Int))%(10000:BitVec 32))/(100:BitVec 32))*(2:BitVec 32))+(1:BitVec 32)).toNat:Int)).bind λo=>
 (bf (fS:Y) (((((BitVec.ofInt 32 ((a.1%(100000000:BitVec 64)).toNat:Int))%(10000:BitVec 32))/(100:BitVec 32))*(2:BitVec 32)).toNat:Int)).bind λp=>
 (bf h (aq (a.2.1-(3:Int)))).bind λD=>
 Let (h.set (aq (a.2.1-(3:Int))).toNat o.toBitVec) λk=>
 Let k λe=>
 (bf e (aq (a.2.1-(4:Int)))).bind λF=>
 Let (e.set (aq (a.2.1-(4:Int))).toNat p.toBitVec) λi=>
 (bf (fS:Y) ((((((BitVec.ofInt 32 ((a.1%(100000000:BitVec 64)).toNat:Int))/(10000:BitVec 32))%(100:BitVec 32))*(2:BitVec 32))+(1:BitVec 32)).toNat:Int)).bind λq=>
 (bf (fS:Y) (((((BitVec.ofInt 32 ((a.1%(100000000:BitVec 64)).toNat:Int))/(10000:BitVec 32))%(100:BitVec 32))*(2:BitVec 32)).toNat:Int)).bind λs=>
 (bf i (aq (a.2.1-(5:Int)))).bind λH=>
 Let (i.set (aq (a.2.1-(5:Int))).toNat q.toBitVec) λl=>
 Let l λf=>
 (bf f (aq (a.2.1-(6:Int)))).bind λK=>
 Let (f.set (aq (a.2.1-(6:Int))).toNat s.toBitVec) λj=>
 (bf (fS:Y) ((((((BitVec.ofInt 32 ((a.1%(100000000:BitVec 64)).toNat:Int))/(10000:BitVec 32))/(100:BitVec 32))*(2:BitVec 32))+(1:BitVec 32)).toNat:Int)).bind λt=>
 (bf (fS:Y) (((((BitVec.ofInt 32 ((a.1%(100000000:BitVec 64)).toNat:Int))/(10000:BitVec 32))/(100:BitVec 32))*(2:BitVec 32)).toNat:Int)).bind λx=>
 (bf j (aq (a.2.1-(7:Int)))).bind λL=>
 Let (j.set (aq (a.2.1-(7:Int))).toNat t.toBitVec) λm=>
 Let m λg=>
 (bf g (aq (a.2.1-(8:Int)))).bind λM=>
 Let (g.set (aq (a.2.1-(8:Int))).toNat x.toBitVec) λn=>
 some (.go (a.1/(100000000:BitVec 64),aq (a.2.1-(8:Int)),n)))else
 some (.fZ (a.1,a.2.1,a.2.2))
def ux(fu:Nat)(K:List (BitVec 8))(L:BitVec 64):Option (List (BitVec 8)):=
 andThen (df (po) fu (L,(K.length:Int),K)) λ(h,a,m)=>
 (bif decide (a>=(4:Int))then((bf (fS:Y) ((((((BitVec.ofInt 32 (h.toNat:Int))%(10000:BitVec 32))%(100:BitVec 32))*(2:BitVec 32))+(1:BitVec 32)).toNat:Int)).bind λx=>
 (bf (fS:Y) (((((BitVec.ofInt 32 (h.toNat:Int))%(10000:BitVec 32))%(100:BitVec 32))*(2:BitVec 32)).toNat:Int)).bind λy=>
 (bf m (aq (a-(1:Int)))).bind λM=>
 Let (m.set (aq (a-(1:Int))).toNat x.toBitVec) λn=>
 Let n λi=>
 (bf i (aq (a-(2:Int)))).bind λP=>
 Let (i.set (aq (a-(2:Int))).toNat y.toBitVec) λl=>
 (bf (fS:Y) ((((((BitVec.ofInt 32 (h.toNat:Int))%(10000:BitVec 32))/(100:BitVec 32))*(2:BitVec 32))+(1:BitVec 32)).toNat:Int)).bind λA=>
 (bf (fS:Y) (((((BitVec.ofInt 32 (h.toNat:Int))%(10000:BitVec 32))/(100:BitVec 32))*(2:BitVec 32)).toNat:Int)).bind λB=>
 (bf l (aq (a-(3:Int)))).bind λQ=>
 Let (l.set (aq (a-(3:Int))).toNat A.toBitVec) λo=>
 Let o λj=>
 (bf j (aq (a-(4:Int)))).bind λS=>
 Let (j.set (aq (a-(4:Int))).toNat B.toBitVec) λp=>
 some (aq (a-(4:Int)),(BitVec.ofInt 32 (h.toNat:Int))/(10000:BitVec 32),p))else
 some (a,BitVec.ofInt 32 (h.toNat:Int),m)).bind λ(g,d,e)=>
 (bif decide (g>=(2:Int))then((bf (fS:Y) ((((d%(100:BitVec 32))*(2:BitVec 32))+(1:BitVec 32)).toNat:Int)).bind λC=>
 (bf (fS:Y) (((d%(100:BitVec 32))*(2:BitVec 32)).toNat:Int)).bind λD=>
 (bf e (aq (g-(1:Int)))).bind λT=>
 Let (e.set (aq (g-(1:Int))).toNat C.toBitVec) λq=>
 Let q λk=>
 (bf k (aq (g-(2:Int)))).bind λV=>
 Let (k.set (aq (g-(2:Int))).toNat D.toBitVec) λs=>
 some (aq (g-(2:Int)),d/(100:BitVec 32),s))else
 some (g,d,e)).bind λ(F,H,f)=>
 bif decide (F>(0:Int))then((bf f (0:Int)).bind λW=>
 Let (f.set (0:Int).toNat (BitVec.ofInt 8 (((48:BitVec 32)+H).toNat:Int))) λt=>
 some t)else
 some f
def tF(a:Int):Option Y:=uB a
def vZ(h:List bm)(g:List Y)(f:Y)(d:Y)(e:Y)(j:Nat)(a:bi×(List Y)):Option (bi×(List Y)):=
 (qe ({a.1 with all:=h,aQ:=g++([(((d++([58]:Y))++e)++([58]:Y))++f]:List Y),ah:=a.2}:bi) (j:Int)).bind λk=>
 bif k then((qh ({a.1 with all:=h,aQ:=g++([(((d++([58]:Y))++e)++([58]:Y))++f]:List Y),ah:=a.2}:bi)).bind λl=>
 (qf ({a.1 with all:=h,aQ:=g++([(((d++([58]:Y))++e)++([58]:Y))++f]:List Y),ah:=a.2}:bi) (2:Int) l (j:Int) (aq (((g++([(((d++([58]:Y))++e)++([58]:Y))++f]:List Y)).length:Int)-(1:Int))) ((((d++([58]:Y))++e)++([58]:Y))++f)).bind λi=>
 some (({i.2 with all:=h,aQ:=g++([(((d++([58]:Y))++e)++([58]:Y))++f]:List Y),ah:=i.1}:bi),i.1))else
 some (({a.1 with all:=h,aQ:=g++([(((d++([58]:Y))++e)++([58]:Y))++f]:List Y),ah:=a.2}:bi),a.2)
def rJ(l:aK)(s:bm)(j:List Y)(g:List bm)(h:Nat)(e:bi×(List Y)×(List Y)):Option (bi×(List Y)×(List Y)):=
 (bf j (h:Int)).bind λf=>
 (tF l.aw).bind λa=>
 (room a ([58]:Y)).bind λm=>
 (tF (aq (s.bw.Next+(h:Int)))).bind λd=>
 (room (a++([58]:Y)) d).bind λn=>
 (room ((a++([58]:Y))++d) ([58]:Y)).bind λo=>
 (room (((a++([58]:Y))++d)++([58]:Y)) f).bind λp=>
 (room e.2.1 ([(((a++([58]:Y))++d)++([58]:Y))++f]:List Y)).bind λq=>
 (bE (vZ g e.2.1 f a d) g.length 0 (({e.1 with all:=g,aQ:=e.2.1++([(((a++([58]:Y))++d)++([58]:Y))++f]:List Y),ah:=e.2.2}:bi),e.2.2)).bind λ(k,i)=>
 some (({k with all:=g,aQ:=e.2.1++([(((a++([58]:Y))++d)++([58]:Y))++f]:List Y),ah:=i}:bi),e.2.1++([(((a++([58]:Y))++d)++([58]:Y))++f]:List Y),i)
def zE(fu:Nat)(a:bi)(f:aK):Option ((List bm)×(List Y)×(List Y)×bi):=
 (bf a.all f.aw).bind λk=>
 (mF fu k.bw ({aP.zero with ao:=f.ao,aM:=f.aM}:aP)).bind λe=>
 Let (e.1.bg,e.2.1) λ(j,g)=>
 bif e.2.2 !=(0:Int)then(some (a.all,a.aQ,a.ah,a))else
 Let (a.all.set f.aw.toNat ({k with bw:=({e.1 with bg:=j}:To)}:bm)) λd=>
 (bE (rJ f k g d) g.length 0 (({a with all:=d}:bi),a.aQ,a.ah)).bind λ(l,h,i)=>
 some (d,h,i,({l with all:=d,aQ:=h,ah:=i}:bi))
def xq(a:Y)(d:BitVec 8):Option Int:=
 some (Gb a d)
def sI(d:Y)(a:Y):Option Int:=
 (bif (a.length:Int)==(0:Int)then(some true)else
 some (decide (a=d))).bind λf=>
 bif f then(some (0:Int))else
 bif (a.length:Int)==(1:Int)then((bf a (0:Int)).bind λe=>
 (xq d e.toBitVec).bind λmf=>
 some mf)else
 bif decide ((a.length:Int)>=(d.length:Int))then(some (-1:Int))else
 none
def AT(a:Y)(e:Y):Option (Y×Y×Bool):=
 (sI a e).bind λd=>
 bif decide (d>=(0:Int))then((co a 0 d).bind λf=>
 (co a (aq (d+(e.length:Int))) (a.length:Int)).bind λg=>
 some (f,g,true))else
 some (a,([]:Y),false)
def mh(d:Y)(e:Y):Option (Y×Y×Bool):=
 (AT d e).bind λa=>
 some (a.1,a.2.1,a.2.2)
def xp(f:Y)(d:Nat)(e:Int):Option (d6 Int (Int×Unit)):=
 (bf (Y.bytes f) (d:Int)).bind λa=>
 bif decide (((a-(48:BitVec 8)).toNat:Int)>((9:BitVec 8).toNat:Int))then(none)else
 some (.go (aq ((aq (e*(10:Int)))+((a-(48:BitVec 8)).toNat:Int))))
def xo(a:Y):Option (Int×Unit):=
 (bif decide ((0:Int)<(a.length:Int))then(some (decide ((a.length:Int)<(19:Int))))else
 some false).bind λl=>
 bif l then(andThen ((bf a (0:Int)).bind λx9=>
 (bif (x9.toBitVec.toNat:Int)==((45:BitVec 8).toNat:Int)then(some true)else
 (bf a (0:Int)).bind λf=>
 some ((f.toBitVec.toNat:Int)==((43:BitVec 8).toNat:Int))).bind λh=>
 bif h then((co a (1:Int) (a.length:Int)).bind λd=>
 bif decide ((d.length:Int)<(1:Int))then(none)else
 some (.inl d))else
 some (.inl a)) λj=>
 (room ([]:Y) j).bind λk=>
 andThen (dT (xp j) ((Y.bytes j).length) 0 (0:Int)) λe=>
 ((bf a (0:Int)).bind λg=>
 bif (g.toBitVec.toNat:Int)==((45:BitVec 8).toNat:Int)then(some (aq (0-e)))else
 some e).bind λi=>
 some (i,()))else
 none
def lP(a:Y):Option (Int×Unit):=
 (xo a).bind λd=>
 some (d.1,())
def xC(a:aw)(d:Int):Option (aw×Int):=
 (sT a).bind λh=>
 bif h !=(0:Int)then(some (({aw.zero with aJ:=([]:List Y)}:aw),h))else
 bif decide (d>(aq (a.Base+(a.aJ.length:Int))))then(some (({aw.zero with aJ:=([]:List Y)}:aw),(1:Int)))else
 (co a.aJ (max (aq (d-a.Base)) (0:Int)) (a.aJ.length:Int)).bind λf=>
 (rx f).bind λg=>
 Let g λe=>
 some (({aw.zero with Base:=aq (a.Base+(max (aq (d-a.Base)) (0:Int))),aJ:=e}:aw),(0:Int))
def tN(j:bi)(g:aK)(o:List Y)(n:Nat)(d:bi×(List bm)):Option (bi×(List bm)):=
 (bf o (n:Int)).bind λq=>
 (mh q ([58]:Y)).bind λk=>
 (mh k.2.1 ([58]:Y)).bind λh=>
 (lP k.1).bind λi=>
 (bf d.2 g.To).bind λm=>
 (room m.bd ([({ay.zero with aw:=i.1,aM:=h.2.1}:ay)]:List ay)).bind λx=>
 (bf d.2 g.To).bind λs=>
 Let (d.2.set g.To.toNat ({s with bd:=m.bd++([({ay.zero with aw:=i.1,aM:=h.2.1}:ay)]:List ay)}:bm)) λa=>
 bif i.1==g.To then((lP h.1).bind λp=>
 (bf a g.To).bind λt=>
 (xC t.au (aq (p.1+(1:Int)))).bind λf=>
 bif f.2==(0:Int)then((bf a g.To).bind λl=>
 Let (a.set g.To.toNat ({l with au:=f.1}:bm)) λe=>
 some (({d.1 with all:=e,aQ:=j.aQ,ah:=j.ah}:bi),e))else
 some (({d.1 with all:=a,aQ:=j.aQ,ah:=j.ah}:bi),a))else
 some (({d.1 with all:=a,aQ:=j.aQ,ah:=j.ah}:bi),a)
def zH(fu:Nat)(d:bi)(e:aK):Option ((List bm)×bi):=
 (bf d.all e.To).bind λk=>
 (mF fu k.to ({aP.zero with ao:=e.ao,aM:=e.aM}:aP)).bind λa=>
 Let (a.1.bg,a.2.1) λ(i,f)=>
 bif a.2.2 !=(0:Int)then(some (d.all,d))else
 Let (d.all.set e.To.toNat ({k with to:=({a.1 with bg:=i}:To)}:bm)) λh=>
 (bE (tN d e f) f.length 0 (({d with all:=h}:bi),h)).bind λ(j,g)=>
 some (g,({j with all:=g,aQ:=d.aQ,ah:=d.ah}:bi))
def rH(d:bi)(i:aK)(a:Int×bi×(List Y)):Option (d6 (Int×bi×(List Y)) ((List bm)×(List Y)×(List Y)×bi)):=
 (bif decide (a.1<(d.aQ.length:Int))then(some (decide (a.1<(aq (i.ao+(4:Int))))))else
 some false).bind λh=>
 bif h then((qh ({a.2.1 with all:=d.all,aQ:=d.aQ,ah:=a.2.2}:bi)).bind λf=>
 (bf d.aQ a.1).bind λg=>
 (qf ({a.2.1 with all:=d.all,aQ:=d.aQ,ah:=a.2.2}:bi) (2:Int) f i.aw a.1 g).bind λe=>
 some (.go (aq (a.1+(1:Int)),({e.2 with all:=d.all,aQ:=d.aQ,ah:=e.1}:bi),e.1)))else
 some (.fZ (a.1,({a.2.1 with all:=d.all,aQ:=d.aQ,ah:=a.2.2}:bi),a.2.2))
def zD(fu:Nat)(a:bi)(e:aK):Option ((List bm)×(List Y)×(List Y)×bi):=
 (rI a e.aw).bind λi=>
 bif i !=(0:Int)then(some (a.all,a.aQ,a.ah,a))else
 bif e.ba==(1:Int)then((zE fu a e).bind λd=>
 some (d.1,d.2.1,d.2.2.1,({d.2.2.2 with all:=d.1,aQ:=d.2.1,ah:=d.2.2.1}:bi)))else
 bif e.ba==(3:Int)then(andThen (df (rH a e) fu (e.ao,a,a.ah)) λ(j,h,g)=>
 some (a.all,a.aQ,g,({h with all:=a.all,aQ:=a.aQ,ah:=g}:bi)))else
 bif e.ba==(2:Int)then((zH fu a e).bind λf=>
 some (f.1,a.aQ,a.ah,({f.2 with all:=f.1,aQ:=a.aQ,ah:=a.ah}:bi)))else
 some (a.all,a.aQ,a.ah,a)
def zz(fu:Nat)(a:bi)(j:Int)(k:Int):Option ((List bm)×(List Y)×bi×Int):=
 (oN k (1:Int) (3:Int)).bind λx=>
 bif !x then(some (a.all,a.aQ,a,(1:Int)))else
 (oN j (0:Int) (aq ((a.ah.length:Int)-(1:Int)))).bind λm=>
 bif !m then(some (a.all,a.aQ,a,(6:Int)))else
 (bif k==(3:Int)then(some ((a.ah.length:Int)==(60:Int)))else
 some false).bind λo=>
 bif o then(some (a.all,a.aQ,a,(8:Int)))else
 (bf a.ah j).bind λg=>
 bif k==(3:Int)then((room a.ah ([g]:List Y)).bind λy=>
 some (a.all,a.aQ,({a with ah:=a.ah++([g]:List Y)}:bi),(0:Int)))else
 (yP a.ah j (aq (j+(1:Int)))).bind λe=>
 (zp g).bind λf=>
 ((bif k==(1:Int)then(some (f.2==(0:Int)))else
 some false).bind λq=>
 (bif q then(some (f.1.bh==a.aD.bS))else
 some false).bind λs=>
 (bif s then((qe ({a with ah:=e}:bi) f.1.To).bind λn=>
 some n)else
 some false).bind λt=>
 bif t then((zD fu ({a with ah:=e}:bi) f.1).bind λd=>
 some (({d.2.2.2 with all:=d.1,aQ:=d.2.1,ah:=d.2.2.1}:bi),d.2.2.1,d.1,d.2.1))else
 some (({a with ah:=e}:bi),e,a.all,a.aQ)).bind λ(p,l,h,i)=>
 some (h,i,({p with all:=h,aQ:=i,ah:=l}:bi),(0:Int))
def zx(a:bi)(e:Int):Option ((List bm)×bi×Int):=
 (rI a e).bind λg=>
 bif g !=(0:Int)then(some (a.all,a,g))else
 (bf a.all e).bind λf=>
 Let (a.all.set e.toNat ({f with ea:=true}:bm)) λd=>
 some (d,({a with all:=d}:bi),(0:Int))
def rb(a:BitVec 8):Option Int:=
 (bf ([0,1,1,2,1,2,2,3,1,2,2,3,2,3,3,4,1,2,2,3,2,3,3,4,2,3,3,4,3,4,4,5,1,2,2,3,2,3,3,4,2,3,3,4,3,4,4,5,2,3,3,4,3,4,4,5,3,4,4,5,4,5,5,6,1,2,2,3,2,3,3,4,2,3,3,4,3,4,4,5,2,3,3,4,3,4,4,5,3,4,4,5,4,5,5,6,2,3,3,4,3,4,4,5,3,4,4,5,4,5,5,6,3,4,4,5,4,5,5,6,4,5,5,6,5,6,6,7,1,2,2,3,2,3,3,4,2,3,3,4,3,4,4,5,2,3,3,4,3,4,4,5,3,4,4,5,4,5,5,6,2,3,3,4,3,4,4,5,3,4,4,5,4,5,5,6,3,4,4,5,4,5,5,6,4,5,5,6,5,6,6,7,2,3,3,4,3,4,4,5,3,4,4,5,4,5,5,6,3,4,4,5,4,5,5,6,4,5,5,6,5,6,6,7,3,4,4,5,4,5,5,6,4,5,5,6,5,6,6,7,4,5,5,6,5,6,6,7,5,6,6,7,6,7,7,8]:Y) (a.toNat:Int)).bind λd=>
 some (d.toBitVec.toNat:Int)
def zm(d:BitVec 8)(a:BitVec 8):Option Bool:=
 (rb (d&&&a)).bind λe=>
 (rb a).bind λf=>
 some (decide ((aq ((2:Int)*e))>f))
def rB(a:bh)(d:BitVec 8)(e:BitVec 8):Option (bh×Int):=
 (rA a).bind λh=>
 bif h !=(0:Int)then(some (bh.zero,h))else
 (rC (d|||e)).bind λmf=>
 (bif mf then(some true)else
 some (((d&&&e).toNat:Int)!=((0:BitVec 8).toNat:Int))).bind λg=>
 bif g then(some (bh.zero,(1:Int)))else
 bif a.bS==(16777215:Int)then(some (bh.zero,(8:Int)))else
 (zm (a.bx&&& ~~~d) a.bx).bind λf=>
 bif !f then(some (bh.zero,(11:Int)))else
 some (({bh.zero with bS:=aq (a.bS+(1:Int)),bx:=(a.bx&&& ~~~d)|||e}:bh),(0:Int))
def tD(a:List ay):Option (List ay):=
 (room ([]:List ay) a).bind λd=>
 some (([]:List ay)++a)
def rG(d:Nat)(f:List ay)(e:Nat)(a:Int):Option Int:=
 (bf f (e:Int)).bind λg=>
 bif g.aw==(d:Int)then(some (aq (a+(1:Int))))else
 some a
def tM(f:bi)(d:Nat)(a:(List ay)×bi×(List bm)):Option ((List ay)×bi×(List bm)):=
 (bf a.2.2 (d:Int)).bind λs=>
 ((qe ({a.2.1 with all:=a.2.2,aQ:=f.aQ,ah:=f.ah}:bi) (d:Int)).bind λy=>
 bif y then((co a.1 (s.bd.length:Int) (a.1.length:Int)).bind λm=>
 (bE (rG d m) m.length 0 (0:Int)).bind λD=>
 (tD a.1).bind λA=>
 Let (a.2.2.set (d:Int).toNat ({s with bd:=A}:bm)) λe=>
 (bf e (d:Int)).bind λt=>
 (bf e (d:Int)).bind λB=>
 (co t.au.aJ (min D (B.au.aJ.length:Int)) (t.au.aJ.length:Int)).bind λl=>
 (rx l).bind λn=>
 Let n λj=>
 (bf e (d:Int)).bind λo=>
 Let (e.set (d:Int).toNat ({o with au:=({aw.zero with aJ:=j}:aw)}:bm)) λg=>
 (bf g (d:Int)).bind λp=>
 Let (g.set (d:Int).toNat ({p with to:=To.zero}:bm)) λh=>
 some (a.1,({a.2.1 with all:=h,aQ:=f.aQ,ah:=f.ah}:bi),h))else
 some (a.1,({a.2.1 with all:=a.2.2,aQ:=f.aQ,ah:=f.ah}:bi),a.2.2)).bind λ(x,C,k)=>
 (bf k (d:Int)).bind λq=>
 Let (k.set (d:Int).toNat ({q with bw:=To.zero}:bm)) λi=>
 some (x,({C with all:=i,aQ:=f.aQ,ah:=f.ah}:bi),i)
def vX(e:bi)(f:Nat)(a:(BitVec 8)×(List ay)):Option ((BitVec 8)×(List ay)):=
 (qe e (f:Int)).bind λh=>
 bif h then((bf e.all (f:Int)).bind λd=>
 bif decide ((d.bd.length:Int)>(a.2.length:Int))then(some (a.1,d.bd))else
 some (a.1,a.2))else
 (cnt (f:Int)).bind λg=>
 some (a.1|||(e.aD.bx&&&((1:BitVec 8)<<<g)),a.2)
def zw(a:bi):Option ((List bm)×bi×Int):=
 (bE (vX a) a.all.length 0 ((0:BitVec 8),([]:List ay))).bind λ(g,f)=>
 (rB a.aD g (0:BitVec 8)).bind λd=>
 bif d.2 !=(0:Int)then(some (a.all,a,d.2))else
 (bE (tM a) a.all.length 0 (f,a,a.all)).bind λ(i,h,e)=>
 some (e,({h with aD:=d.1,all:=e,aQ:=([]:List Y),ah:=a.ah}:bi),(0:Int))
def xI(fu:Nat)(a:bi)(d:dJ):Option ((List bm)×bi×Int):=
 bif d.ba==(1:Int)then((zA a d.cI d.aM).bind λi=>
 some (i.1,({i.2.2.1 with all:=i.1,aQ:=a.aQ,ah:=i.2.1}:bi),i.2.2.2))else
 bif d.ba==(2:Int)then((zv a d.cI).bind λh=>
 some (a.all,({h.2.1 with all:=a.all,aQ:=a.aQ,ah:=h.1}:bi),h.2.2))else
 bif d.ba==(3:Int)then((zz fu a d.cI d.fw).bind λe=>
 some (e.1,({e.2.2.1 with all:=e.1,aQ:=e.2.1}:bi),e.2.2.2))else
 bif d.ba==(4:Int)then((zx a d.cI).bind λf=>
 some (f.1,({f.2.1 with all:=f.1,aQ:=a.aQ,ah:=a.ah}:bi),f.2.2))else
 bif d.ba==(5:Int)then((zw a).bind λg=>
 some (g.1,({g.2.1 with all:=g.1,ah:=a.ah}:bi),g.2.2))else
 some (a.all,a,(1:Int))
def Cu(a:bi):Option bh:=
 some a.aD
def zy(e:bi)(f:Int):Option ((List ay)×Int):=
 (rI e f).bind λg=>
 bif g !=(0:Int)then(some (([]:List ay),g))else
 (bf e.all f).bind λd=>
 (tD d.bd).bind λa=>
 some (a,(0:Int))
def vI(a:Y)(d:Y):Option Int:=
 (sI a d).bind λe=>
 some e
def Gp(e:Y)(a:Y×Int):Option (d6 (Y×Int) Int):=
 (vI a.1 e).bind λmf=>
 bif mf==(-1:Int)then(some (.ret a.2))else
 (co a.1 (aq (mf+(e.length:Int))) (a.1.length:Int)).bind λd=>
 some (.go (d,aq (a.2+(1:Int))))
def Cf(fu:Nat)(d:Y)(a:Y):Option Int:=
 bif (a.length:Int)==(0:Int)then(none)else
 bif (a.length:Int)==(1:Int)then((bf a (0:Int)).bind λe=>
 some (tz d e.toBitVec))else
 andThen (df (Gp a) fu (d,(0:Int))) λ(f,g)=>
 none
def Ci(i:Y)(h:Y)(j:Int)(l:Int)(a:Y×Int×(List Y)):Option (d6 (Y×Int×(List Y)) (Y×Int×(List Y))):=
 bif decide (a.2.1<(aq ((min l (aq ((i.length:Int)+(1:Int))))-(1:Int))))then((vI a.1 h).bind λd=>
 bif decide (d<(0:Int))then(some (.fZ (a.1,a.2.1,a.2.2)))else
 (co a.1 0 (aq (d+j))).bind λe=>
 (bf a.2.2 a.2.1).bind λk=>
 Let (a.2.2.set a.2.1.toNat e) λg=>
 (co a.1 (aq (d+(h.length:Int))) (a.1.length:Int)).bind λf=>
 some (.go (f,aq (a.2.1+(1:Int)),g)))else
 some (.fZ (a.1,a.2.1,a.2.2))
def Ch(fu:Nat)(e:Y)(f:Y)(p:Int)(g:Int):Option (List Y):=
 bif g==(0:Int)then(some ([]:List Y))else
 bif decide (f=([]:Y))then(none)else
 (bif decide (g<(0:Int))then((Cf fu e f).bind λq=>
 some (aq (q+(1:Int))))else
 some g).bind λo=>
 (lH (min o (aq ((e.length:Int)+(1:Int))))).bind λj=>
 (andThen (df (Ci e f p o) fu (e,(0:Int),(List.replicate j ([]:Y)))) λ(m,n,h)=>
 some (m,n,h)).bind λ(l,a,d)=>
 (bf d a).bind λs=>
 Let (d.set a.toNat l) λk=>
 (co k 0 (aq (a+(1:Int)))).bind λi=>
 some i
def vJ(fu:Nat)(a:Y)(d:Y):Option (List Y):=
 (Ch fu a d (0:Int) (-1:Int)).bind λe=>
 some e
def B9(d:List Y)(e:Y)(a:Nat)(g:Unit):Option (d6 Unit Int):=
 (bf d (a:Int)).bind λf=>
 bif decide (e=f)then(some (.ret (a:Int)))else
 some (.go ())
def vH(a:List Y)(d:Y):Option Int:=
 andThen (dT (B9 a d) a.length 0 ()) λ_=>
 some (-1:Int)
def uA(d:Y)(a:Y):Option Bool:=
 (bif decide ((d.length:Int)>=(a.length:Int))then((co d 0 (a.length:Int)).bind λe=>
 some (decide (e=a)))else
 some false).bind λf=>
 some f
def AU(a:Y)(d:Y):Option Y:=
 (uA a d).bind λf=>
 bif f then((co a (d.length:Int) (a.length:Int)).bind λe=>
 some e)else
 some a
def yY(a:Y)(d:Y):Option Y:=
 (AU a d).bind λe=>
 some e
def tC(a:Int)(d:Int)(e:Int):Option Bool:=
 (bif decide (a>=d)then(some (decide (a<=e)))else
 some false).bind λf=>
 some f
def Cj(e:Y)(a:Int×(Vector Bool 256)):Option (d6 (Int×(Vector Bool 256)) ((Vector Bool 256)×Bool)):=
 bif decide (a.1<(e.length:Int))then((bf e a.1).bind λx9=>
 bif decide ((x9.toBitVec.toNat:Int)>=((128:BitVec 8).toNat:Int))then(some (.ret (a.2,false)))else
 (dI a.2 (x9.toBitVec.toNat:Int)).bind λf=>
 Let (a.2.setIfInBounds (x9.toBitVec.toNat:Int).toNat true) λd=>
 some (.go (aq (a.1+(1:Int)),d)))else
 some (.fZ (a.1,a.2))
def vL(fu:Nat)(a:Y):Option ((Vector Bool 256)×Bool):=
 andThen (df (Cj a) fu ((0:Int),(Vector.replicate 256 false))) λ(e,d)=>
 some (d,true)
def vK(a:Vector Bool 256)(d:BitVec 8):Option Bool:=
 (dI a (d.toNat:Int)).bind λe=>
 some e
def Cl(f:Vector Bool 256)(a:Y):Option (d6 Y Y):=
 bif decide ((a.length:Int)>(0:Int))then((bf a (aq ((a.length:Int)-(1:Int)))).bind λx9=>
 (vK f x9.toBitVec).bind λe=>
 bif !e then(some (.fZ a))else
 (co a 0 (aq ((a.length:Int)-(1:Int)))).bind λd=>
 some (.go d))else
 some (.fZ a)
def za(fu:Nat)(a:Y)(d:Vector Bool 256):Option Y:=
 (andThen (df (Cl d) fu a) λf=>
 some f).bind λe=>
 some e
def Ck(f:Vector Bool 256)(a:Y):Option (d6 Y Y):=
 bif decide ((a.length:Int)>(0:Int))then((bf a (0:Int)).bind λx9=>
 (vK f x9.toBitVec).bind λe=>
 bif !e then(some (.fZ a))else
 (co a (1:Int) (a.length:Int)).bind λd=>
 some (.go d))else
 some (.fZ a)
def yZ(fu:Nat)(a:Y)(d:Vector Bool 256):Option Y:=
 (andThen (df (Ck d) fu a) λf=>
 some f).bind λe=>
 some e
def yX(fu:Nat)(e:Y)(d:Y):Option Y:=
 (bif decide (e=([]:Y))then(some true)else
 some (decide (d=([]:Y)))).bind λi=>
 bif i then(some e)else
 (bif (d.length:Int)==(1:Int)then((bf d (0:Int)).bind λh=>
 some (decide ((h.toBitVec.toNat:Int)<((128:BitVec 8).toNat:Int))))else
 some false).bind λj=>
 bif j then(none)else
 (vL fu d).bind λa=>
 bif a.2 then((za fu e a.1).bind λf=>
 (yZ fu f a.1).bind λg=>
 some g)else
 none
def vD(fu:Nat)(f:Y):Option (Int×Bool):=
 (yY f ([45]:Y)).bind λg=>
 (tC (g.length:Int) (1:Int) (9:Int)).bind λh=>
 (bif !h then(some true)else
 (yX fu g ([48,49,50,51,52,53,54,55,56,57]:Y)).bind λa=>
 some (!(decide (a=([]:Y))))).bind λe=>
 bif e then(some ((0:Int),false))else
 (lP f).bind λd=>
 some (d.1,true)
def yC(fu:Nat)(o:Y):Option (cH×Int):=
 (vJ fu o ([32]:Y)).bind λf=>
 bif (f.length:Int)!=(3:Int)then(some (cH.zero,(12:Int)))else
 (bf f (0:Int)).bind λi=>
 (vH ([([115,101,116]:Y),([97,100,100]:Y),([109,111,115,116]:Y),([99,111,112,121]:Y)]:List Y) i).bind λa=>
 (bf f (1:Int)).bind λj=>
 (vD fu j).bind λd=>
 (bf f (2:Int)).bind λk=>
 (vD fu k).bind λe=>
 (bif (aq (a+(1:Int)))==(0:Int)then(some true)else
 some (!d.2)).bind λl=>
 (bif l then(some true)else
 some (!e.2)).bind λm=>
 bif m then(some (cH.zero,(12:Int)))else
 (tC d.1 (0:Int) (9:Int)).bind λg=>
 bif !g then(some (cH.zero,(1:Int)))else
 (bif (aq (a+(1:Int)))==(4:Int)then((tC e.1 (0:Int) (9:Int)).bind λh=>
 some (!h))else
 some false).bind λn=>
 bif n then(some (cH.zero,(1:Int)))else
 some (({cH.zero with ba:=aq (a+(1:Int)),ee:=d.1,N:=e.1}:cH),(0:Int))
def tA(a:Int):Option Int:=
 some (min (max a (-1000000000:Int)) (1000000000:Int))
def yE(d:Vector Int 10)(a:cH):Option (Vector Int 10):=
 (dI d a.ee).bind λm=>
 bif a.ba==(1:Int)then((tA a.N).bind λn=>
 Let (d.setIfInBounds a.ee.toNat n) λe=>
 some e)else
 bif a.ba==(2:Int)then((tA a.N).bind λi=>
 (tA (aq ((min (max m (-4000000000:Int)) (4000000000:Int))+i))).bind λj=>
 Let (d.setIfInBounds a.ee.toNat j) λf=>
 some f)else
 bif a.ba==(3:Int)then((tA a.N).bind λk=>
 Let (d.setIfInBounds a.ee.toNat (max m k)) λg=>
 some g)else
 bif a.ba==(4:Int)then((dI d a.N).bind λl=>
 Let (d.setIfInBounds a.ee.toNat l) λh=>
 some h)else
 some d
def yD(fu:Nat)(g:List Y)(h:Nat)(d:Int×(Vector Int 10)):Option (Int×(Vector Int 10)):=
 (bf g (h:Int)).bind λf=>
 (yC fu f).bind λa=>
 bif a.2 !=(0:Int)then(some (aq (d.1+(1:Int)),d.2))else
 (yE d.2 a.1).bind λe=>
 some (d.1,e)
def vC(fu:Nat)(d:Vector Int 10)(a:List Y):Option ((Vector Int 10)×Int):=
 (bE (yD fu a) a.length 0 ((0:Int),d)).bind λ(e,f)=>
 some (f,e)
def vY(f:(List ay)×Int)(e:Nat)(d:(List Y)):Option (List Y):=
 (bf f.1 (e:Int)).bind λa=>
 (room d ([a.aM]:List Y)).bind λg=>
 some (d++([a.aM]:List Y))
def zB(fu:Nat)(f:bi)(g:Int):Option ((Vector Int 10)×Int):=
 (zy f g).bind λa=>
 bif a.2 !=(0:Int)then(some (((Vector.replicate 10 (0:Int)):Vector Int 10),a.2))else
 (bE (vY a) a.1.length 0 ([]:List Y)).bind λd=>
 (vC fu ((Vector.replicate 10 (0:Int)):Vector Int 10) d).bind λe=>
 some (e.1,(0:Int))
def Fo(d:fN)(a:Nat)(f:Unit):Option Unit:=
 (bf d.dN (a:Int)).bind λe=>
 none
def uW(fu:Nat)(h:bi)(f:List Int)(g:List bm)(e:Nat)(a:dk×(List (Vector Int 10))):Option (dk×(List (Vector Int 10))):=
 (zB fu ({h with all:=g}:bi) (e:Int)).bind λd=>
 (room a.2 ([d.1]:List (Vector Int 10))).bind λi=>
 some (({a.1 with fv:=f,fy:=a.2++([d.1]:List (Vector Int 10))}:dk),a.2++([d.1]:List (Vector Int 10)))
def uV(fu:Nat)(l:fN)(g:Nat)(a:dk×bi×(List Int)×(List bm)):Option (dk×bi×(List Int)×(List bm)):=
 (bf l.dN (g:Int)).bind λj=>
 (xI fu ({a.2.1 with all:=a.2.2.2}:bi) j).bind λd=>
 Let (([d.2.2]:List Int),d.2.1.aQ,d.2.1.ah,d.1) λ(e,h,i,f)=>
 (room a.2.2.1 e).bind λk=>
 some (({a.1 with fv:=a.2.2.1++e,fy:=([]:List (Vector Int 10))}:dk),({d.2.1 with all:=f,aQ:=h,ah:=i}:bi),a.2.2.1++e,f)
def kI(fu:Nat)(d:fN):Option dk:=
 alt (zu d.N) (λm=>
 bif m !=(0:Int)then(some ({dk.zero with jB:=m,fv:=([]:List Int),fy:=([]:List (Vector Int 10))}:dk))else
 (bE (Fo d) d.dN.length 0 ()).bind λ_=>
 none)<|
 (zt d.N).bind λa=>
 bif a.2 !=(0:Int)then(some ({dk.zero with jB:=a.2,fv:=([]:List Int),fy:=([]:List (Vector Int 10))}:dk))else
 (bE (uV fu d) d.dN.length 0 (({dk.zero with fv:=([]:List Int),fy:=([]:List (Vector Int 10))}:dk),a.1,([]:List Int),a.1.all)).bind λ(l,k,e,h)=>
 (Cu ({k with all:=h}:bi)).bind λi=>
 (lj d.N).bind λf=>
 (bE (uW fu k e h) f 0 (({l with fv:=e,kc:=i,fy:=([]:List (Vector Int 10))}:dk),([]:List (Vector Int 10)))).bind λ(j,g)=>
 some ({j with fv:=e,fy:=g}:dk)
def oE(fu:Nat):List fN->Option (List dk)
 |[]=>some []
 |x::l=>(kI fu x).bind λr=>(oE fu l).bind λrs=>some (r::rs)
def oD(fu:Nat)(a:Int)(d:List fN):Option ((List dk)×Int):=
 bif decide (a<1)||decide (a>8)then some ([],1)else(oE fu d).bind λrs=>some (rs,0)
def vk(a:Int):Option bj:=
 (cnt a).bind λd=>
 some ({bj.zero with n:=a,V:=({bh.zero with bx:=((1:BitVec 8)<<<d)-(1:BitVec 8)}:bh),aN:=([]:List (Int×Int)),order:=([]:List Y),be:=([]:List Mark),bb:=([]:List aK)}:bj)
def nI(d:bj)(e:Int):Option Bool:=
 (cnt e).bind λf=>
 (bif (((d.V.bx>>>f)%(2:BitVec 8)).toNat:Int)==((1:BitVec 8).toNat:Int)then(some (((dg d.aN e).getD (0:Int))==(0:Int)))else
 some false).bind λa=>
 some a
def vt(e:bj)(a:Int):Option Int:=
 (bif decide (a<(0:Int))then(some true)else
 some (decide (a>=e.n))).bind λf=>
 bif f then(some (1:Int))else
 (nI e a).bind λd=>
 bif !d then(some (11:Int))else
 some (0:Int)
def yp(d:bj)(a:Nat)(f:Unit):Option (d6 Unit Int):=
 (cnt (a:Int)).bind λe=>
 bif (((d.V.bx>>>e)%(2:BitVec 8)).toNat:Int)==((1:BitVec 8).toNat:Int)then(some (.ret (a:Int)))else
 some (.go ())
def rn(a:bj):Option Int:=
 andThen (dT (yp a) 6 0 ()) λ_=>
 some (0:Int)
def Cb(e:List Int)(a:Int×Int):Option (d6 (Int×Int) Int):=
 bif decide (a.2<(e.length:Int))then((bf e a.2).bind λd=>
 some (.go (min a.1 d,aq (a.2+(1:Int)))))else
 some (.fZ (a.1,a.2))
def yW(fu:Nat)(a:List Int):Option Int:=
 bif decide ((a.length:Int)<(1:Int))then(none)else
 (bf a (0:Int)).bind λd=>
 andThen (df (Cb a) fu (d,(1:Int))) λ(e,f)=>
 some e
def Ca(e:List Int)(a:Int×Int):Option (d6 (Int×Int) Int):=
 bif decide (a.2<(e.length:Int))then((bf e a.2).bind λd=>
 some (.go (max a.1 d,aq (a.2+(1:Int)))))else
 some (.fZ (a.1,a.2))
def yV(fu:Nat)(a:List Int):Option Int:=
 bif decide ((a.length:Int)<(1:Int))then(none)else
 (bf a (0:Int)).bind λd=>
 andThen (df (Ca a) fu (d,(1:Int))) λ(e,f)=>
 some e
def yc(fu:Nat)(a:aK):Option Int:=
 (bif decide (a.ba<(0:Int))then(some true)else
 some (decide (a.ba>(255:Int)))).bind λi=>
 (bif i then(some true)else
 some (decide ((min (min (min a.aw a.To) a.bh) a.ao)<(0:Int)))).bind λj=>
 (bif j then(some true)else
 some (decide ((max a.aw a.To)>(5:Int)))).bind λf=>
 (bif f then(some true)else
 some (decide ((max a.bh a.ao)>(16777215:Int)))).bind λg=>
 bif g then(some (1:Int))else
 (yW fu a.At.toList).bind λd=>
 (bif decide (d<(0:Int))then(some true)else
 (yV fu a.At.toList).bind λe=>
 some (decide (e>(16777215:Int)))).bind λh=>
 bif h then(some (1:Int))else
 bif decide ((a.aM.length:Int)>(200:Int))then(some (2:Int))else
 some (0:Int)
def ro(fu:Nat)(a:bj)(i:aK):Option ((List aK)×bj):=
 Let ({i with bh:=a.V.bS}:aK) λe=>
 (bif decide ((a.bb.length:Int)<(60:Int))then((yc fu e).bind λf=>
 some (f==(0:Int)))else
 some false).bind λg=>
 bif g then((room a.bb ([e]:List aK)).bind λj=>
 Let (a.bb++([e]:List aK),a) λ(d,h)=>
 some (d,({h with aN:=a.aN,order:=a.order,be:=a.be,bb:=d}:bj)))else
 some (a.bb,a)
def yn(fu:Nat)(a:bj)(g:Int)(i:Y):Option ((List aK)×bj×Int):=
 (vt a g).bind λo=>
 bif o !=(0:Int)then(some (a.bb,a,o))else
 bif decide ((i.length:Int)>(150:Int))then(some (a.bb,a,(2:Int)))else
 (dI a.aJ g).bind λd=>
 (bif (a.bb.length:Int)==(60:Int)then(some true)else
 some ((d.aJ.length:Int)==(16:Int))).bind λm=>
 (bif m then(some true)else
 some (decide ((aq (d.Base+(d.aJ.length:Int)))>=(16777215:Int)))).bind λn=>
 bif n then(some (a.bb,a,(8:Int)))else
 (rx d.aJ).bind λh=>
 (room h ([i]:List Y)).bind λp=>
 Let (a.aJ.setIfInBounds g.toNat ({d with aJ:=h++([i]:List Y)}:aw)) λe=>
 (rn ({a with aJ:=e}:bj)).bind λj=>
 (dI e g).bind λk=>
 (dI e g).bind λl=>
 (ro fu ({a with aJ:=e}:bj) ({aK.zero with ba:=(1:Int),aw:=g,To:=j,ao:=aq ((aq (k.Base+(l.aJ.length:Int)))-(1:Int)),aM:=i}:aK)).bind λf=>
 some (f.1,({f.2 with aN:=a.aN,order:=a.order,be:=a.be,bb:=f.1}:bj),(0:Int))
def pW(fu:Nat)(d:bj)(k:Int)(h:aw)(e:Nat)(a:bj×(List aK)):Option (bj×(List aK)):=
 (bf h.aJ (e:Int)).bind λi=>
 bif decide ((e:Int)<(4:Int))then((rn ({a.1 with aN:=d.aN,order:=d.order,be:=d.be,bb:=a.2}:bj)).bind λg=>
 (dI a.1.aJ k).bind λj=>
 (ro fu ({a.1 with aN:=d.aN,order:=d.order,be:=d.be,bb:=a.2}:bj) ({aK.zero with ba:=(1:Int),aw:=k,To:=g,ao:=aq (j.Base+(e:Int)),aM:=i}:aK)).bind λf=>
 some (({f.2 with aN:=d.aN,order:=d.order,be:=d.be,bb:=f.1}:bj),f.1))else
 some (({a.1 with aN:=d.aN,order:=d.order,be:=d.be,bb:=a.2}:bj),a.2)
def yh(fu:Nat)(a:bj)(f:Int):Option ((List aK)×bj×Int):=
 (vt a f).bind λk=>
 bif k !=(0:Int)then(some (a.bb,a,k))else
 (dI a.aJ f).bind λh=>
 (bE (pW fu a f h) h.aJ.length 0 (a,a.bb)).bind λ(e,g)=>
 (rn ({e with aN:=a.aN,order:=a.order,be:=a.be,bb:=g}:bj)).bind λi=>
 (dI e.dK f).bind λj=>
 (ro fu ({e with aN:=a.aN,order:=a.order,be:=a.be,bb:=g}:bj) ({aK.zero with ba:=(3:Int),aw:=f,To:=i,ao:=j.Next}:aK)).bind λd=>
 some (d.1,({d.2 with aN:=a.aN,order:=a.order,be:=a.be,bb:=d.1}:bj),(0:Int))
def yS(a:Int):Option (List aK):=
 bif decide (a<(0:Int))then(none)else
 (bif decide ((aq (a-(aq ((0:Int)-(0:Int)))))>(0:Int))then((lH (aq (a-(aq ((0:Int)-(0:Int)))))).bind λe=>
 (co (List.replicate e aK.zero) 0 (0:Int)).bind λd=>
 some d)else
 some ([]:List aK)).bind λf=>
 some f
def vG(f:List (List aK))(e:Nat)(d:(List aK)):Option (List aK):=
 (bf f (e:Int)).bind λa=>
 (room d a).bind λg=>
 some (d++a)
def vF(e:List (List aK))(f:Nat)(d:Int):Option Int:=
 (bf e (f:Int)).bind λa=>
 bif decide ((aq (d+(a.length:Int)))<(0:Int))then(none)else
 some (aq (d+(a.length:Int)))
def yM(a:List (List aK)):Option (List aK):=
 (bE (vF a) a.length 0 (0:Int)).bind λf=>
 (yS f).bind λe=>
 (bE (vG a) a.length 0 e).bind λd=>
 some d
def KQ(e:To)(d:List (Int×Y))(a:Int×To):Option (d6 (Int×To) (To×(List Y))):=
 bif decide (a.1<(aq (e.Next+(16:Int))))then(bif (dg d a.1).isSome then((room a.2.bg ([({aP.zero with ao:=a.1,aM:=(dg d a.1).getD ([]:Y)}:aP)]:List aP)).bind λf=>
 some (.go (aq (a.1+(1:Int)),({a.2 with bg:=a.2.bg++([({aP.zero with ao:=a.1,aM:=(dg d a.1).getD ([]:Y)}:aP)]:List aP)}:To))))else
 some (.go (aq (a.1+(1:Int)),a.2)))else
 some (.fZ (a.1,a.2))
def yg(e:To)(d:List (Int×Y))(a:Int×To):Option (d6 (Int×To) (To×(List Y))):=
 bif decide (a.1<(aq (e.Next+(16:Int))))then(bif (dg d a.1).isSome then((room a.2.bg ([({aP.zero with ao:=a.1,aM:=(dg d a.1).getD ([]:Y)}:aP)]:List aP)).bind λf=>
 some (.go (aq (a.1+(1:Int)),({a.2 with bg:=a.2.bg++([({aP.zero with ao:=a.1,aM:=(dg d a.1).getD ([]:Y)}:aP)]:List aP)}:To))))else
 some (.go (aq (a.1+(1:Int)),a.2)))else
 some (.fZ (a.1,a.2))
def rm(d:List (Int×Y))(a:To×(List Y)):Option (d6 (To×(List Y)) (To×(List Y))):=
 bif !((dg d a.1.Next).isSome)then(some (.fZ (({a.1 with bg:=[]}:To),a.2)))else
 (room a.2 ([(dg d a.1.Next).getD ([]:Y)]:List Y)).bind λf=>
 Let (aq (a.1.Next+(1:Int))) λe=>
 some (.go (({a.1 with Next:=e,bg:=[]}:To),a.2++([(dg d a.1.Next).getD ([]:Y)]:List Y)))
def vl(g:To)(d:Nat)(f:(List (Int×Y))):Option (List (Int×Y)):=
 (bf g.bg (d:Int)).bind λa=>
 Let (iL f a.ao a.aM) λe=>
 some e
def tn(fu:Nat)(d:To)(e:aP):Option (To×(List Y)):=
 (bE (vl d) d.bg.length 0 ([]:List (Int×Y))).bind λa=>
 ((bif !((dg a e.ao).isSome)then(some (decide (e.ao>=d.Next)))else
 some false).bind λj=>
 (bif j then(some (decide (e.ao<(aq (d.Next+(16:Int))))))else
 some false).bind λk=>
 bif k then(Let (iL a e.ao e.aM) λi=>
 some i)else
 some a).bind λf=>
 andThen (df (rm f) fu (({To.zero with Next:=d.Next}:To),([]:List Y))) λ(g,h)=>
 andThen (df (yg d f) fu (aq (g.Next+(1:Int)),({g with bg:=([]:List aP)}:To))) λ(m,l)=>
 some (l,h)
def vr(fu:Nat)(e:bj)(k:Int)(h:Int):Option ((List aK)×bj):=
 (rn e).bind λl=>
 (bf e.be h).bind λi=>
 (tF i.au).bind λa=>
 (room a ([58]:Y)).bind λm=>
 (bf e.be h).bind λj=>
 (tF j.seq).bind λd=>
 (room (a++([58]:Y)) d).bind λn=>
 (room ((a++([58]:Y))++d) ([58]:Y)).bind λo=>
 (bf e.order h).bind λg=>
 (room (((a++([58]:Y))++d)++([58]:Y)) g).bind λp=>
 (ro fu e ({aK.zero with ba:=(2:Int),aw:=l,To:=k,ao:=h,aM:=(((a++([58]:Y))++d)++([58]:Y))++g}:aK)).bind λf=>
 some (f.1,({f.2 with aN:=e.aN,order:=e.order,be:=e.be,bb:=f.1}:bj))
def vp(fu:Nat)(j:bj)(d:List Y)(f:Y)(g:List Mark)(h:Nat)(a:bj×(List aK)):Option (bj×(List aK)):=
 (nI ({a.1 with aN:=j.aN,order:=d++([f]:List Y),be:=g,bb:=a.2}:bj) (h:Int)).bind λi=>
 bif i then((vr fu ({a.1 with aN:=j.aN,order:=d++([f]:List Y),be:=g,bb:=a.2}:bj) (h:Int) (aq (((d++([f]:List Y)).length:Int)-(1:Int)))).bind λe=>
 some (({e.2 with aN:=j.aN,order:=d++([f]:List Y),be:=g,bb:=e.1}:bj),e.1))else
 some (({a.1 with aN:=j.aN,order:=d++([f]:List Y),be:=g,bb:=a.2}:bj),a.2)
def tq(fu:Nat)(k:bj)(m:aK)(x9:To)(l:List Y)(h:Nat)(a:bj×(List Y)×(List Mark)×(List aK)):Option (bj×(List Y)×(List Mark)×(List aK)):=
 (bf l (h:Int)).bind λd=>
 (room a.2.1 ([d]:List Y)).bind λn=>
 (room a.2.2.1 ([({Mark.zero with au:=m.aw,seq:=aq (x9.Next+(h:Int))}:Mark)]:List Mark)).bind λo=>
 Let (a.2.2.1++([({Mark.zero with au:=m.aw,seq:=aq (x9.Next+(h:Int))}:Mark)]:List Mark),({a.1 with aN:=k.aN,order:=a.2.1++([d]:List Y),bb:=a.2.2.2}:bj)) λ(e,g)=>
 (lj g.n).bind λi=>
 (bE (vp fu k a.2.1 d e) i 0 (({g with aN:=k.aN,order:=a.2.1++([d]:List Y),be:=e,bb:=a.2.2.2}:bj),a.2.2.2)).bind λ(j,f)=>
 some (({j with aN:=k.aN,order:=a.2.1++([d]:List Y),be:=e,bb:=f}:bj),a.2.1++([d]:List Y),e,f)
def pX(fu:Nat)(e:bj)(f:aK)(a:Int×bj×(List aK)):Option (d6 (Int×bj×(List aK)) ((List Y)×(List Mark)×(List aK)×bj)):=
 bif decide (a.1<(min (e.order.length:Int) (aq (f.ao+(4:Int)))))then((vr fu ({a.2.1 with aN:=e.aN,order:=e.order,be:=e.be,bb:=a.2.2}:bj) f.aw a.1).bind λd=>
 some (.go (aq (a.1+(1:Int)),({d.2 with aN:=e.aN,order:=e.order,be:=e.be,bb:=d.1}:bj),d.1)))else
 some (.fZ (a.1,({a.2.1 with aN:=e.aN,order:=e.order,be:=e.be,bb:=a.2.2}:bj),a.2.2))
def vq(f:bj)(g:aK)(l:To)(h:Nat)(a:bj):Option bj:=
 (bf f.be (aq (l.Next+(h:Int)))).bind λd=>
 (dI a.du g.To).bind λq=>
 (tD q).bind λk=>
 (bf f.order (aq (l.Next+(h:Int)))).bind λm=>
 (room k ([({ay.zero with aw:=d.au,aM:=m}:ay)]:List ay)).bind λx=>
 Let (k++([({ay.zero with aw:=d.au,aM:=m}:ay)]:List ay)) λn=>
 (dI a.du g.To).bind λy=>
 Let (a.du.setIfInBounds g.To.toNat n) λi=>
 (dI a.aJ g.To).bind λe=>
 (bif d.au==g.To then(some (decide (d.seq>=e.Base)))else
 some false).bind λt=>
 bif t then((co e.aJ (aq ((aq (d.seq+(1:Int)))-e.Base)) (e.aJ.length:Int)).bind λo=>
 Let (a.aJ.setIfInBounds g.To.toNat ({e with aJ:=o}:aw)) λj=>
 (dI j g.To).bind λs=>
 Let (j.setIfInBounds g.To.toNat ({s with Base:=aq (d.seq+(1:Int))}:aw)) λp=>
 some ({a with aN:=f.aN,du:=i,aJ:=p,order:=f.order,be:=f.be,bb:=f.bb}:bj))else
 some ({a with aN:=f.aN,du:=i,order:=f.order,be:=f.be,bb:=f.bb}:bj)
def nJ(fu:Nat)(a:bj)(d:aK):Option ((List Y)×(List Mark)×(List aK)×bj):=
 bif d.ba==(1:Int)then((dI a.dM d.aw).bind λx9=>
 (dI a.dM d.aw).bind λy=>
 (tn fu y ({aP.zero with ao:=d.ao,aM:=d.aM}:aP)).bind λg=>
 Let (g.1.bg,g.2) λ(t,j)=>
 (dI a.dM d.aw).bind λD=>
 Let (a.dM.setIfInBounds d.aw.toNat ({g.1 with bg:=t}:To)) λx=>
 (bE (tq fu a d x9 j) j.length 0 (({a with dM:=x}:bj),a.order,a.be,a.bb)).bind λ(A,k,l,m)=>
 some (k,l,m,({A with aN:=a.aN,order:=k,be:=l,bb:=m}:bj)))else
 bif d.ba==(3:Int)then(andThen (df (pX fu a d) fu (d.ao,a,a.bb)) λ(C,q,f)=>
 some (a.order,a.be,f,({q with aN:=a.aN,order:=a.order,be:=a.be,bb:=f}:bj)))else
 bif d.ba==(2:Int)then((dI a.dK d.To).bind λo=>
 (dI a.dK d.To).bind λp=>
 (tn fu p ({aP.zero with ao:=d.ao,aM:=d.aM}:aP)).bind λe=>
 Let (e.1.bg,e.2) λ(h,i)=>
 (dI a.dK d.To).bind λB=>
 Let (a.dK.setIfInBounds d.To.toNat ({e.1 with bg:=h}:To)) λn=>
 (bE (vq a d o) i.length 0 ({a with dK:=n}:bj)).bind λs=>
 some (a.order,a.be,a.bb,({s with aN:=a.aN,order:=a.order,be:=a.be,bb:=a.bb}:bj)))else
 some (a.order,a.be,a.bb,a)
def ym(fu:Nat)(a:bj)(i:Int)(j:Int):Option ((List Y)×(List Mark)×bj×Int):=
 (bif decide (j<(1:Int))then(some true)else
 some (decide (j>(3:Int)))).bind λC=>
 bif C then(some (a.order,a.be,a,(1:Int)))else
 (bif decide (i<(0:Int))then(some true)else
 some (decide (i>=(a.bb.length:Int)))).bind λt=>
 bif t then(some (a.order,a.be,a,(6:Int)))else
 (bif j==(3:Int)then(some ((a.bb.length:Int)==(60:Int)))else
 some false).bind λx=>
 bif x then(some (a.order,a.be,a,(8:Int)))else
 (bf a.bb i).bind λe=>
 bif j==(3:Int)then((room a.bb ([e]:List aK)).bind λB=>
 Let (a.bb++([e]:List aK),a) λ(o,y)=>
 some (a.order,a.be,({y with aN:=a.aN,order:=a.order,be:=a.be,bb:=o}:bj),(0:Int)))else
 (co a.bb 0 i).bind λp=>
 (co a.bb (aq (i+(1:Int))) (a.bb.length:Int)).bind λq=>
 (yM ([p,q]:List (List aK))).bind λs=>
 Let s λf=>
 ((bif j==(1:Int)then(some (e.bh==a.V.bS))else
 some false).bind λm=>
 (bif m then((nI ({a with bb:=f}:bj) e.To).bind λl=>
 some l)else
 some false).bind λn=>
 bif n then((nJ fu ({a with bb:=f}:bj) e).bind λd=>
 some (({d.2.2.2 with aN:=a.aN,order:=d.1,be:=d.2.1,bb:=d.2.2.1}:bj),d.2.2.1,d.1,d.2.1))else
 some (({a with bb:=f}:bj),f,a.order,a.be)).bind λ(A,k,g,h)=>
 some (g,h,({A with aN:=a.aN,order:=g,be:=h,bb:=k}:bj),(0:Int))
def yk(a:bj)(e:Int):Option ((List (Int×Int))×bj×Int):=
 (bif decide (e<(0:Int))then(some true)else
 some (decide (e>=a.n))).bind λf=>
 bif f then(some (a.aN,a,(1:Int)))else
 Let (iL a.aN e (1:Int)) λd=>
 some (d,({a with aN:=d}:bj),(0:Int))
def BI(a:bh):Option Int:=
 (bif decide (a.bS<(0:Int))then(some true)else
 some (decide (a.bS>(16777215:Int)))).bind λe=>
 (bif e then(some true)else
 some (decide ((a.bx.toNat:Int)<((1:BitVec 8).toNat:Int)))).bind λf=>
 (bif f then(some true)else
 some (decide ((a.bx.toNat:Int)>((63:BitVec 8).toNat:Int)))).bind λd=>
 bif d then(some (1:Int))else
 some (0:Int)
def BL(a:(BitVec 16)×Int):Option (d6 ((BitVec 16)×Int) Int):=
 bif decide ((a.1.toNat:Int)>((0:BitVec 16).toNat:Int))then(some (.go (a.1/(2:BitVec 16),aq (a.2+((a.1%(2:BitVec 16)).toNat:Int)))))else
 some (.fZ (a.1,a.2))
def tr(fu:Nat)(a:BitVec 16):Option Int:=
 andThen (df (BL) fu (a,(0:Int))) λ(e,d)=>
 some d
def yb(fu:Nat)(a:bh)(d:BitVec 8)(e:BitVec 8):Option (bh×Int):=
 (BI a).bind λj=>
 bif j !=(0:Int)then(some (bh.zero,j))else
 (bif decide ((d.toNat:Int)>((63:BitVec 8).toNat:Int))then(some true)else
 some (decide ((e.toNat:Int)>((63:BitVec 8).toNat:Int)))).bind λh=>
 (bif h then(some true)else
 some (decide (((d&&&e).toNat:Int)>((0:BitVec 8).toNat:Int)))).bind λi=>
 bif i then(some (bh.zero,(1:Int)))else
 bif a.bS==(16777215:Int)then(some (bh.zero,(8:Int)))else
 (tr fu (BitVec.ofInt 16 ((a.bx-(a.bx&&&d)).toNat:Int))).bind λf=>
 (tr fu (BitVec.ofInt 16 (a.bx.toNat:Int))).bind λg=>
 bif decide ((aq ((2:Int)*f))>g)then(some (({bh.zero with bS:=aq (a.bS+(1:Int)),bx:=(a.bx-(a.bx&&&d))|||e}:bh),(0:Int)))else
 some (bh.zero,(11:Int))
def tp(d:Nat)(f:List ay)(e:Nat)(a:(List Y)):Option (List Y):=
 (bf f (e:Int)).bind λh=>
 bif h.aw==(d:Int)then((co a (1:Int) (a.length:Int)).bind λg=>
 some g)else
 some a
def vn(e:bj)(g:List ay)(a:Nat)(d:bj):Option bj:=
 (nI ({d with aN:=e.aN,order:=e.order,be:=e.be,bb:=e.bb}:bj) (a:Int)).bind λm=>
 bif !m then(some ({d with aN:=e.aN,order:=e.order,be:=e.be,bb:=e.bb}:bj))else
 (dI d.aJ (a:Int)).bind λn=>
 (dI d.du (a:Int)).bind λo=>
 (co g (o.length:Int) (g.length:Int)).bind λh=>
 (bE (tp a h) h.length 0 n.aJ).bind λk=>
 (dI d.du (a:Int)).bind λs=>
 Let (d.du.setIfInBounds (a:Int).toNat g) λl=>
 (dI d.aJ (a:Int)).bind λp=>
 Let (d.aJ.setIfInBounds (a:Int).toNat ({aw.zero with aJ:=k}:aw)) λi=>
 Let ({d with aN:=e.aN,du:=l,aJ:=i,order:=e.order,be:=e.be,bb:=e.bb}:bj) λf=>
 (dI f.dK (a:Int)).bind λq=>
 Let (f.dK.setIfInBounds (a:Int).toNat To.zero) λj=>
 some ({f with aN:=e.aN,dK:=j,order:=e.order,be:=e.be,bb:=e.bb}:bj)
def vm(e:bj)(d:Nat)(a:(BitVec 8)×(List ay)):Option ((BitVec 8)×(List ay)):=
 (nI e (d:Int)).bind λg=>
 bif !g then((cnt (d:Int)).bind λf=>
 some (a.1|||((1:BitVec 8)<<<f),a.2))else
 (dI e.du (d:Int)).bind λh=>
 bif decide ((h.length:Int)>(a.2.length:Int))then((dI e.du (d:Int)).bind λi=>
 some (a.1,i))else
 some (a.1,a.2)
def yi(fu:Nat)(a:bj):Option (bj×Int):=
 (lj a.n).bind λe=>
 (bE (vm a) e 0 ((0:BitVec 8),([]:List ay))).bind λ(h,g)=>
 (yb fu a.V h (0:BitVec 8)).bind λd=>
 bif d.2 !=(0:Int)then(some (a,d.2))else
 (lj a.n).bind λf=>
 (bE (vn a g) f 0 a).bind λi=>
 some (({i with V:=d.1,aN:=a.aN,dM:=(Vector.replicate 6 To.zero:Vector To 6),order:=([]:List Y),be:=([]:List Mark),bb:=a.bb}:bj),(0:Int))
def yj(fu:Nat)(a:bj)(d:dJ):Option ((List (Int×Int))×bj×Int):=
 bif d.ba==(1:Int)then((yn fu a d.cI d.aM).bind λi=>
 some (a.aN,({i.2.1 with aN:=a.aN,order:=a.order,be:=a.be,bb:=i.1}:bj),i.2.2))else
 bif d.ba==(2:Int)then((yh fu a d.cI).bind λg=>
 some (a.aN,({g.2.1 with aN:=a.aN,order:=a.order,be:=a.be,bb:=g.1}:bj),g.2.2))else
 bif d.ba==(3:Int)then((ym fu a d.cI d.fw).bind λe=>
 some (a.aN,({e.2.2.1 with aN:=a.aN,order:=e.1,be:=e.2.1}:bj),e.2.2.2))else
 bif d.ba==(4:Int)then((yk a d.cI).bind λf=>
 some (f.1,({f.2.1 with aN:=f.1,order:=a.order,be:=a.be,bb:=a.bb}:bj),f.2.2))else
 bif d.ba==(5:Int)then((yi fu a).bind λh=>
 some (a.aN,({h.1 with aN:=a.aN,bb:=a.bb}:bj),h.2))else
 some (a.aN,a,(1:Int))
def Cg(a:Y)(d:Y):Option Bool:=
 (uA a d).bind λe=>
 some e
def yq(g:Y)(d:Nat)(f:Int):Option (d6 Int (Int×Bool)):=
 (bf (Y.bytes g) (d:Int)).bind λa=>
 (bif decide ((a.toNat:Int)<((48:BitVec 8).toNat:Int))then(some true)else
 some (decide ((a.toNat:Int)>((57:BitVec 8).toNat:Int)))).bind λe=>
 bif e then(some (.ret ((0:Int),false)))else
 some (.go (aq ((aq ((aq (f*(10:Int)))+(a.toNat:Int)))-(48:Int))))
def vu(d:Y):Option (Int×Bool):=
 ((Cg d ([45]:Y)).bind λh=>
 bif h then((co d (1:Int) (d.length:Int)).bind λg=>
 some (g,(-1:Int)))else
 some (d,(1:Int))).bind λ(a,j)=>
 (bif decide ((a.length:Int)<(1:Int))then(some true)else
 some (decide ((a.length:Int)>(9:Int)))).bind λe=>
 bif e then(some ((0:Int),false))else
 (room ([]:Y) a).bind λi=>
 andThen (dT (yq a) ((Y.bytes a).length) 0 (0:Int)) λf=>
 some (aq (j*f),true)
def yd(fu:Nat)(n:Y):Option (cH×Int):=
 (vJ fu n ([32]:Y)).bind λf=>
 bif (f.length:Int)!=(3:Int)then(some (cH.zero,(12:Int)))else
 (bf f (0:Int)).bind λg=>
 (vH ([([]:Y),([115,101,116]:Y),([97,100,100]:Y),([109,111,115,116]:Y),([99,111,112,121]:Y)]:List Y) g).bind λe=>
 (bf f (1:Int)).bind λh=>
 (vu h).bind λa=>
 (bf f (2:Int)).bind λi=>
 (vu i).bind λd=>
 (bif decide (e<(1:Int))then(some true)else
 some (!a.2)).bind λj=>
 (bif j then(some true)else
 some (!d.2)).bind λk=>
 bif k then(some (cH.zero,(12:Int)))else
 (bif decide (a.1<(0:Int))then(some true)else
 some (decide (a.1>(9:Int)))).bind λl=>
 bif l then(some (cH.zero,(1:Int)))else
 bif e==(4:Int)then((bif decide (d.1<(0:Int))then(some true)else
 some (decide (d.1>(9:Int)))).bind λm=>
 bif m then(some (cH.zero,(1:Int)))else
 some (({cH.zero with ba:=e,ee:=a.1,N:=d.1}:cH),(0:Int)))else
 some (({cH.zero with ba:=e,ee:=a.1,N:=d.1}:cH),(0:Int))
def oI(a:Int):Option Int:=
 bif decide (a>(1000000000:Int))then(some (1000000000:Int))else
 bif decide (a<(-1000000000:Int))then(some (-1000000000:Int))else
 some a
def yf(fu:Nat)(m:List Y)(n:Nat)(d:Int×(Vector Int 10)):Option (Int×(Vector Int 10)):=
 (bf m (n:Int)).bind λh=>
 (yd fu h).bind λa=>
 bif a.2 !=(0:Int)then(some (aq (d.1+(1:Int)),d.2))else
 (oI a.1.N).bind λe=>
 (bif a.1.ba==(2:Int)then((dI d.2 a.1.ee).bind λi=>
 (oI (aq ((max (-1099511627776:Int) (min i (1099511627776:Int)))+e))).bind λg=>
 some g)else
 bif a.1.ba==(3:Int)then((dI d.2 a.1.ee).bind λj=>
 some (max e j))else
 bif a.1.ba==(4:Int)then((dI d.2 a.1.N).bind λk=>
 some k)else
 some e).bind λl=>
 (dI d.2 a.1.ee).bind λo=>
 Let (d.2.setIfInBounds a.1.ee.toNat l) λf=>
 some (d.1,f)
def ye(fu:Nat)(d:Vector Int 10)(a:List Y):Option ((Vector Int 10)×Int):=
 (bE (yf fu a) a.length 0 ((0:Int),d)).bind λ(e,f)=>
 some (f,e)
def vo(x9:List ay)(e:Nat)(d:(List Y)):Option (List Y):=
 (bf x9 (e:Int)).bind λa=>
 (room d ([a.aM]:List Y)).bind λf=>
 some (d++([a.aM]:List Y))
def yo(fu:Nat)(e:bj)(f:Int):Option (Vector Int 10):=
 (dI e.du f).bind λx9=>
 (bE (vo x9) x9.length 0 ([]:List Y)).bind λa=>
 (ye fu ((Vector.replicate 10 (0:Int)):Vector Int 10) a).bind λd=>
 some d.1
def Gi(d:List Int)(e:List Int)(a:Nat)(h:Unit):Option (d6 Unit Bool):=
 (bf d (a:Int)).bind λf=>
 (bf e (a:Int)).bind λg=>
 bif f !=g then(some (.ret false))else
 some (.go ())
def yQ(a:List Int)(d:List Int):Option Bool:=
 bif (a.length:Int)!=(d.length:Int)then(some false)else
 andThen (dT (Gi a d) a.length 0 ()) λ_=>
 some true
def Gj(d:List (Vector Int 10))(e:List (Vector Int 10))(a:Nat)(h:Unit):Option (d6 Unit Bool):=
 (bf d (a:Int)).bind λf=>
 (bf e (a:Int)).bind λg=>
 bif !(decide (f=g))then(some (.ret false))else
 some (.go ())
def yR(a:List (Vector Int 10))(d:List (Vector Int 10)):Option Bool:=
 bif (a.length:Int)!=(d.length:Int)then(some false)else
 andThen (dT (Gj a d) a.length 0 ()) λ_=>
 some true
def tk(fu:Nat)(g:bj)(f:List (Int×Int))(e:Nat)(d:(List (Vector Int 10))):Option (List (Vector Int 10)):=
 (yo fu ({g with aN:=f}:bj) (e:Int)).bind λa=>
 (room d ([a]:List (Vector Int 10))).bind λh=>
 some (d++([a]:List (Vector Int 10)))
def tj(fu:Nat)(g:fN)(e:Nat)(d:bj×(List Int)×(List (Int×Int))):Option (bj×(List Int)×(List (Int×Int))):=
 (bf g.dN (e:Int)).bind λf=>
 (yj fu ({d.1 with aN:=d.2.2}:bj) f).bind λa=>
 (room d.2.1 ([a.2.2]:List Int)).bind λh=>
 some (({a.2.1 with aN:=a.1}:bj),d.2.1++([a.2.2]:List Int),a.1)
def vj(fu:Nat)(L:List fN)(e:(List dk)×Int)(a:Nat)(M:Unit):Option (d6 Unit Bool):=
 (bf L (a:Int)).bind λd=>
 (bif decide (d.N<(1:Int))then(some true)else
 some (decide (d.N>(6:Int)))).bind λD=>
 bif D then((bf e.1 (a:Int)).bind λy=>
 (bif y.jB !=(1:Int)then(some true)else
 (bf e.1 (a:Int)).bind λA=>
 some (decide ((A.fv.length:Int)>(0:Int)))).bind λF=>
 (bif F then(some true)else
 (bf e.1 (a:Int)).bind λB=>
 some (!(decide (B.kc=bh.zero)))).bind λH=>
 (bif H then(some true)else
 (bf e.1 (a:Int)).bind λC=>
 some (decide ((C.fy.length:Int)>(0:Int)))).bind λK=>
 bif K then(some (.ret false))else
 some (.go ()))else
 (vk d.N).bind λm=>
 (bE (tj fu d) d.dN.length 0 (m,([]:List Int),m.aN)).bind λ(f,h,i)=>
 (lj d.N).bind λg=>
 (bE (tk fu f i) g 0 ([]:List (Vector Int 10))).bind λj=>
 (bf e.1 (a:Int)).bind λn=>
 (bif n.jB !=(0:Int)then(some true)else
 (bf e.1 (a:Int)).bind λo=>
 (yQ o.fv h).bind λk=>
 some (!k)).bind λs=>
 (bif s then(some true)else
 (bf e.1 (a:Int)).bind λp=>
 some (!(decide (p.kc=f.V)))).bind λt=>
 (bif t then(some true)else
 (bf e.1 (a:Int)).bind λq=>
 (yR q.fy j).bind λl=>
 some (!l)).bind λx=>
 bif x then(some (.ret false))else
 some (.go ())
def nH(fu:Nat)(e:Int)(d:List fN):Option Bool:=
 (oD fu e d).bind λa=>
 (bif decide (e<(1:Int))then(some true)else
 some (decide (e>(8:Int)))).bind λf=>
 bif f then((bif (a.1.length:Int)==(0:Int)then(some (a.2==(1:Int)))else
 some false).bind λg=>
 some g)else
 (bif a.2 !=(0:Int)then(some true)else
 some ((a.1.length:Int)!=(d.length:Int))).bind λh=>
 bif h then(some false)else
 andThen (dT (vj fu d a) d.length 0 ()) λ_=>
 some true
abbrev u9:=@Nw
abbrev rf:=@Ny
abbrev By:=@Qe
abbrev mc:=@Qf
abbrev uY:=@Qg
abbrev mJ:=@Qh
abbrev sX:=@Qi
abbrev li:=@Qj
abbrev uZ:=@Qk
abbrev kJ:=@Qo
abbrev sY:=@Qp
abbrev kq:=@Q2
abbrev lL:=@Q3
