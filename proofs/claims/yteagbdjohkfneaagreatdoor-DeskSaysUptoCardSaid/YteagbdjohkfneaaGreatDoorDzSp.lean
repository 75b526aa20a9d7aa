/-
  What the functions compute, typed; printed by a program.
-/
import Derived.Test.YteagbdjohkfneaaGreatDoorGoL
namespace Go.Proofs.YteagbdjohkfneaaGreatDoor
open Go.RowKit an
set_option linter.unusedVariables false
set_option linter.unusedSimpArgs false
structure bB where
 ce:Int
 bJ:BitVec 8
instance :DecidableEq bB:=λa b=>decidable_of_iff (a.ce=b.ce/\a.bJ=b.bJ) (by cases a;cases b;simp)
def bB.zero:bB:=⟨(0:Int),(0:BitVec 8)⟩
instance :an bB:=⟨λp=>enc p.ce++(enc p.bJ),2,λp=>by simp only[cH,an.len];rfl,λp=>by simp only[jf,an.one,je]⟩
theorem Th{p:bB}{k:Nat}{ch:List Value}(h:bS (enc p.ce) k ch):bS (enc p) (0+k) ch:=d8 (fi h) O
theorem aeo{p:bB}{k:Nat}{vs:List Value}{y:Int}(h:bQ (enc p.ce) k vs (enc y)):bQ (enc p) (0+k) vs (enc ({p with ce:=y}:bB)):=d7 (cs':=enc ({p with ce:=y}:bB)) (eS h) O
theorem Tg{p:bB}{k:Nat}{ch:List Value}(h:bS (enc p.bJ) k ch):bS (enc p) (1+k) ch:=d8 (cz (m:=1) (an.len _) h) O
theorem aen{p:bB}{k:Nat}{vs:List Value}{y:BitVec 8}(h:bQ (enc p.bJ) k vs (enc y)):bQ (enc p) (1+k) vs (enc ({p with bJ:=y}:bB)):=d7 (cs':=enc ({p with bJ:=y}:bB)) (cr (m:=1) (an.len _) h) O
instance :cJ bB:=⟨λp=>cJ.ok p.ce/\cJ.ok p.bJ⟩
instance :dk bB:=⟨λB p=>dk.ok B p.ce/\dk.ok B p.bJ⟩
structure aG where
 aJ:Int
 aY:Y
instance :DecidableEq aG:=λa b=>decidable_of_iff (a.aJ=b.aJ/\a.aY=b.aY) (by cases a;cases b;simp)
def aG.zero:aG:=⟨(0:Int),([]:Y)⟩
instance :an aG:=⟨λp=>enc p.aJ++(enc p.aY),2,λp=>by simp only[cH,an.len];rfl,λp=>by simp only[jf,an.one,je]⟩
theorem JB{p:aG}{k:Nat}{ch:List Value}(h:bS (enc p.aJ) k ch):bS (enc p) (0+k) ch:=d8 (fi h) O
theorem aeg{p:aG}{k:Nat}{vs:List Value}{y:Int}(h:bQ (enc p.aJ) k vs (enc y)):bQ (enc p) (0+k) vs (enc ({p with aJ:=y}:aG)):=d7 (cs':=enc ({p with aJ:=y}:aG)) (eS h) O
theorem JC{p:aG}{k:Nat}{ch:List Value}(h:bS (enc p.aY) k ch):bS (enc p) (1+k) ch:=d8 (cz (m:=1) (an.len _) h) O
theorem aeh{p:aG}{k:Nat}{vs:List Value}{y:Y}(h:bQ (enc p.aY) k vs (enc y)):bQ (enc p) (1+k) vs (enc ({p with aY:=y}:aG)):=d7 (cs':=enc ({p with aY:=y}:aG)) (cr (m:=1) (an.len _) h) O
instance :cJ aG:=⟨λp=>cJ.ok p.aJ/\cJ.ok p.aY⟩
instance :dk aG:=⟨λB p=>dk.ok B p.aJ/\dk.ok B p.aY⟩
structure aJ where
 bI:Int
 aR:List Y
instance :DecidableEq aJ:=λa b=>decidable_of_iff (a.bI=b.bI/\a.aR=b.aR) (by cases a;cases b;simp)
def aJ.zero:aJ:=⟨(0:Int),[]⟩
instance :cJ aJ:=⟨λp=>cJ.ok p.bI/\cJ.ok p.aR⟩
instance :dk aJ:=⟨λB p=>dk.ok B p.bI/\dk.ok B p.aR⟩
structure bc where
 aA:Int
 aY:Y
instance :DecidableEq bc:=λa b=>decidable_of_iff (a.aA=b.aA/\a.aY=b.aY) (by cases a;cases b;simp)
def bc.zero:bc:=⟨(0:Int),([]:Y)⟩
instance :an bc:=⟨λp=>enc p.aA++(enc p.aY),2,λp=>by simp only[cH,an.len];rfl,λp=>by simp only[jf,an.one,je]⟩
theorem Sw{p:bc}{k:Nat}{ch:List Value}(h:bS (enc p.aA) k ch):bS (enc p) (0+k) ch:=d8 (fi h) O
theorem ad7{p:bc}{k:Nat}{vs:List Value}{y:Int}(h:bQ (enc p.aA) k vs (enc y)):bQ (enc p) (0+k) vs (enc ({p with aA:=y}:bc)):=d7 (cs':=enc ({p with aA:=y}:bc)) (eS h) O
theorem Sx{p:bc}{k:Nat}{ch:List Value}(h:bS (enc p.aY) k ch):bS (enc p) (1+k) ch:=d8 (cz (m:=1) (an.len _) h) O
theorem ad8{p:bc}{k:Nat}{vs:List Value}{y:Y}(h:bQ (enc p.aY) k vs (enc y)):bQ (enc p) (1+k) vs (enc ({p with aY:=y}:bc)):=d7 (cs':=enc ({p with aY:=y}:bc)) (cr (m:=1) (an.len _) h) O
instance :cJ bc:=⟨λp=>cJ.ok p.aA/\cJ.ok p.aY⟩
instance :dk bc:=⟨λB p=>dk.ok B p.aA/\dk.ok B p.aY⟩
structure To where
 aN:Int
 bu:List bc
instance :DecidableEq To:=λa b=>decidable_of_iff (a.aN=b.aN/\a.bu=b.bu) (by cases a;cases b;simp)
def To.zero:To:=⟨(0:Int),[]⟩
instance :cJ To:=⟨λp=>cJ.ok p.aN/\cJ.ok p.bu⟩
instance :dk To:=⟨λB p=>dk.ok B p.aN/\dk.ok B p.bu⟩
structure bw where
 eE:Bool
 bq:List aG
 aF:aJ
 to:To
 bN:To
instance :DecidableEq bw:=λa b=>decidable_of_iff (a.eE=b.eE/\a.bq=b.bq/\a.aF=b.aF/\a.to=b.to/\a.bN=b.bN) (by cases a;cases b;simp)
def bw.zero:bw:=⟨false,[],aJ.zero,To.zero,To.zero⟩
instance :cJ bw:=⟨λp=>cJ.ok p.eE/\cJ.ok p.bq/\cJ.ok p.aF/\cJ.ok p.to/\cJ.ok p.bN⟩
instance :dk bw:=⟨λB p=>dk.ok B p.eE/\dk.ok B p.bq/\dk.ok B p.aF/\dk.ok B p.to/\dk.ok B p.bN⟩
structure aZ where
 aO:bB
 all:List bw
 aK:List Y
 ah:List Y
instance :DecidableEq aZ:=λa b=>decidable_of_iff (a.aO=b.aO/\a.all=b.all/\a.aK=b.aK/\a.ah=b.ah) (by cases a;cases b;simp)
def aZ.zero:aZ:=⟨bB.zero,[],[],[]⟩
instance :cJ aZ:=⟨λp=>cJ.ok p.aO/\cJ.ok p.all/\cJ.ok p.aK/\cJ.ok p.ah⟩
instance :dk aZ:=⟨λB p=>dk.ok B p.aO/\dk.ok B p.all/\dk.ok B p.aK/\dk.ok B p.ah⟩
structure aT where
 cb:Int
 aX:Int
 cq:Int
instance :DecidableEq aT:=λa b=>decidable_of_iff (a.cb=b.cb/\a.aX=b.aX/\a.cq=b.cq) (by cases a;cases b;simp)
def aT.zero:aT:=⟨(0:Int),(0:Int),(0:Int)⟩
instance :an aT:=⟨λp=>enc p.cb++(enc p.aX++(enc p.cq)),3,λp=>by simp only[cH,an.len];rfl,λp=>by simp only[jf,an.one,je]⟩
theorem Qd{p:aT}{k:Nat}{ch:List Value}(h:bS (enc p.cb) k ch):bS (enc p) (0+k) ch:=d8 (fi h) O
theorem adu{p:aT}{k:Nat}{vs:List Value}{y:Int}(h:bQ (enc p.cb) k vs (enc y)):bQ (enc p) (0+k) vs (enc ({p with cb:=y}:aT)):=d7 (cs':=enc ({p with cb:=y}:aT)) (eS h) O
theorem Qb{p:aT}{k:Nat}{ch:List Value}(h:bS (enc p.aX) k ch):bS (enc p) (1+k) ch:=d8 (cz (m:=1) (an.len _) (fi h)) O
theorem adt{p:aT}{k:Nat}{vs:List Value}{y:Int}(h:bQ (enc p.aX) k vs (enc y)):bQ (enc p) (1+k) vs (enc ({p with aX:=y}:aT)):=d7 (cs':=enc ({p with aX:=y}:aT)) (cr (m:=1) (an.len _) (eS h)) O
theorem Qc{p:aT}{k:Nat}{ch:List Value}(h:bS (enc p.cq) k ch):bS (enc p) (2+k) ch:=d8 (cz (m:=1) (an.len _) (cz (m:=1) (an.len _) h)) O
theorem IL{p:aT}{k:Nat}{vs:List Value}{y:Int}(h:bQ (enc p.cq) k vs (enc y)):bQ (enc p) (2+k) vs (enc ({p with cq:=y}:aT)):=d7 (cs':=enc ({p with cq:=y}:aT)) (cr (m:=1) (an.len _) (cr (m:=1) (an.len _) h)) O
instance :cJ aT:=⟨λp=>cJ.ok p.cb/\cJ.ok p.aX/\cJ.ok p.cq⟩
instance :dk aT:=⟨λB p=>dk.ok B p.cb/\dk.ok B p.aX/\dk.ok B p.cq⟩
structure f7 where
 jr:Vector Int 30
 jQ:Vector (Vector Bool 6) 30
instance :DecidableEq f7:=λa b=>decidable_of_iff (a.jr=b.jr/\a.jQ=b.jQ) (by cases a;cases b;simp)
def f7.zero:f7:=⟨(Vector.replicate 30 (0:Int)),(Vector.replicate 30 (Vector.replicate 6 false))⟩
instance :an f7:=⟨λp=>enc p.jr++(enc p.jQ),210,λp=>by simp only[cH,an.len];rfl,λp=>by simp only[jf,an.one,je]⟩
theorem Ph{p:f7}{k:Nat}{ch:List Value}(h:bS (enc p.jr) k ch):bS (enc p) (0+k) ch:=d8 (fi h) O
theorem Pj{p:f7}{k:Nat}{vs:List Value}{y:Vector Int 30}(h:bQ (enc p.jr) k vs (enc y)):bQ (enc p) (0+k) vs (enc ({p with jr:=y}:f7)):=d7 (cs':=enc ({p with jr:=y}:f7)) (eS h) O
theorem Pi{p:f7}{k:Nat}{ch:List Value}(h:bS (enc p.jQ) k ch):bS (enc p) (30+k) ch:=d8 (cz (m:=30) (an.len _) h) O
theorem Pk{p:f7}{k:Nat}{vs:List Value}{y:Vector (Vector Bool 6) 30}(h:bQ (enc p.jQ) k vs (enc y)):bQ (enc p) (30+k) vs (enc ({p with jQ:=y}:f7)):=d7 (cs':=enc ({p with jQ:=y}:f7)) (cr (m:=30) (an.len _) h) O
instance :cJ f7:=⟨λp=>cJ.ok p.jr/\cJ.ok p.jQ⟩
instance :dk f7:=⟨λB p=>dk.ok B p.jr/\dk.ok B p.jQ⟩
structure aV where
 aX:Int
 aJ:Int
 To:Int
 bB:Int
 aA:Int
 At:Vector Int 6
 aY:Y
instance :DecidableEq aV:=λa b=>decidable_of_iff (a.aX=b.aX/\a.aJ=b.aJ/\a.To=b.To/\a.bB=b.bB/\a.aA=b.aA/\a.At=b.At/\a.aY=b.aY) (by cases a;cases b;simp)
def aV.zero:aV:=⟨(0:Int),(0:Int),(0:Int),(0:Int),(0:Int),(Vector.replicate 6 (0:Int)),([]:Y)⟩
instance :an aV:=⟨λp=>enc p.aX++(enc p.aJ++(enc p.To++(enc p.bB++(enc p.aA++(enc p.At++(enc p.aY)))))),12,λp=>by simp only[cH,an.len];rfl,λp=>by simp only[jf,an.one,je]⟩
theorem Sj{p:aV}{k:Nat}{ch:List Value}(h:bS (enc p.aX) k ch):bS (enc p) (0+k) ch:=d8 (fi h) O
theorem ad1{p:aV}{k:Nat}{vs:List Value}{y:Int}(h:bQ (enc p.aX) k vs (enc y)):bQ (enc p) (0+k) vs (enc ({p with aX:=y}:aV)):=d7 (cs':=enc ({p with aX:=y}:aV)) (eS h) O
theorem Si{p:aV}{k:Nat}{ch:List Value}(h:bS (enc p.aJ) k ch):bS (enc p) (1+k) ch:=d8 (cz (m:=1) (an.len _) (fi h)) O
theorem ad0{p:aV}{k:Nat}{vs:List Value}{y:Int}(h:bQ (enc p.aJ) k vs (enc y)):bQ (enc p) (1+k) vs (enc ({p with aJ:=y}:aV)):=d7 (cs':=enc ({p with aJ:=y}:aV)) (cr (m:=1) (an.len _) (eS h)) O
theorem Sn{p:aV}{k:Nat}{ch:List Value}(h:bS (enc p.To) k ch):bS (enc p) (2+k) ch:=d8 (cz (m:=1) (an.len _) (cz (m:=1) (an.len _) (fi h))) O
theorem ad4{p:aV}{k:Nat}{vs:List Value}{y:Int}(h:bQ (enc p.To) k vs (enc y)):bQ (enc p) (2+k) vs (enc ({p with To:=y}:aV)):=d7 (cs':=enc ({p with To:=y}:aV)) (cr (m:=1) (an.len _) (cr (m:=1) (an.len _) (eS h))) O
theorem So{p:aV}{k:Nat}{ch:List Value}(h:bS (enc p.bB) k ch):bS (enc p) (3+k) ch:=d8 (cz (m:=1) (an.len _) (cz (m:=1) (an.len _) (cz (m:=1) (an.len _) (fi h)))) O
theorem Sq{p:aV}{k:Nat}{vs:List Value}{y:Int}(h:bQ (enc p.bB) k vs (enc y)):bQ (enc p) (3+k) vs (enc ({p with bB:=y}:aV)):=d7 (cs':=enc ({p with bB:=y}:aV)) (cr (m:=1) (an.len _) (cr (m:=1) (an.len _) (cr (m:=1) (an.len _) (eS h)))) O
theorem Sk{p:aV}{k:Nat}{ch:List Value}(h:bS (enc p.aA) k ch):bS (enc p) (4+k) ch:=d8 (cz (m:=1) (an.len _) (cz (m:=1) (an.len _) (cz (m:=1) (an.len _) (cz (m:=1) (an.len _) (fi h))))) O
theorem ad2{p:aV}{k:Nat}{vs:List Value}{y:Int}(h:bQ (enc p.aA) k vs (enc y)):bQ (enc p) (4+k) vs (enc ({p with aA:=y}:aV)):=d7 (cs':=enc ({p with aA:=y}:aV)) (cr (m:=1) (an.len _) (cr (m:=1) (an.len _) (cr (m:=1) (an.len _) (cr (m:=1) (an.len _) (eS h))))) O
theorem BA{p:aV}{k:Nat}{ch:List Value}(h:bS (enc p.At) k ch):bS (enc p) (5+k) ch:=d8 (cz (m:=1) (an.len _) (cz (m:=1) (an.len _) (cz (m:=1) (an.len _) (cz (m:=1) (an.len _) (cz (m:=1) (an.len _) (fi h)))))) O
theorem Sp{p:aV}{k:Nat}{vs:List Value}{y:Vector Int 6}(h:bQ (enc p.At) k vs (enc y)):bQ (enc p) (5+k) vs (enc ({p with At:=y}:aV)):=d7 (cs':=enc ({p with At:=y}:aV)) (cr (m:=1) (an.len _) (cr (m:=1) (an.len _) (cr (m:=1) (an.len _) (cr (m:=1) (an.len _) (cr (m:=1) (an.len _) (eS h)))))) O
theorem Sm{p:aV}{k:Nat}{ch:List Value}(h:bS (enc p.aY) k ch):bS (enc p) (11+k) ch:=d8 (cz (m:=1) (an.len _) (cz (m:=1) (an.len _) (cz (m:=1) (an.len _) (cz (m:=1) (an.len _) (cz (m:=1) (an.len _) (cz (m:=6) (an.len _) h)))))) O
theorem ad3{p:aV}{k:Nat}{vs:List Value}{y:Y}(h:bQ (enc p.aY) k vs (enc y)):bQ (enc p) (11+k) vs (enc ({p with aY:=y}:aV)):=d7 (cs':=enc ({p with aY:=y}:aV)) (cr (m:=1) (an.len _) (cr (m:=1) (an.len _) (cr (m:=1) (an.len _) (cr (m:=1) (an.len _) (cr (m:=1) (an.len _) (cr (m:=6) (an.len _) h)))))) O
instance :cJ aV:=⟨λp=>cJ.ok p.aX/\cJ.ok p.aJ/\cJ.ok p.To/\cJ.ok p.bB/\cJ.ok p.aA/\cJ.ok p.At/\cJ.ok p.aY⟩
instance :dk aV:=⟨λB p=>dk.ok B p.aX/\dk.ok B p.aJ/\dk.ok B p.To/\dk.ok B p.bB/\dk.ok B p.aA/\dk.ok B p.At/\dk.ok B p.aY⟩
structure db where
 aX:Int
 eI:Int
 N:Int
instance :DecidableEq db:=λa b=>decidable_of_iff (a.aX=b.aX/\a.eI=b.eI/\a.N=b.N) (by cases a;cases b;simp)
def db.zero:db:=⟨(0:Int),(0:Int),(0:Int)⟩
instance :an db:=⟨λp=>enc p.aX++(enc p.eI++(enc p.N)),3,λp=>by simp only[cH,an.len];rfl,λp=>by simp only[jf,an.one,je]⟩
theorem In{p:db}{k:Nat}{ch:List Value}(h:bS (enc p.aX) k ch):bS (enc p) (0+k) ch:=d8 (fi h) O
theorem adp{p:db}{k:Nat}{vs:List Value}{y:Int}(h:bQ (enc p.aX) k vs (enc y)):bQ (enc p) (0+k) vs (enc ({p with aX:=y}:db)):=d7 (cs':=enc ({p with aX:=y}:db)) (eS h) O
theorem Bh{p:db}{k:Nat}{ch:List Value}(h:bS (enc p.eI) k ch):bS (enc p) (1+k) ch:=d8 (cz (m:=1) (an.len _) (fi h)) O
theorem ado{p:db}{k:Nat}{vs:List Value}{y:Int}(h:bQ (enc p.eI) k vs (enc y)):bQ (enc p) (1+k) vs (enc ({p with eI:=y}:db)):=d7 (cs':=enc ({p with eI:=y}:db)) (cr (m:=1) (an.len _) (eS h)) O
theorem Pm{p:db}{k:Nat}{ch:List Value}(h:bS (enc p.N) k ch):bS (enc p) (2+k) ch:=d8 (cz (m:=1) (an.len _) (cz (m:=1) (an.len _) h)) O
theorem adq{p:db}{k:Nat}{vs:List Value}{y:Int}(h:bQ (enc p.N) k vs (enc y)):bQ (enc p) (2+k) vs (enc ({p with N:=y}:db)):=d7 (cs':=enc ({p with N:=y}:db)) (cr (m:=1) (an.len _) (cr (m:=1) (an.len _) h)) O
instance :cJ db:=⟨λp=>cJ.ok p.aX/\cJ.ok p.eI/\cJ.ok p.N⟩
instance :dk db:=⟨λB p=>dk.ok B p.aX/\dk.ok B p.eI/\dk.ok B p.N⟩
structure cN where
 aF:Int
 seq:Int
instance :DecidableEq cN:=λa b=>decidable_of_iff (a.aF=b.aF/\a.seq=b.seq) (by cases a;cases b;simp)
def cN.zero:cN:=⟨(0:Int),(0:Int)⟩
instance :an cN:=⟨λp=>enc p.aF++(enc p.seq),2,λp=>by simp only[cH,an.len];rfl,λp=>by simp only[jf,an.one,je]⟩
theorem EW{p:cN}{k:Nat}{ch:List Value}(h:bS (enc p.aF) k ch):bS (enc p) (0+k) ch:=d8 (fi h) O
theorem adY{p:cN}{k:Nat}{vs:List Value}{y:Int}(h:bQ (enc p.aF) k vs (enc y)):bQ (enc p) (0+k) vs (enc ({p with aF:=y}:cN)):=d7 (cs':=enc ({p with aF:=y}:cN)) (eS h) O
theorem Sh{p:cN}{k:Nat}{ch:List Value}(h:bS (enc p.seq) k ch):bS (enc p) (1+k) ch:=d8 (cz (m:=1) (an.len _) h) O
theorem adZ{p:cN}{k:Nat}{vs:List Value}{y:Int}(h:bQ (enc p.seq) k vs (enc y)):bQ (enc p) (1+k) vs (enc ({p with seq:=y}:cN)):=d7 (cs':=enc ({p with seq:=y}:cN)) (cr (m:=1) (an.len _) h) O
instance :cJ cN:=⟨λp=>cJ.ok p.aF/\cJ.ok p.seq⟩
instance :dk cN:=⟨λB p=>dk.ok B p.aF/\dk.ok B p.seq⟩
structure bi where
 n:Int
 V:bB
 aI:List (Int×Int)
 dr:Vector (List aG) 6
 dM:Vector To 6
 aR:Vector aJ 6
 dR:Vector To 6
 bd:List Y
 bf:List cN
 bj:List aV
instance :DecidableEq bi:=λa b=>decidable_of_iff (a.n=b.n/\a.V=b.V/\a.aI=b.aI/\a.dr=b.dr/\a.dM=b.dM/\a.aR=b.aR/\a.dR=b.dR/\a.bd=b.bd/\a.bf=b.bf/\a.bj=b.bj) (by cases a;cases b;simp)
def bi.zero:bi:=⟨(0:Int),bB.zero,[],(Vector.replicate 6 []),(Vector.replicate 6 To.zero),(Vector.replicate 6 aJ.zero),(Vector.replicate 6 To.zero),[],[],[]⟩
structure cV where
 A:Int
 B:Int
instance :DecidableEq cV:=λa b=>decidable_of_iff (a.A=b.A/\a.B=b.B) (by cases a;cases b;simp)
def cV.zero:cV:=⟨(0:Int),(0:Int)⟩
instance :an cV:=⟨λp=>enc p.A++(enc p.B),2,λp=>by simp only[cH,an.len];rfl,λp=>by simp only[jf,an.one,je]⟩
theorem Sv{p:cV}{k:Nat}{ch:List Value}(h:bS (enc p.A) k ch):bS (enc p) (0+k) ch:=d8 (fi h) O
theorem ad5{p:cV}{k:Nat}{vs:List Value}{y:Int}(h:bQ (enc p.A) k vs (enc y)):bQ (enc p) (0+k) vs (enc ({p with A:=y}:cV)):=d7 (cs':=enc ({p with A:=y}:cV)) (eS h) O
theorem EX{p:cV}{k:Nat}{ch:List Value}(h:bS (enc p.B) k ch):bS (enc p) (1+k) ch:=d8 (cz (m:=1) (an.len _) h) O
theorem ad6{p:cV}{k:Nat}{vs:List Value}{y:Int}(h:bQ (enc p.B) k vs (enc y)):bQ (enc p) (1+k) vs (enc ({p with B:=y}:cV)):=d7 (cs':=enc ({p with B:=y}:cV)) (cr (m:=1) (an.len _) h) O
instance :cJ cV:=⟨λp=>cJ.ok p.A/\cJ.ok p.B⟩
instance :dk cV:=⟨λB p=>dk.ok B p.A/\dk.ok B p.B⟩
structure cO where
 of:Int
 fe:Int
 ah:Int
 left:Int
instance :DecidableEq cO:=λa b=>decidable_of_iff (a.of=b.of/\a.fe=b.fe/\a.ah=b.ah/\a.left=b.left) (by cases a;cases b;simp)
def cO.zero:cO:=⟨(0:Int),(0:Int),(0:Int),(0:Int)⟩
instance :an cO:=⟨λp=>enc p.of++(enc p.fe++(enc p.ah++(enc p.left))),4,λp=>by simp only[cH,an.len];rfl,λp=>by simp only[jf,an.one,je]⟩
theorem Tc{p:cO}{k:Nat}{ch:List Value}(h:bS (enc p.of) k ch):bS (enc p) (0+k) ch:=d8 (fi h) O
theorem ael{p:cO}{k:Nat}{vs:List Value}{y:Int}(h:bQ (enc p.of) k vs (enc y)):bQ (enc p) (0+k) vs (enc ({p with of:=y}:cO)):=d7 (cs':=enc ({p with of:=y}:cO)) (eS h) O
theorem E2{p:cO}{k:Nat}{ch:List Value}(h:bS (enc p.fe) k ch):bS (enc p) (1+k) ch:=d8 (cz (m:=1) (an.len _) (fi h)) O
theorem Te{p:cO}{k:Nat}{vs:List Value}{y:Int}(h:bQ (enc p.fe) k vs (enc y)):bQ (enc p) (1+k) vs (enc ({p with fe:=y}:cO)):=d7 (cs':=enc ({p with fe:=y}:cO)) (cr (m:=1) (an.len _) (eS h)) O
theorem Td{p:cO}{k:Nat}{ch:List Value}(h:bS (enc p.ah) k ch):bS (enc p) (2+k) ch:=d8 (cz (m:=1) (an.len _) (cz (m:=1) (an.len _) (fi h))) O
theorem aem{p:cO}{k:Nat}{vs:List Value}{y:Int}(h:bQ (enc p.ah) k vs (enc y)):bQ (enc p) (2+k) vs (enc ({p with ah:=y}:cO)):=d7 (cs':=enc ({p with ah:=y}:cO)) (cr (m:=1) (an.len _) (cr (m:=1) (an.len _) (eS h))) O
theorem JH{p:cO}{k:Nat}{ch:List Value}(h:bS (enc p.left) k ch):bS (enc p) (3+k) ch:=d8 (cz (m:=1) (an.len _) (cz (m:=1) (an.len _) (cz (m:=1) (an.len _) h))) O
theorem Tf{p:cO}{k:Nat}{vs:List Value}{y:Int}(h:bQ (enc p.left) k vs (enc y)):bQ (enc p) (3+k) vs (enc ({p with left:=y}:cO)):=d7 (cs':=enc ({p with left:=y}:cO)) (cr (m:=1) (an.len _) (cr (m:=1) (an.len _) (cr (m:=1) (an.len _) h))) O
instance :cJ cO:=⟨λp=>cJ.ok p.of/\cJ.ok p.fe/\cJ.ok p.ah/\cJ.ok p.left⟩
instance :dk cO:=⟨λB p=>dk.ok B p.of/\dk.ok B p.fe/\dk.ok B p.ah/\dk.ok B p.left⟩
def vt(a:Y)(d:BitVec 8):Option Int:=
 some (Dw a d)
def rK(d:Y)(a:Y):Option Int:=
 (bif (a.length:Int)==(0:Int)then(some true)else
 some (decide (a=d))).bind λg=>
 bif g then(some (0:Int))else
 bif (a.length:Int)==(1:Int)then((bh a (0:Int)).bind λf=>
 (vt d f.toBitVec).bind λe=>
 some e)else
 bif decide ((a.length:Int)>=(d.length:Int))then(some (-1:Int))else
 none
def qW(a:Y)(d:Y):Option Int:=
 (rK a d).bind λe=>
 some e
def H9(f:Y)(d:Y×Int):Option (di (Y×Int) Int):=
 (qW d.1 f).bind λa=>
 bif a==(-1:Int)then(some (.ret d.2))else
 (bY d.1 (ap (a+(f.length:Int))) (d.1.length:Int)).bind λe=>
 some (.go (e,ap (d.2+(1:Int))))
def DX(fu:Nat)(d:Y)(a:Y):Option Int:=
 bif (a.length:Int)==(0:Int)then(none)else
 bif (a.length:Int)==(1:Int)then((bh a (0:Int)).bind λe=>
 some (uy d e.toBitVec))else
 andThen (cw (H9 a) fu (d,(0:Int))) λ(f,g)=>
 none
def D0(i:Y)(h:Y)(j:Int)(l:Int)(a:Y×Int×(List Y)):Option (di (Y×Int×(List Y)) (Y×Int×(List Y))):=
 bif decide (a.2.1<(ap ((min l (ap ((i.length:Int)+(1:Int))))-(1:Int))))then((qW a.1 h).bind λd=>
 bif decide (d<(0:Int))then(some (.brk (a.1,a.2.1,a.2.2)))else
 (bY a.1 0 (ap (d+j))).bind λe=>
 (bh a.2.2 a.2.1).bind λk=>
 Let (a.2.2.set a.2.1.toNat e) λg=>
 (bY a.1 (ap (d+(h.length:Int))) (a.1.length:Int)).bind λf=>
 some (.go (f,ap (a.2.1+(1:Int)),g)))else
 some (.brk (a.1,a.2.1,a.2.2))
def DZ(fu:Nat)(e:Y)(f:Y)(p:Int)(g:Int):Option (List Y):=
 bif g==(0:Int)then(some ([]:List Y))else
 bif decide (f=([]:Y))then(none)else
 (bif decide (g<(0:Int))then((DX fu e f).bind λq=>
 some (ap (q+(1:Int))))else
 some g).bind λo=>
 (gP (min o (ap ((e.length:Int)+(1:Int))))).bind λj=>
 (andThen (cw (D0 e f p o) fu (e,(0:Int),(List.replicate j ([]:Y)))) λ(m,n,h)=>
 some (m,n,h)).bind λ(l,a,d)=>
 (bh d a).bind λs=>
 Let (d.set a.toNat l) λk=>
 (bY k 0 (ap (a+(1:Int)))).bind λi=>
 some i
def oU(fu:Nat)(a:Y)(d:Y):Option (List Y):=
 (DZ fu a d (0:Int) (-1:Int)).bind λe=>
 some e
def re(a:Int)(d:Int)(e:Int):Option Bool:=
 (bif decide (a>=d)then(some (decide (a<=e)))else
 some false).bind λf=>
 some f
def A4(a:Int):Option (aZ×Int):=
 (re a (1:Int) (6:Int)).bind λg=>
 bif !g then(none)else
 (cnt a).bind λe=>
 (gP a).bind λf=>
 Let (List.replicate f bw.zero) λd=>
 some (({aZ.zero with aO:=({bB.zero with bJ:=((1:BitVec 8)<<<e)-(1:BitVec 8)}:bB),all:=d,aK:=([]:List Y),ah:=([]:List Y)}:aZ),(0:Int))
def tj(a:Y):Option Bool:=
 some (decide (a=([]:Y)))
def DI(d:List Y)(a:Nat)(g:Unit):Option (di Unit Int):=
 (bh d (a:Int)).bind λf=>
 (tj f).bind λe=>
 bif e then(some (.ret (a:Int)))else
 some (.go ())
def AJ(a:List Y):Option Int:=
 andThen (cM (DI a) a.length 0 ()) λ_=>
 some (-1:Int)
def DD(a:Int×Int×(List Y)):Option (di (Int×Int×(List Y)) (List Y)):=
 bif decide (a.2.1<(a.2.2.length:Int))then((bh a.2.2 a.2.1).bind λd=>
 (tj d).bind λf=>
 bif !f then((bh a.2.2 a.1).bind λg=>
 Let (a.2.2.set a.1.toNat d) λe=>
 some (.go (ap (a.1+(1:Int)),ap (a.2.1+(1:Int)),e)))else
 some (.go (a.1,ap (a.2.1+(1:Int)),a.2.2)))else
 some (.brk (a.1,a.2.1,a.2.2))
def AD(fu:Nat)(d:List Y):Option (List Y):=
 (AJ d).bind λf=>
 bif f==(-1:Int)then(some d)else
 andThen (cw (DD) fu (f,ap (f+(1:Int)),d)) λ(g,i,a)=>
 (bY a g (a.length:Int)).bind λh=>
 (bY (mD a (g:Int).toNat ((a.length:Int):Int).toNat ([]:Y)) 0 g).bind λe=>
 some e
def strings_IndexAny(a:Y)(d:Y):Option Int:=yS a d
def D1(e:Y)(a:Int×(Vector Bool 256)):Option (di (Int×(Vector Bool 256)) ((Vector Bool 256)×Bool)):=
 bif decide (a.1<(e.length:Int))then((bh e a.1).bind λx9=>
 bif decide ((x9.toBitVec.toNat:Int)>=((128:BitVec 8).toNat:Int))then(some (.ret (a.2,false)))else
 (cI a.2 (x9.toBitVec.toNat:Int)).bind λf=>
 Let (a.2.setIfInBounds (x9.toBitVec.toNat:Int).toNat true) λd=>
 some (.go (ap (a.1+(1:Int)),d)))else
 some (.brk (a.1,a.2))
def strings_makeASCIISet(fu:Nat)(a:Y):Option ((Vector Bool 256)×Bool):=
 andThen (cw (D1 a) fu ((0:Int),(Vector.replicate 256 false))) λ(e,d)=>
 some (d,true)
def xb(a:Vector Bool 256)(d:BitVec 8):Option Bool:=
 (cI a (d.toNat:Int)).bind λe=>
 some e
def D3(f:Vector Bool 256)(a:Y):Option (di Y Y):=
 bif decide ((a.length:Int)>(0:Int))then((bh a (ap ((a.length:Int)-(1:Int)))).bind λx9=>
 (xb f x9.toBitVec).bind λe=>
 bif !e then(some (.brk a))else
 (bY a 0 (ap ((a.length:Int)-(1:Int)))).bind λd=>
 some (.go d))else
 some (.brk a)
def AS(fu:Nat)(a:Y)(d:Vector Bool 256):Option Y:=
 (andThen (cw (D3 d) fu a) λf=>
 some f).bind λe=>
 some e
def D2(f:Vector Bool 256)(a:Y):Option (di Y Y):=
 bif decide ((a.length:Int)>(0:Int))then((bh a (0:Int)).bind λx9=>
 (xb f x9.toBitVec).bind λe=>
 bif !e then(some (.brk a))else
 (bY a (1:Int) (a.length:Int)).bind λd=>
 some (.go d))else
 some (.brk a)
def AR(fu:Nat)(a:Y)(d:Vector Bool 256):Option Y:=
 (andThen (cw (D2 d) fu a) λf=>
 some f).bind λe=>
 some e
def xa(fu:Nat)(e:Y)(d:Y):Option Y:=
 (bif decide (e=([]:Y))then(some true)else
 some (decide (d=([]:Y)))).bind λi=>
 bif i then(some e)else
 (bif (d.length:Int)==(1:Int)then((bh d (0:Int)).bind λh=>
 some (decide ((h.toBitVec.toNat:Int)<((128:BitVec 8).toNat:Int))))else
 some false).bind λj=>
 bif j then(none)else
 (strings_makeASCIISet fu d).bind λa=>
 bif a.2 then((AS fu e a.1).bind λf=>
 (AR fu f a.1).bind λg=>
 some g)else
 none
def yU(f:Y)(d:Nat)(e:Int):Option (di Int (Int×Unit)):=
 (bh (Y.bytes f) (d:Int)).bind λa=>
 bif decide (((a-(48:BitVec 8)).toNat:Int)>((9:BitVec 8).toNat:Int))then(none)else
 some (.go (ap ((ap (e*(10:Int)))+((a-(48:BitVec 8)).toNat:Int))))
def yT(a:Y):Option (Int×Unit):=
 (bif decide ((0:Int)<(a.length:Int))then(some (decide ((a.length:Int)<(19:Int))))else
 some false).bind λl=>
 bif l then(andThen ((bh a (0:Int)).bind λx9=>
 (bif (x9.toBitVec.toNat:Int)==((45:BitVec 8).toNat:Int)then(some true)else
 (bh a (0:Int)).bind λf=>
 some ((f.toBitVec.toNat:Int)==((43:BitVec 8).toNat:Int))).bind λh=>
 bif h then((bY a (1:Int) (a.length:Int)).bind λd=>
 bif decide ((d.length:Int)<(1:Int))then(none)else
 some (.inl d))else
 some (.inl a)) λj=>
 (room ([]:Y) j).bind λk=>
 andThen (cM (yU j) ((Y.bytes j).length) 0 (0:Int)) λe=>
 ((bh a (0:Int)).bind λg=>
 bif (g.toBitVec.toNat:Int)==((45:BitVec 8).toNat:Int)then(some (ap (0-e)))else
 some e).bind λi=>
 some (i,()))else
 none
def lX(a:Y):Option (Int×Unit):=
 (yT a).bind λd=>
 some (d.1,())
def iT(fu:Nat)(a:Y):Option (Int×Int):=
 (bif decide ((a.length:Int)<(1:Int))then(some true)else
 some (decide ((a.length:Int)>(4:Int)))).bind λf=>
 (bif f then(some true)else
 (xa fu a ([48,49,50,51,52,53,54,55,56,57]:Y)).bind λe=>
 some (!(decide (e=([]:Y))))).bind λg=>
 bif g then(some ((0:Int),(12:Int)))else
 (lX a).bind λd=>
 some (d.1,(0:Int))
def strings_IndexByte(a:Y)(d:BitVec 8):Option Int:=
 (vt a d).bind λe=>
 some e
def ye(fu:Nat)(d:Y):Option (aT×Int):=
 (strings_IndexAny d ([108,115,116]:Y)).bind λg=>
 bif decide (g<(0:Int))then(some (aT.zero,(12:Int)))else
 (bY d 0 g).bind λm=>
 (bh d g).bind λk=>
 (iT fu m).bind λa=>
 bif a.2 !=(0:Int)then(some (aT.zero,a.2))else
 (strings_IndexByte ([108,115,116]:Y) k.toBitVec).bind λe=>
 andThen (bif (ap (e+(1:Int)))!=(1:Int)then((bY d (ap (g+(1:Int))) (d.length:Int)).bind λi=>
 (iT fu i).bind λf=>
 bif f.2 !=(0:Int)then(some (.inr (aT.zero,f.2)))else
 Let ({({aT.zero with cb:=a.1,aX:=ap (e+(1:Int))}:aT)with cq:=f.1}:aT) λj=>
 some (.inl j))else
 (bY d (ap (g+(1:Int))) (d.length:Int)).bind λh=>
 bif !(decide (h=([]:Y)))then(some (.inr (aT.zero,(12:Int))))else
 some (.inl ({aT.zero with cb:=a.1,aX:=ap (e+(1:Int))}:aT))) λl=>
 some (l,(0:Int))
def tm(fu:Nat)(e:List Y)(f:Nat)(d:(List aT)):Option (di (List aT) ((List aT)×Int)):=
 (bh e (f:Int)).bind λh=>
 (ye fu h).bind λa=>
 bif a.2 !=(0:Int)then(some (.ret (([]:List aT),a.2)))else
 (room d ([a.1]:List aT)).bind λg=>
 some (.go (d++([a.1]:List aT)))
def mE(fu:Nat)(a:List Y):Option ((List aT)×Int):=
 andThen (cM (tm fu a) a.length 0 ([]:List aT)) λd=>
 some (d,(0:Int))
def w8(a:Int)(d:Int)(e:Int):Option Bool:=
 (bif decide (a>=d)then(some (decide (a<=e)))else
 some false).bind λf=>
 some f
def AP(d:f7)(a:aT):Option (f7×Int):=
 (w8 a.cb (0:Int) (5:Int)).bind λq=>
 (bif !q then(some true)else
 (w8 a.cq (0:Int) (29:Int)).bind λh=>
 some (!h)).bind λx=>
 bif x then(some (d,(1:Int)))else
 andThen (bif a.aX==(1:Int)then(bif a.cq !=(0:Int)then(some (.inr (d,(4:Int))))else
 some (.inl d))else
 bif a.aX==(2:Int)then((cI d.jr a.cq).bind λi=>
 bif decide (i>(0:Int))then(some (.inr (d,(4:Int))))else
 (cI d.jr a.cq).bind λs=>
 Let ({d with jr:=d.jr.setIfInBounds a.cq.toNat (ap (a.cb+(1:Int)))}:f7) λf=>
 some (.inl f))else
 bif a.aX==(3:Int)then((cI d.jr a.cq).bind λj=>
 (bif j==(0:Int)then(some true)else
 (cI d.jr a.cq).bind λk=>
 some (k==(ap (a.cb+(1:Int))))).bind λo=>
 (bif o then(some true)else
 (cI d.jQ a.cq).bind λl=>
 (cI l a.cb).bind λm=>
 some m).bind λp=>
 bif p then(some (.inr (d,(4:Int))))else
 (cI d.jQ a.cq).bind λe=>
 (cI e a.cb).bind λt=>
 Let ({d with jQ:=d.jQ.setIfInBounds a.cq.toNat (e.setIfInBounds a.cb.toNat true)}:f7) λg=>
 some (.inl g))else
 some (.inr (d,(4:Int)))) λn=>
 some (n,(0:Int))
def DV(d:List aT)(e:Nat)(g:f7):Option (di f7 Int):=
 (bh d (e:Int)).bind λf=>
 (AP g f).bind λa=>
 bif a.2 !=(0:Int)then(some (.ret a.2))else
 some (.go a.1)
def w7(a:List aT):Option Int:=
 bif decide ((a.length:Int)>(60:Int))then(some (2:Int))else
 andThen (cM (DV a) a.length 0 f7.zero) λd=>
 some (0:Int)
def AO(l:List aT)(g:Nat)(a:(Vector Int 30)×(Vector Int 6)×(List Int)):Option ((Vector Int 30)×(Vector Int 6)×(List Int)):=
 (bh l (g:Int)).bind λd=>
 (cI a.2.1 d.cb).bind λf=>
 (bif d.aX==(3:Int)then((cI a.1 d.cq).bind λj=>
 some (max f j))else
 some f).bind λe=>
 (cI a.2.1 d.cb).bind λn=>
 Let (a.2.1.setIfInBounds d.cb.toNat (ap (e+(1:Int)))) λh=>
 (bif d.aX==(2:Int)then((cI a.1 d.cq).bind λo=>
 Let (a.1.setIfInBounds d.cq.toNat (ap (e+(1:Int)))) λi=>
 some i)else
 some a.1).bind λk=>
 (room a.2.2 ([ap (e+(1:Int))]:List Int)).bind λm=>
 some (k,h,a.2.2++([ap (e+(1:Int))]:List Int))
def oT(a:List aT):Option ((List Int)×Int):=
 (w7 a).bind λe=>
 bif e !=(0:Int)then(some (([]:List Int),e))else
 (bC (AO a) a.length 0 ((Vector.replicate 30 (0:Int)),(Vector.replicate 6 (0:Int)),([]:List Int))).bind λ(f,g,d)=>
 some (d,(0:Int))
def gB(a:Int):Option Int:=
 bif a !=(0:Int)then(some a)else
 some (0:Int)
def qd(a:List Int):Option Y:=sA (a.map λx=>x)
def D9(h:Vector Int 6)(a:Nat)(g:(Vector Int 6)):Option (Vector Int 6):=
 (cI g (a:Int)).bind λe=>
 (cI h (a:Int)).bind λf=>
 (cI g (a:Int)).bind λi=>
 Let (g.setIfInBounds (a:Int).toNat (max e f)) λd=>
 some d
def xj(a:Vector Int 6)(d:Vector Int 6):Option (Vector Int 6):=
 (bC (D9 d) 6 0 a).bind λe=>
 some e
def AU(q:List aT)(i:Nat)(d:(Vector (Vector Int 6) 30)×(Vector (Vector Int 6) 6)×(Vector Int 6)×(List (Vector Int 6))):Option ((Vector (Vector Int 6) 30)×(Vector (Vector Int 6) 6)×(Vector Int 6)×(List (Vector Int 6))):=
 (bh q (i:Int)).bind λa=>
 (cI d.2.1 a.cb).bind λg=>
 (bif a.aX==(3:Int)then((cI d.1 a.cq).bind λm=>
 (xj g m).bind λl=>
 some l)else
 some g).bind λh=>
 (cI d.2.2.1 a.cb).bind λn=>
 (cI d.2.2.1 a.cb).bind λt=>
 Let (d.2.2.1.setIfInBounds a.cb.toNat (ap (n+(1:Int)))) λf=>
 (cI f a.cb).bind λo=>
 (cI h a.cb).bind λx=>
 Let (h.setIfInBounds a.cb.toNat o) λe=>
 (cI d.2.1 a.cb).bind λy=>
 Let (d.2.1.setIfInBounds a.cb.toNat e) λj=>
 (bif a.aX==(2:Int)then((cI d.1 a.cq).bind λz=>
 Let (d.1.setIfInBounds a.cq.toNat e) λk=>
 some k)else
 some d.1).bind λp=>
 (room d.2.2.2 ([e]:List (Vector Int 6))).bind λs=>
 some (p,j,f,d.2.2.2++([e]:List (Vector Int 6)))
def nS(a:List aT):Option ((List (Vector Int 6))×Int):=
 (w7 a).bind λe=>
 bif e !=(0:Int)then(some (([]:List (Vector Int 6)),e))else
 (bC (AU a) a.length 0 ((Vector.replicate 30 (Vector.replicate 6 (0:Int))),(Vector.replicate 6 (Vector.replicate 6 (0:Int))),(Vector.replicate 6 (0:Int)),([]:List (Vector Int 6)))).bind λ(f,g,h,d)=>
 some (d,(0:Int))
def yf(fu:Nat)(e:List Y)(f:Nat)(d:(List Int)):Option (di (List Int) ((List Int)×Int)):=
 (bh e (f:Int)).bind λh=>
 (iT fu h).bind λa=>
 bif a.2 !=(0:Int)then(some (.ret (([]:List Int),a.2)))else
 (room d ([a.1]:List Int)).bind λg=>
 some (.go (d++([a.1]:List Int)))
def pf(fu:Nat)(a:List Y):Option ((List Int)×Int):=
 andThen (cM (yf fu a) a.length 0 ([]:List Int)) λd=>
 some (d,(0:Int))
def DO(d:List Int)(e:Int)(a:Nat)(g:Unit):Option (di Unit Int):=
 (bh d (a:Int)).bind λf=>
 bif e==f then(some (.ret (a:Int)))else
 some (.go ())
def wY(a:List Int)(d:Int):Option Int:=
 andThen (cM (DO a d) a.length 0 ()) λ_=>
 some (-1:Int)
def AC(a:List Int)(d:Int):Option Bool:=
 (wY a d).bind λe=>
 some (decide (e>=(0:Int)))
def Ao(g:List Int)(h:Nat)(i:Unit):Option (di Unit Int):=
 (bh g (h:Int)).bind λa=>
 (bif decide (a<(0:Int))then(some true)else
 some (decide (a>(16777215:Int)))).bind λf=>
 bif f then(some (.ret (1:Int)))else
 (bY g 0 (h:Int)).bind λd=>
 (AC d a).bind λe=>
 bif e then(some (.ret (4:Int)))else
 some (.go ())
def wL(a:List Int):Option Int:=
 (bif decide ((a.length:Int)<(1:Int))then(some true)else
 some (decide ((a.length:Int)>(30:Int)))).bind λd=>
 bif d then(some (1:Int))else
 andThen (cM (Ao a) a.length 0 ()) λ_=>
 some (0:Int)
def CI(a:BitVec 64)(d:BitVec 64):Option ((BitVec 64)×(BitVec 64)):=
 some ((((a>>>32)*(d>>>32))+((((a>>>32)*(d&&&(4294967295:BitVec 64)))+(((a&&&(4294967295:BitVec 64))*(d&&&(4294967295:BitVec 64)))>>>32))>>>32))+((((((a>>>32)*(d&&&(4294967295:BitVec 64)))+(((a&&&(4294967295:BitVec 64))*(d&&&(4294967295:BitVec 64)))>>>32))&&&(4294967295:BitVec 64))+((a&&&(4294967295:BitVec 64))*(d>>>32)))>>>32),a*d)
def zv(d:BitVec 64)(e:BitVec 64):Option ((BitVec 64)×(BitVec 64)):=
 (CI d e).bind λa=>
 some (a.1,a.2)
def DS(a:Int×(List Bool)):Option (di (Int×(List Bool)) (List Bool)):=
 bif decide (a.1<(a.2.length:Int))then((bY a.2 a.1 (a.2.length:Int)).bind λg=>
 (bY a.2 0 a.1).bind λd=>
 Let (gA a.2 ((a.1:Int).toNat) (((a.2.length:Int):Int).toNat) d) λf=>
 Let f λe=>
 some (.go (ap (a.1+(oj ((a.1:Int).toNat) (((a.2.length:Int):Int).toNat) d)),e)))else
 some (.brk (a.1,a.2))
def AM(fu:Nat)(d:List Bool)(h:Int):Option (List Bool):=
 bif decide (h<(0:Int))then(none)else
 (zv (BitVec.ofInt 64 (d.length:Int)) (BitVec.ofInt 64 h)).bind λg=>
 (bif decide ((g.1.toNat:Int)>((0:BitVec 64).toNat:Int))then(some true)else
 some (decide ((g.2.toNat:Int)>((9223372036854775807:BitVec 64).toNat:Int)))).bind λj=>
 bif j then(none)else
 (gP (ap (g.2.toNat:Int))).bind λa=>
 Let (gA (List.replicate a false) 0 ((List.replicate a false).length) d) λf=>
 andThen (cw (DS) fu (oj 0 ((List.replicate a false).length) d,f)) λ(i,e)=>
 some e
def Dt(a:List Int)(e:Int)(h:Int)(i:Int)(d:Int):Option (di Int (Int×Bool)):=
 bif decide (d<=i)then((nz (a.length:Int)).bind λj=>
 (nz (a.length:Int)).bind λu8=>
 bif ((ap (((ap (e+(ap (h*d)))).tmod (a.length:Int):Int)+(a.length:Int))).tmod (a.length:Int):Int)==e then(some (.ret (d,true)))else
 (bh a ((ap (((ap (e+(ap (h*d)))).tmod (a.length:Int):Int)+(a.length:Int))).tmod (a.length:Int):Int)).bind λf=>
 (bh a e).bind λg=>
 bif decide (f>g)then(some (.ret (d,false)))else
 some (.go (ap (d+(1:Int)))))else
 some (.brk d)
def wO(fu:Nat)(d:List Int)(e:Int)(f:Int)(a:Int):Option (Int×Bool):=
 andThen (cw (Dt d e f a) fu (1:Int)) λg=>
 some (ap ((2:Int)*a),true)
def DN(d:List Bool)(e:Bool)(a:Nat)(g:Unit):Option (di Unit Int):=
 (bh d (a:Int)).bind λf=>
 bif e==f then(some (.ret (a:Int)))else
 some (.go ())
def wX(a:List Bool)(d:Bool):Option Int:=
 andThen (cM (DN a d) a.length 0 ()) λ_=>
 some (-1:Int)
def wN(fu:Nat)(k:List Int)(g:Int)(d:Nat)(a:Int×(List Bool)):Option (Int×(List Bool)):=
 (bh a.2 (d:Int)).bind λi=>
 bif !i then(some (a.1,a.2))else
 (wO fu k (d:Int) (1:Int) g).bind λe=>
 (wO fu k (d:Int) (-1:Int) g).bind λf=>
 (bif e.2 then(some f.2)else
 some false).bind λj=>
 (bh a.2 (d:Int)).bind λl=>
 Let (a.2.set (d:Int).toNat j) λh=>
 some (ap (a.1+(ap (e.1+f.1))),h)
def wM(fu:Nat)(g:List Int)(a:Int×Int×(List Bool)):Option (di (Int×Int×(List Bool)) (Int×Int×Int)):=
 (bC (wN fu g a.2.1) a.2.2.length 0 (a.1,a.2.2)).bind λ(e,d)=>
 bif decide (a.2.1>=(g.length:Int))then((wX d true).bind λf=>
 some (.ret (f,e,(0:Int))))else
 some (.go (e,ap (a.2.1*(2:Int)),d))
def qS(fu:Nat)(a:List Int):Option (Int×Int×Int):=
 (wL a).bind λd=>
 bif d !=(0:Int)then(some ((0:Int),(0:Int),d))else
 (AM fu ([true]:List Bool) (a.length:Int)).bind λf=>
 andThen (cw (wM fu a) fu ((0:Int),(1:Int),f)) λ(g,h,e)=>
 none
def uu(a:Int)(d:Int)(e:Int):Option Bool:=
 (bif decide (a>=d)then(some (decide (a<=e)))else
 some false).bind λf=>
 some f
def Da(a:Int):Option Bool:=
 (uu a (0:Int) (16777215:Int)).bind λd=>
 some (!d)
def DG(d:List Int)(a:Nat)(g:Unit):Option (di Unit Int):=
 (bh d (a:Int)).bind λf=>
 (Da f).bind λe=>
 bif e then(some (.ret (a:Int)))else
 some (.go ())
def DF(a:List Int):Option Int:=
 andThen (cM (DG a) a.length 0 ()) λ_=>
 some (-1:Int)
def AA(a:List Int):Option Bool:=
 (DF a).bind λd=>
 some (decide (d>=(0:Int)))
def wB(e:BitVec 16)(f:List Int)(d:Nat)(h:Int):Option Int:=
 (bh f (d:Int)).bind λg=>
 (cnt (d:Int)).bind λa=>
 some (ap (h+(ap (g*(((e>>>a)&&&(1:BitVec 16)).toNat:Int)))))
def pQ(d:BitVec 16)(a:List Int)(e:Int):Option Bool:=
 (bC (wB d a) a.length 0 (0:Int)).bind λf=>
 some (decide (f>=e))
def DT(a:List (BitVec 16)):Option (List (BitVec 16)):=w6 lb a
def Af(a:BitVec 16)(d:BitVec 16):Option Bool:=
 some (((a&&& ~~~d).toNat:Int)==((0:BitVec 16).toNat:Int))
def Db(a:BitVec 16)(d:BitVec 16):Option Bool:=
 (Af a d).bind λe=>
 some e
def DM(e:List (BitVec 16))(a:BitVec 16)(d:Nat)(h:Unit):Option (di Unit Int):=
 (bh e (d:Int)).bind λg=>
 (Db g a).bind λf=>
 bif f then(some (.ret (d:Int)))else
 some (.go ())
def DL(d:List (BitVec 16))(a:BitVec 16):Option Int:=
 andThen (cM (DM d a) d.length 0 ()) λ_=>
 some (-1:Int)
def DC(d:List (BitVec 16))(a:BitVec 16):Option Bool:=
 (DL d a).bind λe=>
 some (decide (e>=(0:Int)))
def wC(a:BitVec 16)(d:List (BitVec 16)):Option Bool:=
 (DC d a).bind λe=>
 some e
def Dd(f:List (BitVec 16))(e:Nat)(a:(List (BitVec 16))):Option (List (BitVec 16)):=
 (bh f (e:Int)).bind λd=>
 (wC d a).bind λg=>
 bif !g then((room a ([d]:List (BitVec 16))).bind λh=>
 some (a++([d]:List (BitVec 16))))else
 some a
def Dc(d:List Int)(e:Int)(g:Nat)(a:(BitVec 16)×(List (BitVec 16))):Option (di ((BitVec 16)×(List (BitVec 16))) (List (BitVec 16))):=
 bif decide ((a.1.toNat:Int)<(((1:BitVec 16)<<<g).toNat:Int))then((pQ a.1 d e).bind λf=>
 bif f then((room a.2 ([a.1]:List (BitVec 16))).bind λh=>
 some (.go (a.1+(1:BitVec 16),a.2++([a.1]:List (BitVec 16)))))else
 some (.go (a.1+(1:BitVec 16),a.2)))else
 some (.brk (a.1,a.2))
def Ae(fu:Nat)(h:Int)(a:List Int)(d:Int):Option (List (BitVec 16)):=
 (cnt h).bind λi=>
 andThen (cw (Dc a d i) fu ((0:BitVec 16),([]:List (BitVec 16)))) λ(j,f)=>
 (DT f).bind λe=>
 (bC (Dd e) e.length 0 ([]:List (BitVec 16))).bind λg=>
 some g
def ut(fu:Nat)(a:List Int)(i:Int):Option ((List (BitVec 16))×Int):=
 (uu (a.length:Int) (1:Int) (10:Int)).bind λj=>
 (bif !j then(some true)else
 (uu i (1:Int) (16777215:Int)).bind λd=>
 some (!d)).bind λg=>
 (bif g then(some true)else
 (AA a).bind λe=>
 some e).bind λh=>
 bif h then(some (([]:List (BitVec 16)),(1:Int)))else
 (Ae fu (a.length:Int) a i).bind λf=>
 some (f,(0:Int))
def yg(a:List (BitVec 16)):Option Y:=sA (a.map λx=>(x.toNat:Int))
def Ih(a:aZ):Option bB:=
 some a.aO
def xr(a:aZ):Option Int:=
 some (a.ah.length:Int)
def strconv_Itoa(a:Int):Option Y:=oA a
def q9(a:aZ)(d:Int):Option Bool:=
 (re d (0:Int) (ap ((a.all.length:Int)-(1:Int)))).bind λi=>
 (bif i then((cnt d).bind λe=>
 some ((((a.aO.bJ>>>e)&&&(1:BitVec 8)).toNat:Int)==((1:BitVec 8).toNat:Int)))else
 some false).bind λg=>
 (bif g then((bh a.all d).bind λf=>
 some (!f.eE))else
 some false).bind λh=>
 some h
def sE(a:BitVec 8):Option Bool:=
 some (((a>>>6).toNat:Int)!=((0:BitVec 8).toNat:Int))
def q5(a:bB):Option Int:=
 (bif decide (a.ce<(0:Int))then(some true)else
 some (decide (a.ce>(16777215:Int)))).bind λf=>
 (bif f then(some true)else
 some ((a.bJ.toNat:Int)==((0:BitVec 8).toNat:Int))).bind λg=>
 (bif g then(some true)else
 (sE a.bJ).bind λd=>
 some d).bind λe=>
 bif e then(some (1:Int))else
 some (0:Int)
def rX(a:BitVec 8):Option Int:=
 (bh ([0,1,1,2,1,2,2,3,1,2,2,3,2,3,3,4,1,2,2,3,2,3,3,4,2,3,3,4,3,4,4,5,1,2,2,3,2,3,3,4,2,3,3,4,3,4,4,5,2,3,3,4,3,4,4,5,3,4,4,5,4,5,5,6,1,2,2,3,2,3,3,4,2,3,3,4,3,4,4,5,2,3,3,4,3,4,4,5,3,4,4,5,4,5,5,6,2,3,3,4,3,4,4,5,3,4,4,5,4,5,5,6,3,4,4,5,4,5,5,6,4,5,5,6,5,6,6,7,1,2,2,3,2,3,3,4,2,3,3,4,3,4,4,5,2,3,3,4,3,4,4,5,3,4,4,5,4,5,5,6,2,3,3,4,3,4,4,5,3,4,4,5,4,5,5,6,3,4,4,5,4,5,5,6,4,5,5,6,5,6,6,7,2,3,3,4,3,4,4,5,3,4,4,5,4,5,5,6,3,4,4,5,4,5,5,6,4,5,5,6,5,6,6,7,3,4,4,5,4,5,5,6,4,5,5,6,5,6,6,7,4,5,5,6,5,6,6,7,5,6,6,7,6,7,7,8]:Y) (a.toNat:Int)).bind λd=>
 some (d.toBitVec.toNat:Int)
def AV(d:BitVec 8)(a:BitVec 8):Option Bool:=
 (rX (d&&&a)).bind λe=>
 (rX a).bind λf=>
 some (decide ((ap ((2:Int)*e))>f))
def oV(a:bB)(d:BitVec 8)(e:BitVec 8):Option (bB×Int):=
 (q5 a).bind λi=>
 bif i !=(0:Int)then(some (bB.zero,i))else
 (sE (d|||e)).bind λf=>
 (bif f then(some true)else
 some (((d&&&e).toNat:Int)!=((0:BitVec 8).toNat:Int))).bind λh=>
 bif h then(some (bB.zero,(1:Int)))else
 bif a.ce==(16777215:Int)then(some (bB.zero,(8:Int)))else
 (AV (a.bJ&&& ~~~d) a.bJ).bind λg=>
 bif !g then(some (bB.zero,(11:Int)))else
 some (({bB.zero with ce:=ap (a.ce+(1:Int)),bJ:=(a.bJ&&& ~~~d)|||e}:bB),(0:Int))
def uC(a:List aG):Option (List aG):=
 (room ([]:List aG) a).bind λd=>
 some (([]:List aG)++a)
def qU(a:List Y):Option (List Y):=
 (room ([]:List Y) a).bind λd=>
 some (([]:List Y)++a)
def sK(d:Nat)(f:List aG)(e:Nat)(a:Int):Option Int:=
 (bh f (e:Int)).bind λg=>
 bif g.aJ==(d:Int)then(some (ap (a+(1:Int))))else
 some a
def uJ(f:aZ)(d:Nat)(a:(List aG)×aZ×(List bw)):Option ((List aG)×aZ×(List bw)):=
 (bh a.2.2 (d:Int)).bind λs=>
 ((q9 ({a.2.1 with all:=a.2.2,aK:=f.aK,ah:=f.ah}:aZ) (d:Int)).bind λy=>
 bif y then((bY a.1 (s.bq.length:Int) (a.1.length:Int)).bind λm=>
 (bC (sK d m) m.length 0 (0:Int)).bind λC=>
 (uC a.1).bind λz=>
 Let (a.2.2.set (d:Int).toNat ({s with bq:=z}:bw)) λe=>
 (bh e (d:Int)).bind λt=>
 (bh e (d:Int)).bind λA=>
 (bY t.aF.aR (min C (A.aF.aR.length:Int)) (t.aF.aR.length:Int)).bind λl=>
 (qU l).bind λn=>
 Let n λj=>
 (bh e (d:Int)).bind λo=>
 Let (e.set (d:Int).toNat ({o with aF:=({aJ.zero with aR:=j}:aJ)}:bw)) λg=>
 (bh g (d:Int)).bind λp=>
 Let (g.set (d:Int).toNat ({p with to:=To.zero}:bw)) λh=>
 some (a.1,({a.2.1 with all:=h,aK:=f.aK,ah:=f.ah}:aZ),h))else
 some (a.1,({a.2.1 with all:=a.2.2,aK:=f.aK,ah:=f.ah}:aZ),a.2.2)).bind λ(x,B,k)=>
 (bh k (d:Int)).bind λq=>
 Let (k.set (d:Int).toNat ({q with bN:=To.zero}:bw)) λi=>
 some (x,({B with all:=i,aK:=f.aK,ah:=f.ah}:aZ),i)
def xp(e:aZ)(f:Nat)(a:(BitVec 8)×(List aG)):Option ((BitVec 8)×(List aG)):=
 (q9 e (f:Int)).bind λh=>
 bif h then((bh e.all (f:Int)).bind λd=>
 bif decide ((d.bq.length:Int)>(a.2.length:Int))then(some (a.1,d.bq))else
 some (a.1,a.2))else
 (cnt (f:Int)).bind λg=>
 some (a.1|||(e.aO.bJ&&&((1:BitVec 8)<<<g)),a.2)
def sJ(a:aZ):Option ((List bw)×aZ×Int):=
 (bC (xp a) a.all.length 0 ((0:BitVec 8),([]:List aG))).bind λ(g,f)=>
 (oV a.aO g (0:BitVec 8)).bind λd=>
 bif d.2 !=(0:Int)then(some (a.all,a,d.2))else
 (bC (uJ a) a.all.length 0 (f,a,a.all)).bind λ(i,h,e)=>
 some (e,({h with aO:=d.1,all:=e,aK:=([]:List Y),ah:=a.ah}:aZ),(0:Int))
def strings_Join(a:List Y)(d:Y):Option Y:=yV a d
def ra(a:aZ)(d:Int):Option Int:=
 (re d (0:Int) (ap ((a.all.length:Int)-(1:Int)))).bind λe=>
 bif !e then(some (1:Int))else
 some (0:Int)
def xu(d:aZ)(e:Int):Option Int:=
 (ra d e).bind λf=>
 bif f !=(0:Int)then(some f)else
 (q9 d e).bind λa=>
 bif !a then(some (11:Int))else
 some (0:Int)
def tP(a:Int)(d:Int)(e:Int):Option Bool:=
 (bif decide (a>=d)then(some (decide (a<=e)))else
 some false).bind λf=>
 some f
def pG(a:Y):Option Bool:=
 some (decide ((a.length:Int)>(200:Int)))
def DH(d:List Y)(a:Nat)(g:Unit):Option (di Unit Int):=
 (bh d (a:Int)).bind λf=>
 (pG f).bind λe=>
 bif e then(some (.ret (a:Int)))else
 some (.go ())
def AI(a:List Y):Option Int:=
 andThen (cM (DH a) a.length 0 ()) λ_=>
 some (-1:Int)
def AB(a:List Y):Option Bool:=
 (AI a).bind λd=>
 some (decide (d>=(0:Int)))
def tO(a:aJ):Option Int:=
 (tP a.bI (0:Int) (16777215:Int)).bind λe=>
 (bif !e then(some true)else
 some (decide ((a.aR.length:Int)>(16:Int)))).bind λf=>
 bif f then(some (1:Int))else
 (AB a.aR).bind λd=>
 bif d then(some (2:Int))else
 some (0:Int)
def zr(a:aJ)(e:Y):Option (aJ×Int):=
 (tO a).bind λi=>
 bif i !=(0:Int)then(some (({aJ.zero with aR:=([]:List Y)}:aJ),i))else
 (pG e).bind λg=>
 bif g then(some (({aJ.zero with aR:=([]:List Y)}:aJ),(2:Int)))else
 (bif (a.aR.length:Int)==(16:Int)then(some true)else
 some (decide ((ap (a.bI+(a.aR.length:Int)))>=(16777215:Int)))).bind λh=>
 bif h then(some (({aJ.zero with aR:=([]:List Y)}:aJ),(8:Int)))else
 (qU a.aR).bind λd=>
 (room d ([e]:List Y)).bind λj=>
 Let (d++([e]:List Y)) λf=>
 some (({aJ.zero with bI:=a.bI,aR:=f}:aJ),(0:Int))
def vN(a:BitVec 8):Option Int:=
 (bh ([8,0,1,0,2,0,1,0,3,0,1,0,2,0,1,0,4,0,1,0,2,0,1,0,3,0,1,0,2,0,1,0,5,0,1,0,2,0,1,0,3,0,1,0,2,0,1,0,4,0,1,0,2,0,1,0,3,0,1,0,2,0,1,0,6,0,1,0,2,0,1,0,3,0,1,0,2,0,1,0,4,0,1,0,2,0,1,0,3,0,1,0,2,0,1,0,5,0,1,0,2,0,1,0,3,0,1,0,2,0,1,0,4,0,1,0,2,0,1,0,3,0,1,0,2,0,1,0,7,0,1,0,2,0,1,0,3,0,1,0,2,0,1,0,4,0,1,0,2,0,1,0,3,0,1,0,2,0,1,0,5,0,1,0,2,0,1,0,3,0,1,0,2,0,1,0,4,0,1,0,2,0,1,0,3,0,1,0,2,0,1,0,6,0,1,0,2,0,1,0,3,0,1,0,2,0,1,0,4,0,1,0,2,0,1,0,3,0,1,0,2,0,1,0,5,0,1,0,2,0,1,0,3,0,1,0,2,0,1,0,4,0,1,0,2,0,1,0,3,0,1,0,2,0,1,0]:Y) (a.toNat:Int)).bind λd=>
 some (d.toBitVec.toNat:Int)
def q6(a:bB):Option (Int×Int):=
 (q5 a).bind λd=>
 bif d !=(0:Int)then(some ((0:Int),d))else
 (vN a.bJ).bind λe=>
 some (e,(0:Int))
def rc(a:aZ):Option Int:=
 (q6 a.aO).bind λd=>
 some d.1
def sH(a:Int)(d:Int)(e:Int):Option Bool:=
 (bif decide (a>=d)then(some (decide (a<=e)))else
 some false).bind λf=>
 some f
def uG(a:Int):Option Bool:=
 (sH a (0:Int) (16777215:Int)).bind λd=>
 some d
def Eb(a:Int):Option Bool:=
 (uG a).bind λd=>
 some (!d)
def DE(d:List Int)(a:Nat)(g:Unit):Option (di Unit Int):=
 (bh d (a:Int)).bind λf=>
 (Eb f).bind λe=>
 bif e then(some (.ret (a:Int)))else
 some (.go ())
def AH(a:List Int):Option Int:=
 andThen (cM (DE a) a.length 0 ()) λ_=>
 some (-1:Int)
def Az(a:List Int):Option Bool:=
 (AH a).bind λd=>
 some (decide (d>=(0:Int)))
def nT(a:aV):Option Int:=
 (sH a.aX (0:Int) (255:Int)).bind λm=>
 (bif !m then(some true)else
 (sH a.aJ (0:Int) (5:Int)).bind λd=>
 some (!d)).bind λi=>
 (bif i then(some true)else
 (sH a.To (0:Int) (5:Int)).bind λe=>
 some (!e)).bind λj=>
 (bif j then(some true)else
 (uG a.bB).bind λf=>
 some (!f)).bind λk=>
 (bif k then(some true)else
 (uG a.aA).bind λg=>
 some (!g)).bind λl=>
 bif l then(some (1:Int))else
 (Az a.At.toList).bind λh=>
 bif h then(some (1:Int))else
 bif decide ((a.aY.length:Int)>(200:Int))then(some (2:Int))else
 some (0:Int)
def xn(a:Int):Option (List (BitVec 8)):=
 some ([BitVec.ofInt 8 a,BitVec.ofInt 8 (a.fdiv (2^(min 8 64)):Int),BitVec.ofInt 8 (a.fdiv (2^(min 16 64)):Int)]:List (BitVec 8))
def A2(d:Nat)(a:(BitVec 32)):Option (BitVec 32):=
 bif ((a&&&(1:BitVec 32)).toNat:Int)==((1:BitVec 32).toNat:Int)then(some ((a>>>1)^^^(2197175160:BitVec 32)))else
 some (a>>>1)
def A1(a:Y)(d:Nat)(g:(BitVec 32)):Option (BitVec 32):=
 (bh a (d:Int)).bind λe=>
 (bC (A2) 8 0 (g^^^(BitVec.ofInt 32 (e.toBitVec.toNat:Int)))).bind λf=>
 some f
def sG(d:Y):Option (BitVec 32):=
 (iO (d.length:Int)).bind λa=>
 (bC (A1 d) a 0 (4294967295:BitVec 32)).bind λe=>
 some ((4294967295:BitVec 32)^^^e)
def xm(a:BitVec 32):Option (List (BitVec 8)):=
 (xn (a.toNat:Int)).bind λd=>
 (room d ([BitVec.ofInt 8 ((a>>>24).toNat:Int)]:List (BitVec 8))).bind λe=>
 some (d++([BitVec.ofInt 8 ((a>>>24).toNat:Int)]:List (BitVec 8)))
def uI(f:List Int)(e:Nat)(d:(List (BitVec 8))):Option (List (BitVec 8)):=
 (bh f (e:Int)).bind λg=>
 (xn g).bind λa=>
 (room d a).bind λh=>
 some (d++a)
def uH(a:aV):Option (Y×Int):=
 (nT a).bind λi=>
 bif i !=(0:Int)then(some (([]:Y),i))else
 (room ([a.bB,a.aA]:List Int) a.At.toList).bind λj=>
 Let (([a.bB,a.aA]:List Int)++a.At.toList) λg=>
 (iO ((([a.bB,a.aA]:List Int)++a.At.toList).length:Int)).bind λe=>
 (bC (uI g) e 0 ([BitVec.ofInt 8 a.aX,BitVec.ofInt 8 a.aJ,BitVec.ofInt 8 a.To]:List (BitVec 8))).bind λd=>
 (room d (Y.bytes a.aY)).bind λk=>
 (sG (gJ (d++(Y.bytes a.aY)))).bind λh=>
 (xm h).bind λf=>
 (room (d++(Y.bytes a.aY)) f).bind λl=>
 some (gJ ((d++(Y.bytes a.aY))++f),(0:Int))
def rb(a:aZ)(f:Int)(g:Int)(h:Int)(i:Int)(j:Y):Option ((List Y)×aZ):=
 (uH ({aV.zero with aX:=f,aJ:=g,To:=h,bB:=a.aO.ce,aA:=i,aY:=j}:aV)).bind λd=>
 (bif d.2==(0:Int)then(some (decide ((a.ah.length:Int)<(60:Int))))else
 some false).bind λe=>
 bif e then((room a.ah ([d.1]:List Y)).bind λk=>
 some (a.ah++([d.1]:List Y),({a with ah:=a.ah++([d.1]:List Y)}:aZ)))else
 some (a.ah,a)
def q8(a:aZ)(g:Int)(h:Y):Option ((List bw)×(List Y)×aZ×Int):=
 (xu a g).bind λl=>
 bif l !=(0:Int)then(some (a.all,a.ah,a,l))else
 bif decide ((h.length:Int)>(150:Int))then(some (a.all,a.ah,a,(2:Int)))else
 bif (a.ah.length:Int)==(60:Int)then(some (a.all,a.ah,a,(8:Int)))else
 (bh a.all g).bind λj=>
 (zr j.aF h).bind λd=>
 bif d.2 !=(0:Int)then(some (a.all,a.ah,a,d.2))else
 (bh a.all g).bind λk=>
 Let (a.all.set g.toNat ({k with aF:=d.1}:bw)) λe=>
 (rc ({a with all:=e}:aZ)).bind λi=>
 (rb ({a with all:=e}:aZ) (1:Int) g i (ap ((ap (d.1.bI+(d.1.aR.length:Int)))-(1:Int))) h).bind λf=>
 some (e,f.1,({f.2 with all:=e,aK:=a.aK,ah:=f.1}:aZ),(0:Int))
def rV(f:aJ)(g:Int)(a:Nat)(d:(List bc)):Option (List bc):=
 (bh f.aR (a:Int)).bind λe=>
 bif decide ((a:Int)<g)then((room d ([({bc.zero with aA:=ap (f.bI+(a:Int)),aY:=e}:bc)]:List bc)).bind λh=>
 some (d++([({bc.zero with aA:=ap (f.bI+(a:Int)),aY:=e}:bc)]:List bc)))else
 some d
def zt(a:aJ)(f:Int):Option ((List bc)×Int):=
 (tO a).bind λe=>
 bif e !=(0:Int)then(some (([]:List bc),e))else
 (bC (rV a f) a.aR.length 0 ([]:List bc)).bind λd=>
 some (d,(0:Int))
def xo(e:aZ)(j:Int)(h:(List bc)×Int)(g:Nat)(a:aZ×(List Y)):Option (aZ×(List Y)):=
 (bh h.1 (g:Int)).bind λf=>
 (rc ({a.1 with all:=e.all,aK:=e.aK,ah:=a.2}:aZ)).bind λi=>
 (rb ({a.1 with all:=e.all,aK:=e.aK,ah:=a.2}:aZ) (1:Int) j i f.aA f.aY).bind λd=>
 some (({d.2 with all:=e.all,aK:=e.aK,ah:=d.1}:aZ),d.1)
def sI(a:aZ)(e:Int):Option ((List Y)×aZ×Int):=
 (xu a e).bind λl=>
 bif l !=(0:Int)then(some (a.ah,a,l))else
 (bh a.all e).bind λj=>
 (zt j.aF (4:Int)).bind λg=>
 (bC (xo a e g) g.1.length 0 (a,a.ah)).bind λ(h,f)=>
 (rc ({h with all:=a.all,aK:=a.aK,ah:=f}:aZ)).bind λi=>
 (bh a.all e).bind λk=>
 (rb ({h with all:=a.all,aK:=a.aK,ah:=f}:aZ) (3:Int) e i k.to.aN ([]:Y)).bind λd=>
 some (d.1,({d.2 with all:=a.all,aK:=a.aK,ah:=d.1}:aZ),(0:Int))
def sL(a:aZ)(e:Int):Option ((List bw)×aZ×Int):=
 (ra a e).bind λg=>
 bif g !=(0:Int)then(some (a.all,a,g))else
 (bh a.all e).bind λf=>
 Let (a.all.set e.toNat ({f with eE:=true}:bw)) λd=>
 some (d,({a with all:=d}:aZ),(0:Int))
def AE(a:List Y)(d:Int)(e:Int):Option (List Y):=
 (bY a d e).bind λg=>
 bif d==e then(some a)else
 (bY a 0 d).bind λh=>
 (bY a e (a.length:Int)).bind λf=>
 some (a.take ((d:Int).toNat)++a.drop ((e:Int).toNat))
def pV(a:Int)(d:Y):Option Int:=
 (bh d (ap ((3:Int)+(ap ((3:Int)*a))))).bind λe=>
 (bh d (ap ((ap ((3:Int)+(ap ((3:Int)*a))))+(1:Int)))).bind λf=>
 (bh d (ap ((ap ((3:Int)+(ap ((3:Int)*a))))+(2:Int)))).bind λg=>
 some (ap ((BitVec.ofInt 64 (ap ((BitVec.ofInt 64 (e.toBitVec.toNat:Int)|||BitVec.ofInt 64 (ap ((f.toBitVec.toNat:Int)*2^(min 8 64)))).toNat:Int))|||BitVec.ofInt 64 (ap ((g.toBitVec.toNat:Int)*2^(min 16 64)))).toNat:Int))
def xl(g:Y)(a:Nat)(d:aV):Option aV:=
 (pV (ap ((2:Int)+(a:Int))) g).bind λf=>
 (cI d.At (a:Int)).bind λh=>
 Let ({d with At:=d.At.setIfInBounds (a:Int).toNat f}:aV) λe=>
 some e
def A0(d:Y):Option (aV×Int):=
 bif decide ((d.length:Int)>(231:Int))then(some (aV.zero,(2:Int)))else
 bif decide ((d.length:Int)<(31:Int))then(some (aV.zero,(3:Int)))else
 (bY d 0 (ap ((d.length:Int)-(4:Int)))).bind λa=>
 (bY d (ap ((d.length:Int)-(4:Int))) (d.length:Int)).bind λo=>
 (sG a).bind λh=>
 (xm h).bind λi=>
 bif !(decide (gJ i=o))then(some (aV.zero,(5:Int)))else
 (bh a (0:Int)).bind λl=>
 (bh a (1:Int)).bind λm=>
 (bh a (2:Int)).bind λn=>
 (pV (0:Int) a).bind λj=>
 (pV (1:Int) a).bind λk=>
 (bY a (27:Int) (a.length:Int)).bind λg=>
 (bC (xl a) 6 0 ({aV.zero with aX:=(l.toBitVec.toNat:Int),aJ:=(m.toBitVec.toNat:Int),To:=(n.toBitVec.toNat:Int),bB:=j,aA:=k,aY:=g}:aV)).bind λf=>
 (nT f).bind λe=>
 bif e !=(0:Int)then(some (aV.zero,e))else
 some (f,(0:Int))
def vH(g:To)(h:Nat)(i:Int):Option (di Int Int):=
 (bh g.bu (h:Int)).bind λa=>
 (bif decide (a.aA<=i)then(some true)else
 some (decide (a.aA>=(ap (g.aN+(16:Int)))))).bind λe=>
 (bif e then(some true)else
 (pG a.aY).bind λd=>
 some d).bind λf=>
 bif f then(some (.ret (4:Int)))else
 some (.go a.aA)
def zp(a:To):Option Int:=
 (tP a.aN (0:Int) (16777215:Int)).bind λd=>
 bif !d then(some (1:Int))else
 bif decide ((a.bu.length:Int)>(16:Int))then(some (2:Int))else
 andThen (cM (vH a) a.bu.length 0 a.aN) λe=>
 some (0:Int)
def wS(a:List bc):Option (List bc):=
 (room ([]:List bc) a).bind λd=>
 some (([]:List bc)++a)
def vI(a:bc)(d:Int):Option Int:=
 some (ap (a.aA-d))
def Ax(f:List bc)(g:Int)(a:Int×Int):Option (di (Int×Int) (Int×Bool)):=
 bif decide (a.1<a.2)then((bh f (ap (((BitVec.ofInt 64 (ap (a.1+a.2)))>>>1).toNat:Int))).bind λe=>
 (vI e g).bind λd=>
 bif decide (d<(0:Int))then(some (.go (ap ((ap (((BitVec.ofInt 64 (ap (a.1+a.2)))>>>1).toNat:Int))+(1:Int)),a.2)))else
 some (.go (a.1,ap (((BitVec.ofInt 64 (ap (a.1+a.2)))>>>1).toNat:Int))))else
 some (.brk (a.1,a.2))
def Aw(fu:Nat)(a:List bc)(g:Int):Option (Int×Bool):=
 andThen (cw (Ax a g) fu ((0:Int),(a.length:Int))) λ(f,i)=>
 (bif decide (f<(a.length:Int))then((bh a f).bind λe=>
 (vI e g).bind λd=>
 some (d==(0:Int)))else
 some false).bind λh=>
 some (f,h)
def uD(a:List bc)(d:Int)(e:List bc):Option (List bc):=
 (bY a d (a.length:Int)).bind λ_=>
 (room a e).bind λ_=>
 some (a.take d.toNat++e++a.drop d.toNat)
def rW(a:To×(List Y)×(List bc)):Option (di (To×(List Y)×(List bc)) (To×(List Y)×Int)):=
 (bif decide ((a.2.2.length:Int)>(0:Int))then((bh a.2.2 (0:Int)).bind λg=>
 some (g.aA==a.1.aN))else
 some false).bind λh=>
 bif h then((bh a.2.2 (0:Int)).bind λe=>
 (room a.2.1 ([e.aY]:List Y)).bind λi=>
 (bY a.2.2 (1:Int) (a.2.2.length:Int)).bind λd=>
 Let (ap (a.1.aN+(1:Int))) λf=>
 some (.go (({a.1 with aN:=f,bu:=d}:To),a.2.1++([e.aY]:List Y),d)))else
 some (.brk (({a.1 with bu:=a.2.2}:To),a.2.1,a.2.2))
def nE(fu:Nat)(d:To)(e:bc):Option (To×(List Y)×Int):=
 (zp d).bind λs=>
 bif s !=(0:Int)then(some (({To.zero with bu:=([]:List bc)}:To),([]:List Y),s))else
 (tP e.aA (0:Int) (16777214:Int)).bind λk=>
 bif !k then(some (({To.zero with bu:=([]:List bc)}:To),([]:List Y),(1:Int)))else
 (pG e.aY).bind λl=>
 bif l then(some (({To.zero with bu:=([]:List bc)}:To),([]:List Y),(2:Int)))else
 (wS d.bu).bind λm=>
 Let (([]:List bc),m) λ(t,a)=>
 (Aw fu a e.aA).bind λg=>
 (bif decide (e.aA<d.aN)then(some true)else
 some (decide (e.aA>=(ap (d.aN+(16:Int)))))).bind λo=>
 (bif o then(some true)else
 some g.2).bind λp=>
 bif p then(some (({To.zero with aN:=d.aN,bu:=a}:To),([]:List Y),(0:Int)))else
 bif decide (e.aA>d.aN)then((uD a g.1 ([e]:List bc)).bind λn=>
 some (({To.zero with aN:=d.aN,bu:=n}:To),([]:List Y),(0:Int)))else
 Let (ap (d.aN+(1:Int))) λj=>
 andThen (cw (rW) fu (({To.zero with aN:=j,bu:=a}:To),([e.aY]:List Y),a)) λ(q,h,i)=>
 (wS i).bind λf=>
 some (({q with bu:=f}:To),h,(0:Int))
def xt(h:List bw)(g:List Y)(f:Y)(d:Y)(e:Y)(j:Nat)(a:aZ×(List Y)):Option (aZ×(List Y)):=
 (q9 ({a.1 with all:=h,aK:=g++([(((d++([58]:Y))++e)++([58]:Y))++f]:List Y),ah:=a.2}:aZ) (j:Int)).bind λk=>
 bif k then((rc ({a.1 with all:=h,aK:=g++([(((d++([58]:Y))++e)++([58]:Y))++f]:List Y),ah:=a.2}:aZ)).bind λl=>
 (rb ({a.1 with all:=h,aK:=g++([(((d++([58]:Y))++e)++([58]:Y))++f]:List Y),ah:=a.2}:aZ) (2:Int) l (j:Int) (ap (((g++([(((d++([58]:Y))++e)++([58]:Y))++f]:List Y)).length:Int)-(1:Int))) ((((d++([58]:Y))++e)++([58]:Y))++f)).bind λi=>
 some (({i.2 with all:=h,aK:=g++([(((d++([58]:Y))++e)++([58]:Y))++f]:List Y),ah:=i.1}:aZ),i.1))else
 some (({a.1 with all:=h,aK:=g++([(((d++([58]:Y))++e)++([58]:Y))++f]:List Y),ah:=a.2}:aZ),a.2)
def sO(l:aV)(s:bw)(j:List Y)(g:List bw)(h:Nat)(e:aZ×(List Y)×(List Y)):Option (aZ×(List Y)×(List Y)):=
 (bh j (h:Int)).bind λf=>
 (strconv_Itoa l.aJ).bind λa=>
 (room a ([58]:Y)).bind λm=>
 (strconv_Itoa (ap (s.bN.aN+(h:Int)))).bind λd=>
 (room (a++([58]:Y)) d).bind λn=>
 (room ((a++([58]:Y))++d) ([58]:Y)).bind λo=>
 (room (((a++([58]:Y))++d)++([58]:Y)) f).bind λp=>
 (room e.2.1 ([(((a++([58]:Y))++d)++([58]:Y))++f]:List Y)).bind λq=>
 (bC (xt g e.2.1 f a d) g.length 0 (({e.1 with all:=g,aK:=e.2.1++([(((a++([58]:Y))++d)++([58]:Y))++f]:List Y),ah:=e.2.2}:aZ),e.2.2)).bind λ(k,i)=>
 some (({k with all:=g,aK:=e.2.1++([(((a++([58]:Y))++d)++([58]:Y))++f]:List Y),ah:=i}:aZ),e.2.1++([(((a++([58]:Y))++d)++([58]:Y))++f]:List Y),i)
def Ba(fu:Nat)(a:aZ)(f:aV):Option ((List bw)×(List Y)×(List Y)×aZ):=
 (bh a.all f.aJ).bind λk=>
 (nE fu k.bN ({bc.zero with aA:=f.aA,aY:=f.aY}:bc)).bind λe=>
 Let (e.1.bu,e.2.1) λ(j,g)=>
 bif e.2.2 !=(0:Int)then(some (a.all,a.aK,a.ah,a))else
 Let (a.all.set f.aJ.toNat ({k with bN:=({e.1 with bu:=j}:To)}:bw)) λd=>
 (bC (sO f k g d) g.length 0 (({a with all:=d}:aZ),a.aK,a.ah)).bind λ(l,h,i)=>
 some (d,h,i,({l with all:=d,aK:=h,ah:=i}:aZ))
def Cf(a:Y)(e:Y):Option (Y×Y×Bool):=
 (rK a e).bind λd=>
 bif decide (d>=(0:Int))then((bY a 0 d).bind λf=>
 (bY a (ap (d+(e.length:Int))) (a.length:Int)).bind λg=>
 some (f,g,true))else
 some (a,([]:Y),false)
def nb(d:Y)(e:Y):Option (Y×Y×Bool):=
 (Cf d e).bind λa=>
 some (a.1,a.2.1,a.2.2)
def zq(a:aJ)(d:Int):Option (aJ×Int):=
 (tO a).bind λh=>
 bif h !=(0:Int)then(some (({aJ.zero with aR:=([]:List Y)}:aJ),h))else
 bif decide (d>(ap (a.bI+(a.aR.length:Int))))then(some (({aJ.zero with aR:=([]:List Y)}:aJ),(1:Int)))else
 (bY a.aR (max (ap (d-a.bI)) (0:Int)) (a.aR.length:Int)).bind λf=>
 (qU f).bind λg=>
 Let g λe=>
 some (({aJ.zero with bI:=ap (a.bI+(max (ap (d-a.bI)) (0:Int))),aR:=e}:aJ),(0:Int))
def uK(j:aZ)(g:aV)(o:List Y)(n:Nat)(d:aZ×(List bw)):Option (aZ×(List bw)):=
 (bh o (n:Int)).bind λq=>
 (nb q ([58]:Y)).bind λk=>
 (nb k.2.1 ([58]:Y)).bind λh=>
 (lX k.1).bind λi=>
 (bh d.2 g.To).bind λm=>
 (room m.bq ([({aG.zero with aJ:=i.1,aY:=h.2.1}:aG)]:List aG)).bind λx=>
 (bh d.2 g.To).bind λs=>
 Let (d.2.set g.To.toNat ({s with bq:=m.bq++([({aG.zero with aJ:=i.1,aY:=h.2.1}:aG)]:List aG)}:bw)) λa=>
 bif i.1==g.To then((lX h.1).bind λp=>
 (bh a g.To).bind λt=>
 (zq t.aF (ap (p.1+(1:Int)))).bind λf=>
 bif f.2==(0:Int)then((bh a g.To).bind λl=>
 Let (a.set g.To.toNat ({l with aF:=f.1}:bw)) λe=>
 some (({d.1 with all:=e,aK:=j.aK,ah:=j.ah}:aZ),e))else
 some (({d.1 with all:=a,aK:=j.aK,ah:=j.ah}:aZ),a))else
 some (({d.1 with all:=a,aK:=j.aK,ah:=j.ah}:aZ),a)
def Bd(fu:Nat)(d:aZ)(e:aV):Option ((List bw)×aZ):=
 (bh d.all e.To).bind λk=>
 (nE fu k.to ({bc.zero with aA:=e.aA,aY:=e.aY}:bc)).bind λa=>
 Let (a.1.bu,a.2.1) λ(i,f)=>
 bif a.2.2 !=(0:Int)then(some (d.all,d))else
 Let (d.all.set e.To.toNat ({k with to:=({a.1 with bu:=i}:To)}:bw)) λh=>
 (bC (uK d e f) f.length 0 (({d with all:=h}:aZ),h)).bind λ(j,g)=>
 some (g,({j with all:=g,aK:=d.aK,ah:=d.ah}:aZ))
def sN(d:aZ)(i:aV)(a:Int×aZ×(List Y)):Option (di (Int×aZ×(List Y)) ((List bw)×(List Y)×(List Y)×aZ)):=
 (bif decide (a.1<(d.aK.length:Int))then(some (decide (a.1<(ap (i.aA+(4:Int))))))else
 some false).bind λh=>
 bif h then((rc ({a.2.1 with all:=d.all,aK:=d.aK,ah:=a.2.2}:aZ)).bind λf=>
 (bh d.aK a.1).bind λg=>
 (rb ({a.2.1 with all:=d.all,aK:=d.aK,ah:=a.2.2}:aZ) (2:Int) f i.aJ a.1 g).bind λe=>
 some (.go (ap (a.1+(1:Int)),({e.2 with all:=d.all,aK:=d.aK,ah:=e.1}:aZ),e.1)))else
 some (.brk (a.1,({a.2.1 with all:=d.all,aK:=d.aK,ah:=a.2.2}:aZ),a.2.2))
def A8(fu:Nat)(a:aZ)(e:aV):Option ((List bw)×(List Y)×(List Y)×aZ):=
 (ra a e.aJ).bind λi=>
 bif i !=(0:Int)then(some (a.all,a.aK,a.ah,a))else
 bif e.aX==(1:Int)then((Ba fu a e).bind λd=>
 some (d.1,d.2.1,d.2.2.1,({d.2.2.2 with all:=d.1,aK:=d.2.1,ah:=d.2.2.1}:aZ)))else
 bif e.aX==(3:Int)then(andThen (cw (sN a e) fu (e.aA,a,a.ah)) λ(j,h,g)=>
 some (a.all,a.aK,g,({h with all:=a.all,aK:=a.aK,ah:=g}:aZ)))else
 bif e.aX==(2:Int)then((Bd fu a e).bind λf=>
 some (f.1,a.aK,a.ah,({f.2 with all:=f.1,aK:=a.aK,ah:=a.ah}:aZ)))else
 some (a.all,a.aK,a.ah,a)
def nd(fu:Nat)(a:aZ)(j:Int)(k:Int):Option ((List bw)×(List Y)×aZ×Int):=
 (re k (1:Int) (3:Int)).bind λx=>
 bif !x then(some (a.all,a.aK,a,(1:Int)))else
 (re j (0:Int) (ap ((a.ah.length:Int)-(1:Int)))).bind λm=>
 bif !m then(some (a.all,a.aK,a,(6:Int)))else
 (bif k==(3:Int)then(some ((a.ah.length:Int)==(60:Int)))else
 some false).bind λo=>
 bif o then(some (a.all,a.aK,a,(8:Int)))else
 (bh a.ah j).bind λg=>
 bif k==(3:Int)then((room a.ah ([g]:List Y)).bind λy=>
 some (a.all,a.aK,({a with ah:=a.ah++([g]:List Y)}:aZ),(0:Int)))else
 (AE a.ah j (ap (j+(1:Int)))).bind λe=>
 (A0 g).bind λf=>
 ((bif k==(1:Int)then(some (f.2==(0:Int)))else
 some false).bind λq=>
 (bif q then(some (f.1.bB==a.aO.ce))else
 some false).bind λs=>
 (bif s then((q9 ({a with ah:=e}:aZ) f.1.To).bind λn=>
 some n)else
 some false).bind λt=>
 bif t then((A8 fu ({a with ah:=e}:aZ) f.1).bind λd=>
 some (({d.2.2.2 with all:=d.1,aK:=d.2.1,ah:=d.2.2.1}:aZ),d.2.2.1,d.1,d.2.1))else
 some (({a with ah:=e}:aZ),e,a.all,a.aK)).bind λ(p,l,h,i)=>
 some (h,i,({p with all:=h,aK:=i,ah:=l}:aZ),(0:Int))
def rC(fu:Nat)(g:Int)(d:Int×aZ×(List bw)×(List Y)):Option (di (Int×aZ×(List bw)×(List Y)) ((List bw)×(List Y)×aZ×Y×Int)):=
 bif decide (d.1<g)then((xr ({d.2.1 with all:=d.2.2.1,aK:=d.2.2.2}:aZ)).bind λf=>
 bif decide (f>(0:Int))then((nd fu ({d.2.1 with all:=d.2.2.1,aK:=d.2.2.2}:aZ) (0:Int) (1:Int)).bind λa=>
 (gB a.2.2.2).bind λe=>
 bif e !=(0:Int)then(some (.ret (a.1,a.2.1,({a.2.2.1 with all:=a.1,aK:=a.2.1}:aZ),([]:Y),e)))else
 some (.go (ap (d.1+(1:Int)),({a.2.2.1 with all:=a.1,aK:=a.2.1}:aZ),a.1,a.2.1)))else
 some (.brk (d.1,({d.2.1 with all:=d.2.2.1,aK:=d.2.2.2}:aZ),d.2.2.1,d.2.2.2)))else
 some (.brk (d.1,({d.2.1 with all:=d.2.2.1,aK:=d.2.2.2}:aZ),d.2.2.1,d.2.2.2))
def yc(fu:Nat)(a:aZ)(g:Int):Option ((List bw)×(List Y)×aZ×Y×Int):=
 andThen (cw (rC fu g) fu ((0:Int),a,a.all,a.aK)) λ(h,i,d,e)=>
 (strconv_Itoa h).bind λf=>
 some (d,e,({i with all:=d,aK:=e}:aZ),f,(0:Int))
def sM(e:aZ)(f:Int):Option ((List aG)×Int):=
 (ra e f).bind λg=>
 bif g !=(0:Int)then(some (([]:List aG),g))else
 (bh e.all f).bind λd=>
 (uC d.bq).bind λa=>
 some (a,(0:Int))
def A5(e:aZ)(f:Int):Option ((List Y)×Int):=
 (ra e f).bind λg=>
 bif g !=(0:Int)then(some (([]:List Y),g))else
 (bh e.all f).bind λd=>
 (qU d.aF.aR).bind λa=>
 some (a,(0:Int))
def DP(d:List Y)(e:Y)(a:Nat)(g:Unit):Option (di Unit Int):=
 (bh d (a:Int)).bind λf=>
 bif decide (e=f)then(some (.ret (a:Int)))else
 some (.go ())
def wZ(a:List Y)(d:Y):Option Int:=
 andThen (cM (DP a d) a.length 0 ()) λ_=>
 some (-1:Int)
def vr(d:Y)(a:Y):Option Bool:=
 (bif decide ((d.length:Int)>=(a.length:Int))then((bY d 0 (a.length:Int)).bind λe=>
 some (decide (e=a)))else
 some false).bind λf=>
 some f
def Cg(a:Y)(d:Y):Option Y:=
 (vr a d).bind λf=>
 bif f then((bY a (d.length:Int) (a.length:Int)).bind λe=>
 some e)else
 some a
def AQ(a:Y)(d:Y):Option Y:=
 (Cg a d).bind λe=>
 some e
def uA(a:Int)(d:Int)(e:Int):Option Bool:=
 (bif decide (a>=d)then(some (decide (a<=e)))else
 some false).bind λf=>
 some f
def wQ(fu:Nat)(f:Y):Option (Int×Bool):=
 (AQ f ([45]:Y)).bind λg=>
 (uA (g.length:Int) (1:Int) (9:Int)).bind λh=>
 (bif !h then(some true)else
 (xa fu g ([48,49,50,51,52,53,54,55,56,57]:Y)).bind λa=>
 some (!(decide (a=([]:Y))))).bind λe=>
 bif e then(some ((0:Int),false))else
 (lX f).bind λd=>
 some (d.1,true)
def Ar(fu:Nat)(o:Y):Option (db×Int):=
 (oU fu o ([32]:Y)).bind λf=>
 bif (f.length:Int)!=(3:Int)then(some (db.zero,(12:Int)))else
 (bh f (0:Int)).bind λi=>
 (wZ ([([115,101,116]:Y),([97,100,100]:Y),([109,111,115,116]:Y),([99,111,112,121]:Y)]:List Y) i).bind λa=>
 (bh f (1:Int)).bind λj=>
 (wQ fu j).bind λd=>
 (bh f (2:Int)).bind λk=>
 (wQ fu k).bind λe=>
 (bif (ap (a+(1:Int)))==(0:Int)then(some true)else
 some (!d.2)).bind λl=>
 (bif l then(some true)else
 some (!e.2)).bind λm=>
 bif m then(some (db.zero,(12:Int)))else
 (uA d.1 (0:Int) (9:Int)).bind λg=>
 bif !g then(some (db.zero,(1:Int)))else
 (bif (ap (a+(1:Int)))==(4:Int)then((uA e.1 (0:Int) (9:Int)).bind λh=>
 some (!h))else
 some false).bind λn=>
 bif n then(some (db.zero,(1:Int)))else
 some (({db.zero with aX:=ap (a+(1:Int)),eI:=d.1,N:=e.1}:db),(0:Int))
def uz(a:Int):Option Int:=
 some (min (max a (-1000000000:Int)) (1000000000:Int))
def uB(d:Vector Int 10)(a:db):Option (Vector Int 10):=
 (cI d a.eI).bind λm=>
 bif a.aX==(1:Int)then((uz a.N).bind λn=>
 Let (d.setIfInBounds a.eI.toNat n) λe=>
 some e)else
 bif a.aX==(2:Int)then((uz a.N).bind λi=>
 (uz (ap ((min (max m (-4000000000:Int)) (4000000000:Int))+i))).bind λj=>
 Let (d.setIfInBounds a.eI.toNat j) λf=>
 some f)else
 bif a.aX==(3:Int)then((uz a.N).bind λk=>
 Let (d.setIfInBounds a.eI.toNat (max m k)) λg=>
 some g)else
 bif a.aX==(4:Int)then((cI d a.N).bind λl=>
 Let (d.setIfInBounds a.eI.toNat l) λh=>
 some h)else
 some d
def wP(fu:Nat)(g:List Y)(h:Nat)(d:Int×(Vector Int 10)):Option (Int×(Vector Int 10)):=
 (bh g (h:Int)).bind λf=>
 (Ar fu f).bind λa=>
 bif a.2 !=(0:Int)then(some (ap (d.1+(1:Int)),d.2))else
 (uB d.2 a.1).bind λe=>
 some (d.1,e)
def su(fu:Nat)(d:Vector Int 10)(a:List Y):Option ((Vector Int 10)×Int):=
 (bC (wP fu a) a.length 0 ((0:Int),d)).bind λ(e,f)=>
 some (f,e)
def xq(f:(List aG)×Int)(e:Nat)(d:(List Y)):Option (List Y):=
 (bh f.1 (e:Int)).bind λa=>
 (room d ([a.aY]:List Y)).bind λg=>
 some (d++([a.aY]:List Y))
def A6(fu:Nat)(f:aZ)(g:Int):Option ((Vector Int 10)×Int):=
 (sM f g).bind λa=>
 bif a.2 !=(0:Int)then(some (((Vector.replicate 10 (0:Int)):Vector Int 10),a.2))else
 (bC (xq a) a.1.length 0 ([]:List Y)).bind λd=>
 (su fu ((Vector.replicate 10 (0:Int)):Vector Int 10) d).bind λe=>
 some (e.1,(0:Int))
def tk(fu:Nat)(e:aZ)(l:Int):Option (Y×Int):=
 (sM e l).bind λm=>
 (gB m.2).bind λf=>
 bif f !=(0:Int)then(some (([]:Y),f))else
 (A5 e l).bind λg=>
 (gB g.2).bind λh=>
 bif h !=(0:Int)then(some (([]:Y),h))else
 (A6 fu e l).bind λi=>
 (gB i.2).bind λj=>
 bif j !=(0:Int)then(some (([]:Y),j))else
 (strconv_Itoa (m.1.length:Int)).bind λa=>
 (room a ([32]:Y)).bind λn=>
 (strconv_Itoa (g.1.length:Int)).bind λd=>
 (room (a++([32]:Y)) d).bind λo=>
 (room ((a++([32]:Y))++d) ([32]:Y)).bind λp=>
 (qd i.1.toList).bind λk=>
 (room (((a++([32]:Y))++d)++([32]:Y)) k).bind λq=>
 some ((((a++([32]:Y))++d)++([32]:Y))++k,(0:Int))
def lH(fu:Nat)(a:aZ)(q:Y)(s:Y):Option ((List bw)×(List Y)×aZ×Y×Int):=
 andThen (bif decide (q=([97,103,97,105,110]:Y))then((iT fu s).bind λn=>
 bif n.2 !=(0:Int)then(some (.inr (a.all,a.aK,a,([]:Y),n.2)))else
 (sI a n.1).bind λl=>
 (gB l.2.2).bind λy=>
 bif y !=(0:Int)then(some (.inr (a.all,a.aK,({l.2.1 with all:=a.all,aK:=a.aK,ah:=l.1}:aZ),([]:Y),y)))else
 some (.inl (({l.2.1 with all:=a.all,aK:=a.aK,ah:=l.1}:aZ),a.all,a.aK)))else
 bif decide (q=([102,97,108,108]:Y))then((iT fu s).bind λo=>
 bif o.2 !=(0:Int)then(some (.inr (a.all,a.aK,a,([]:Y),o.2)))else
 (sL a o.1).bind λg=>
 (gB g.2.2).bind λz=>
 bif z !=(0:Int)then(some (.inr (g.1,a.aK,({g.2.1 with all:=g.1,aK:=a.aK,ah:=a.ah}:aZ),([]:Y),z)))else
 some (.inl (({g.2.1 with all:=g.1,aK:=a.aK,ah:=a.ah}:aZ),g.1,a.aK)))else
 bif decide (q=([108,111,115,101]:Y))then((iT fu s).bind λp=>
 bif p.2 !=(0:Int)then(some (.inr (a.all,a.aK,a,([]:Y),p.2)))else
 (nd fu a p.1 (2:Int)).bind λf=>
 (gB f.2.2.2).bind λA=>
 bif A !=(0:Int)then(some (.inr (f.1,f.2.1,({f.2.2.1 with all:=f.1,aK:=f.2.1}:aZ),([]:Y),A)))else
 some (.inl (({f.2.2.1 with all:=f.1,aK:=f.2.1}:aZ),f.1,f.2.1)))else
 bif decide (q=([116,97,107,101]:Y))then((iT fu s).bind λk=>
 bif k.2 !=(0:Int)then(some (.inr (a.all,a.aK,a,([]:Y),k.2)))else
 (nd fu a k.1 (1:Int)).bind λe=>
 (gB e.2.2.2).bind λm=>
 bif m !=(0:Int)then(some (.inr (e.1,e.2.1,({e.2.2.1 with all:=e.1,aK:=e.2.1}:aZ),([]:Y),m)))else
 some (.inl (({e.2.2.1 with all:=e.1,aK:=e.2.1}:aZ),e.1,e.2.1)))else
 bif decide (q=([100,114,97,105,110]:Y))then((iT fu s).bind λh=>
 bif h.2 !=(0:Int)then(some (.inr (a.all,a.aK,a,([]:Y),h.2)))else
 (yc fu a h.1).bind λd=>
 bif d.2.2.2.2 !=(0:Int)then(some (.inr (d.1,d.2.1,({d.2.2.1 with all:=d.1,aK:=d.2.1}:aZ),([]:Y),d.2.2.2.2)))else
 some (.inr (d.1,d.2.1,({d.2.2.1 with all:=d.1,aK:=d.2.1}:aZ),d.2.2.2.1,(0:Int))))else
 bif decide (q=([111,102]:Y))then((iT fu s).bind λi=>
 bif i.2 !=(0:Int)then(some (.inr (a.all,a.aK,a,([]:Y),i.2)))else
 (tk fu a i.1).bind λj=>
 bif j.2 !=(0:Int)then(some (.inr (a.all,a.aK,a,([]:Y),j.2)))else
 some (.inr (a.all,a.aK,a,j.1,(0:Int))))else
 some (.inr (a.all,a.aK,a,([]:Y),(12:Int)))) λ(B,t,x)=>
 some (t,x,({B with all:=t,aK:=x}:aZ),([111,107]:Y),(0:Int))
def jX(fu:Nat)(a:aZ)(m:Y)(i:List Y):Option ((List bw)×aZ×Y×Int):=
 bif decide (m=([115,116,97,109,112,115]:Y))then((mE fu i).bind λr8=>
 bif r8.2 !=(0:Int)then(some (a.all,a,([]:Y),r8.2))else
 (oT r8.1).bind λD=>
 (gB D.2).bind λH=>
 bif H !=(0:Int)then(some (a.all,a,([]:Y),H))else
 (qd D.1).bind λZ8=>
 some (a.all,a,Z8,(0:Int)))else
 bif decide (m=([108,97,115,116]:Y))then((mE fu i).bind λx=>
 bif x.2 !=(0:Int)then(some (a.all,a,([]:Y),x.2))else
 (nS x.1).bind λl=>
 (gB l.2).bind λL=>
 bif L !=(0:Int)then(some (a.all,a,([]:Y),L))else
 bif (l.1.length:Int)==(0:Int)then(some (a.all,a,([]:Y),(6:Int)))else
 (bh l.1 (ap ((l.1.length:Int)-(1:Int)))).bind λx50=>
 (qd x50.toList).bind λr53=>
 some (a.all,a,r53,(0:Int)))else
 bif decide (m=([114,105,110,103]:Y))then((pf fu i).bind λy=>
 bif y.2 !=(0:Int)then(some (a.all,a,([]:Y),y.2))else
 (qS fu y.1).bind λz=>
 (gB z.2.2).bind λM=>
 bif M !=(0:Int)then(some (a.all,a,([]:Y),M))else
 (qd ([z.1,z.2.1]:List Int)).bind λr76=>
 some (a.all,a,r76,(0:Int)))else
 (bif decide (m=([118,111,116,101,115]:Y))then(some (decide ((i.length:Int)>(0:Int))))else
 some false).bind λy81=>
 bif y81 then((pf fu i).bind λk=>
 bif k.2 !=(0:Int)then(some (a.all,a,([]:Y),k.2))else
 (bY k.1 (1:Int) (k.1.length:Int)).bind λW=>
 (bh k.1 (0:Int)).bind λx97=>
 (ut fu W x97).bind λn=>
 Let n.1 λA=>
 (gB n.2).bind λo=>
 bif o !=(0:Int)then(some (a.all,a,([]:Y),o))else
 (yg A).bind λC=>
 some (a.all,a,C,(0:Int)))else
 (bif decide (m=([118,105,101,119]:Y))then(some ((i.length:Int)==(0:Int)))else
 some false).bind λS=>
 bif S then((Ih a).bind λp=>
 (strconv_Itoa p.ce).bind λg=>
 (room g ([32]:Y)).bind λagA=>
 (strconv_Itoa (p.bJ.toNat:Int)).bind λh=>
 (room (g++([32]:Y)) h).bind λagB=>
 (room ((g++([32]:Y))++h) ([32]:Y)).bind λagC=>
 (xr a).bind λF=>
 (strconv_Itoa F).bind λq=>
 (room (((g++([32]:Y))++h)++([32]:Y)) q).bind λagD=>
 some (a.all,a,(((g++([32]:Y))++h)++([32]:Y))++q,(0:Int)))else
 (bif decide (m=([99,104,97,110,103,101]:Y))then(some ((i.length:Int)==(0:Int)))else
 some false).bind λT=>
 bif T then((sJ a).bind λf=>
 (gB f.2.2).bind λs=>
 bif s !=(0:Int)then(some (f.1,({f.2.1 with all:=f.1,ah:=a.ah}:aZ),([]:Y),s))else
 some (f.1,({f.2.1 with all:=f.1,ah:=a.ah}:aZ),([111,107]:Y),(0:Int)))else
 (bif decide (m=([115,97,121]:Y))then(some ((i.length:Int)==(4:Int)))else
 some false).bind λV=>
 bif V then((bh i (0:Int)).bind λP=>
 (bY i (1:Int) (i.length:Int)).bind λB=>
 (iT fu P).bind λj=>
 bif j.2 !=(0:Int)then(some (a.all,a,([]:Y),j.2))else
 (strings_Join B ([32]:Y)).bind λK=>
 (q8 a j.1 K).bind λe=>
 (gB e.2.2.2).bind λt=>
 bif t !=(0:Int)then(some (e.1,({e.2.2.1 with all:=e.1,aK:=a.aK,ah:=e.2.1}:aZ),([]:Y),t))else
 some (e.1,({e.2.2.1 with all:=e.1,aK:=a.aK,ah:=e.2.1}:aZ),([111,107]:Y),(0:Int)))else
 bif (i.length:Int)==(1:Int)then((bh i (0:Int)).bind λQ=>
 (lH fu a m Q).bind λd=>
 bif d.2.2.2.2 !=(0:Int)then(some (d.1,({d.2.2.1 with all:=d.1,aK:=d.2.1}:aZ),([]:Y),d.2.2.2.2))else
 some (d.1,({d.2.2.1 with all:=d.1,aK:=d.2.1}:aZ),d.2.2.2.1,(0:Int)))else
 some (a.all,a,([]:Y),(12:Int))
def yd(fu:Nat)(e:aZ)(j:Y):Option ((List bw)×aZ×Y):=
 (oU fu j ([32]:Y)).bind λk=>
 (AD fu k).bind λd=>
 bif (d.length:Int)==(0:Int)then((oA (12:Int)).bind λg=>
 some (e.all,e,om++g))else
 (bh d (0:Int)).bind λi=>
 (bY d (1:Int) (d.length:Int)).bind λf=>
 (jX fu e i f).bind λa=>
 bif a.2.2.2 !=(0:Int)then((oA a.2.2.2).bind λh=>
 some (a.1,({a.2.1 with all:=a.1}:aZ),om++h))else
 some (a.1,({a.2.1 with all:=a.1}:aZ),a.2.2.1)
def qc(fu:Nat)(g:(List Y))(f:Nat)(a:aZ×(List Y)×(List bw)):Option (aZ×(List Y)×(List bw)):=
 (bh g (f:Int)).bind λe=>
 bif !(decide (e=([]:Y)))then((yd fu ({a.1 with all:=a.2.2}:aZ) e).bind λd=>
 (room a.2.1 ([d.2.2]:List Y)).bind λh=>
 some (({d.2.1 with all:=d.1}:aZ),a.2.1++([d.2.2]:List Y),d.1))else
 some (({a.1 with all:=a.2.2}:aZ),a.2.1,a.2.2)
def yb(fu:Nat)(f:Y):Option ((List Y)×Int):=
 bif decide ((f.length:Int)>(4096:Int))then(some (([]:List Y),(2:Int)))else
 (oU fu f ([10]:Y)).bind λe=>
 bif decide ((e.length:Int)>(60:Int))then(some (([]:List Y),(2:Int)))else
 (A4 (3:Int)).bind λa=>
 (bC (qc fu e) e.length 0 (a.1,([]:List Y),a.1.all)).bind λ(h,d,g)=>
 some (d,(0:Int))
def zO(a:Int):Option bi:=
 (cnt a).bind λd=>
 some ({bi.zero with n:=a,V:=({bB.zero with bJ:=((1:BitVec 8)<<<d)-(1:BitVec 8)}:bB),aI:=([]:List (Int×Int)),bd:=([]:List Y),bf:=([]:List cN),bj:=([]:List aV)}:bi)
def fp(a:Int)(e:Y):Option Y:=
 bif a !=(0:Int)then((strconv_Itoa a).bind λd=>
 (room ([101,114,114,111,114,32]:Y) d).bind λf=>
 some (([101,114,114,111,114,32]:Y)++d))else
 some e
def z8(g:Y)(d:Nat)(f:Int):Option (di Int Int):=
 (bh (Y.bytes g) (d:Int)).bind λa=>
 (bif decide ((a.toNat:Int)<((48:BitVec 8).toNat:Int))then(some true)else
 some (decide ((a.toNat:Int)>((57:BitVec 8).toNat:Int)))).bind λe=>
 bif e then(some (.ret (-1:Int)))else
 some (.go (ap ((ap ((10:Int)*f))+((a-(48:BitVec 8)).toNat:Int))))
def oP(a:Y):Option Int:=
 (bif decide ((a.length:Int)<(1:Int))then(some true)else
 some (decide ((a.length:Int)>(4:Int)))).bind λe=>
 bif e then(some (-1:Int))else
 (room ([]:Y) a).bind λf=>
 andThen (cM (z8 a) ((Y.bytes a).length) 0 (0:Int)) λd=>
 some d
def pP(d:Y)(e:Nat)(o:Unit):Option (di Unit (aT×Bool)):=
 (bY d (e:Int) (ap ((e:Int)+(1:Int)))).bind λn=>
 (qW ([108,115,116]:Y) n).bind λg=>
 bif (ap (g+(1:Int)))==(0:Int)then(some (.go ()))else
 (bY d 0 (e:Int)).bind λh=>
 (oP h).bind λf=>
 (bif decide ((ap (g+(1:Int)))>(1:Int))then((bY d (ap ((e:Int)+(1:Int))) (d.length:Int)).bind λi=>
 (oP i).bind λk=>
 Let ({({aT.zero with cb:=f,aX:=ap (g+(1:Int))}:aT)with cq:=k}:aT) λj=>
 some j)else
 some ({aT.zero with cb:=f,aX:=ap (g+(1:Int))}:aT)).bind λa=>
 (bif decide (a.cb>=(0:Int))then(some (decide (a.cq>=(0:Int))))else
 some false).bind λl=>
 bif l then((bif decide ((ap (g+(1:Int)))>(1:Int))then(some true)else
 some ((ap ((e:Int)+(1:Int)))==(d.length:Int))).bind λm=>
 some (.ret (a,m)))else
 some (.ret (a,false))
def zZ(d:Y):Option (aT×Bool):=
 (iO (d.length:Int)).bind λa=>
 andThen (cM (pP d) a 0 ()) λ_=>
 some (aT.zero,false)
def zL(j:aT)(f:List aT)(e:Nat)(d:Int×Bool):Option (Int×Bool):=
 (bh f (e:Int)).bind λa=>
 ((bif a.aX==(2:Int)then(some (a.cq==j.cq))else
 some false).bind λh=>
 bif h then(some a.cb)else
 some d.1).bind λg=>
 (bif d.2 then(some true)else
 some (decide (a=j))).bind λi=>
 some (g,i)
def CX(o:List aT)(p:Nat)(q:Unit):Option (di Unit Int):=
 (bh o (p:Int)).bind λa=>
 (bif decide (a.cb<(0:Int))then(some true)else
 some (decide (a.cb>(5:Int)))).bind λf=>
 (bif f then(some true)else
 some (decide (a.cq<(0:Int)))).bind λg=>
 (bif g then(some true)else
 some (decide (a.cq>(29:Int)))).bind λh=>
 bif h then(some (.ret (1:Int)))else
 (bY o 0 (p:Int)).bind λe=>
 (bC (zL a e) e.length 0 ((-1:Int),false)).bind λ(d,i)=>
 (bif a.aX==(1:Int)then(some (a.cq==(0:Int)))else
 some false).bind λj=>
 bif j then(some (.go ()))else
 (bif a.aX==(2:Int)then(some (decide (d<(0:Int))))else
 some false).bind λk=>
 bif k then(some (.go ()))else
 (bif a.aX==(3:Int)then(some (decide (d>=(0:Int))))else
 some false).bind λl=>
 (bif l then(some (d !=a.cb))else
 some false).bind λm=>
 (bif m then(some (!i))else
 some false).bind λn=>
 bif n then(some (.go ()))else
 some (.ret (4:Int))
def wh(a:List aT):Option Int:=
 bif decide ((a.length:Int)>(60:Int))then(some (2:Int))else
 andThen (cM (CX a) a.length 0 ()) λ_=>
 some (0:Int)
def wd(m:List cV)(e:Nat)(i:Int)(g:Nat)(a:(List Int)×(List (List Bool))):Option ((List Int)×(List (List Bool))):=
 (bh m (g:Int)).bind λd=>
 (bif d.A==i then((bh a.2 (e:Int)).bind λj=>
 (bh j d.B).bind λk=>
 some (!k))else
 some false).bind λl=>
 bif l then((bh a.2 (e:Int)).bind λf=>
 (bh f d.B).bind λo=>
 Let (a.2.set (e:Int).toNat (f.set d.B.toNat true)) λh=>
 (room a.1 ([d.B]:List Int)).bind λn=>
 some (a.1++([d.B]:List Int),h))else
 some (a.1,a.2)
def wc(i:List cV)(d:Nat)(a:(List Int)×(List (List Bool))):Option (di ((List Int)×(List (List Bool))) (List (List Bool))):=
 bif decide ((a.1.length:Int)>(0:Int))then((bh a.1 (0:Int)).bind λh=>
 (bY a.1 (1:Int) (a.1.length:Int)).bind λg=>
 (bC (wd i d h) i.length 0 (g,a.2)).bind λ(e,f)=>
 some (.go (e,f)))else
 some (.brk (a.1,a.2))
def zH(fu:Nat)(h:Int)(i:List cV)(a:Nat)(d:(List (List Bool))):Option (List (List Bool)):=
 (gP h).bind λf=>
 (bh d (a:Int)).bind λk=>
 Let (d.set (a:Int).toNat (List.replicate f false)) λg=>
 andThen (cw (wc i a) fu (([(a:Int)]:List Int),g)) λ(j,e)=>
 some e
def zG(fu:Nat)(d:Int)(f:List cV):Option (List (List Bool)):=
 (gP d).bind λg=>
 (iO d).bind λa=>
 (bC (zH fu d f) a 0 (List.replicate g ([]:List Bool))).bind λe=>
 some e
def CW(h:List aT)(e:Nat)(x9:aT)(a:Int×(List cV)):Option (di (Int×(List cV)) (List cV)):=
 bif decide (a.1<(h.length:Int))then((bh h a.1).bind λd=>
 bif x9.cb==d.cb then((room a.2 ([({cV.zero with A:=(e:Int),B:=a.1}:cV)]:List cV)).bind λi=>
 some (.go (ap (a.1+(1:Int)),a.2++([({cV.zero with A:=(e:Int),B:=a.1}:cV)]:List cV))))else
 (bif x9.aX==(2:Int)then(some (d.aX==(3:Int)))else
 some false).bind λf=>
 (bif f then(some (x9.cq==d.cq))else
 some false).bind λg=>
 bif g then((room a.2 ([({cV.zero with A:=(e:Int),B:=a.1}:cV)]:List cV)).bind λj=>
 some (.go (ap (a.1+(1:Int)),a.2++([({cV.zero with A:=(e:Int),B:=a.1}:cV)]:List cV))))else
 some (.go (ap (a.1+(1:Int)),a.2)))else
 some (.brk (a.1,a.2))
def zF(fu:Nat)(e:List aT)(a:Nat)(g:(List cV)):Option (List cV):=
 (bh e (a:Int)).bind λx9=>
 andThen (cw (CW e a x9) fu (ap ((a:Int)+(1:Int)),g)) λ(f,d)=>
 some d
def wb(fu:Nat)(a:List aT):Option (List (List Bool)):=
 (bC (zF fu a) a.length 0 ([]:List cV)).bind λe=>
 (zG fu (a.length:Int) e).bind λd=>
 some d
def C1(k:(List (List Bool)))(d:Nat)(e:Nat)(a:(List Int)):Option (List Int):=
 (bh k (e:Int)).bind λg=>
 (bh g (d:Int)).bind λh=>
 bif h then((bh a (d:Int)).bind λi=>
 (bh a (e:Int)).bind λj=>
 (bh a (d:Int)).bind λl=>
 Let (a.set (d:Int).toNat (max i (ap (j+(1:Int))))) λf=>
 some f)else
 some a
def C0(h:(List (List Bool)))(a:Nat)(e:(List Int)):Option (List Int):=
 (bh e (a:Int)).bind λi=>
 Let (e.set (a:Int).toNat (1:Int)) λg=>
 (iO (a:Int)).bind λd=>
 (bC (C1 h a) d 0 g).bind λf=>
 some f
def ug(fu:Nat)(a:List aT):Option (List Int):=
 (wb fu a).bind λf=>
 (gP (a.length:Int)).bind λe=>
 (bC (C0 f) a.length 0 (List.replicate e (0:Int))).bind λd=>
 some d
def uo(e:List Int)(f:Nat)(d:Y):Option Y:=
 (bh e (f:Int)).bind λi=>
 (strconv_Itoa i).bind λa=>
 (room a ([32]:Y)).bind λg=>
 (room d (a++([32]:Y))).bind λh=>
 some (d++(a++([32]:Y)))
def oQ(a:List Int):Option Y:=
 (bC (uo a) a.length 0 ([]:Y)).bind λd=>
 (room d ([46]:Y)).bind λu16=>
 some (d++([46]:Y))
def C4(n:List aT)(o:(List (List Bool)))(a:Nat)(e:Nat)(d:(List (Vector Int 6))):Option (List (Vector Int 6)):=
 (bh o (e:Int)).bind λi=>
 (bh i (a:Int)).bind λj=>
 (bif j then(some true)else
 some ((e:Int)==(a:Int))).bind λm=>
 bif m then((bh n (e:Int)).bind λf=>
 (bh d (a:Int)).bind λk=>
 (cI k f.cb).bind λl=>
 (bh d (a:Int)).bind λg=>
 (cI g f.cb).bind λp=>
 Let (d.set (a:Int).toNat (g.setIfInBounds f.cb.toNat (ap (l+(1:Int))))) λh=>
 some h)else
 some d
def C3(f:List aT)(g:(List (List Bool)))(a:Nat)(e:(List (Vector Int 6))):Option (List (Vector Int 6)):=
 (bC (C4 f g a) f.length 0 e).bind λd=>
 some d
def ui(fu:Nat)(a:List aT):Option (List (Vector Int 6)):=
 (wb fu a).bind λf=>
 (gP (a.length:Int)).bind λe=>
 (bC (C3 a f) a.length 0 (List.replicate e (Vector.replicate 6 (0:Int)))).bind λd=>
 some d
def sn(f:List Y)(g:Nat)(e:(List aT)):Option (di (List aT) Y):=
 (bh f (g:Int)).bind λi=>
 (zZ i).bind λa=>
 bif !a.2 then((fp (12:Int) ([]:Y)).bind λd=>
 some (.ret d))else
 (room e ([a.1]:List aT)).bind λh=>
 some (.go (e++([a.1]:List aT)))
def ww(fu:Nat)(m:Y)(l:List Y):Option Y:=
 andThen (cM (sn l) l.length 0 ([]:List aT)) λa=>
 (wh a).bind λd=>
 bif d !=(0:Int)then((fp d ([]:Y)).bind λe=>
 some e)else
 bif decide (m=([115,116,97,109,112,115]:Y))then((ug fu a).bind λf=>
 (oQ f).bind λg=>
 some g)else
 bif (a.length:Int)==(0:Int)then((fp (6:Int) ([]:Y)).bind λh=>
 some h)else
 (ui fu a).bind λi=>
 (bh i (ap ((a.length:Int)-(1:Int)))).bind λk=>
 (oQ k.toList).bind λj=>
 some j
def Ab(e:List Y)(f:Nat)(d:(List Int)):Option (di (List Int) ((List Int)×Bool)):=
 (bh e (f:Int)).bind λh=>
 (oP h).bind λa=>
 bif decide (a<(0:Int))then(some (.ret (([]:List Int),false)))else
 (room d ([a]:List Int)).bind λg=>
 some (.go (d++([a]:List Int)))
def Aa(a:List Y):Option ((List Int)×Bool):=
 andThen (cM (Ab a) a.length 0 ([]:List Int)) λd=>
 some (d,true)
def wi(f:List Int)(g:Nat)(h:Unit):Option (di Unit Int):=
 (bh f (g:Int)).bind λa=>
 (bif decide (a<(0:Int))then(some true)else
 some (decide (a>(16777215:Int)))).bind λe=>
 bif e then(some (.ret (1:Int)))else
 (wY f a).bind λd=>
 bif d !=(g:Int)then(some (.ret (4:Int)))else
 some (.go ())
def pN(a:List Int):Option Int:=
 (bif (a.length:Int)==(0:Int)then(some true)else
 some (decide ((a.length:Int)>(30:Int)))).bind λd=>
 bif d then(some (1:Int))else
 andThen (cM (wi a) a.length 0 ()) λ_=>
 some (0:Int)
def zK(e:List Int)(a:Nat)(d:(List Int)):Option (List Int):=
 (bh e (a:Int)).bind λf=>
 bif f==(2:Int)then((room d ([(a:Int)]:List Int)).bind λg=>
 some (d++([(a:Int)]:List Int)))else
 some d
def wg(g:List Int)(o:Int)(a:Int×(List cO)×(List Int)):Option (di (Int×(List cO)×(List Int)) (di (Int×(List Int)×Int) (Int×Int))):=
 bif decide ((a.2.1.length:Int)>(0:Int))then((bh a.2.1 (0:Int)).bind λf=>
 (bY a.2.1 (1:Int) (a.2.1.length:Int)).bind λe=>
 (nz (g.length:Int)).bind λs=>
 Let ({f with fe:=((ap ((ap (f.fe+f.ah))+(g.length:Int))).tmod (g.length:Int):Int)}:cO) λi=>
 Let ({i with left:=ap (i.left-(1:Int))}:cO) λd=>
 bif d.fe==d.of then((bh a.2.2 d.of).bind λl=>
 (bh a.2.2 d.of).bind λt=>
 Let (a.2.2.set d.of.toNat (ap (l+(1:Int)))) λk=>
 some (.go (ap (a.1+(1:Int)),e,k)))else
 (bh g d.fe).bind λm=>
 (bh g d.of).bind λn=>
 bif decide (m>n)then(some (.go (ap (a.1+(1:Int)),e,a.2.2)))else
 bif d.left==(0:Int)then((bh a.2.2 d.of).bind λj=>
 (bh a.2.2 d.of).bind λq=>
 Let (a.2.2.set d.of.toNat (ap (j+(1:Int)))) λh=>
 some (.go (ap ((ap (a.1+(1:Int)))+o),e,h)))else
 (room e ([d]:List cO)).bind λp=>
 some (.go (ap (a.1+(1:Int)),e++([d]:List cO),a.2.2)))else
 some (.brk (a.1,a.2.1,a.2.2))
def zJ(g:List Int)(d:Int)(f:Nat)(e:(List cO)):Option (List cO):=
 (bh g (f:Int)).bind λa=>
 (room e ([({cO.zero with of:=a,fe:=a,ah:=(1:Int),left:=d}:cO),({cO.zero with of:=a,fe:=a,ah:=(-1:Int),left:=d}:cO)]:List cO)).bind λh=>
 some (e++([({cO.zero with of:=a,fe:=a,ah:=(1:Int),left:=d}:cO),({cO.zero with of:=a,fe:=a,ah:=(-1:Int),left:=d}:cO)]:List cO))
def we(fu:Nat)(g:List Int)(a:Int×(List Int)×Int):Option (di (Int×(List Int)×Int) (Int×Int)):=
 (gP (g.length:Int)).bind λi=>
 (bC (zJ a.2.1 a.2.2) a.2.1.length 0 ([]:List cO)).bind λh=>
 andThen (cw (wg g a.2.2) fu (a.1,h,(List.replicate i (0:Int)))) λ(f,k,d)=>
 (bC (zK d) d.length 0 ([]:List Int)).bind λe=>
 bif decide (a.2.2>=(g.length:Int))then((bh e (0:Int)).bind λj=>
 some (.ret (j,f)))else
 some (.go (f,e,ap (a.2.2*(2:Int))))
def zI(a:Nat)(e:(List Int)):Option (List Int):=
 (bh e (a:Int)).bind λf=>
 Let (e.set (a:Int).toNat (a:Int)) λd=>
 some d
def uf(fu:Nat)(a:List Int):Option (Int×Int):=
 (gP (a.length:Int)).bind λd=>
 (bC (zI) ((List.replicate d (0:Int)).length) 0 (List.replicate d (0:Int))).bind λf=>
 andThen (cw (we fu a) fu ((0:Int),f,(1:Int))) λ(g,e,h)=>
 none
def z7(a:(BitVec 16)×Int):Option (di ((BitVec 16)×Int) Int):=
 bif decide ((a.1.toNat:Int)>((0:BitVec 16).toNat:Int))then(some (.go (a.1/(2:BitVec 16),ap (a.2+((a.1%(2:BitVec 16)).toNat:Int)))))else
 some (.brk (a.1,a.2))
def oO(fu:Nat)(a:BitVec 16):Option Int:=
 andThen (cw (z7) fu (a,(0:Int))) λ(e,d)=>
 some d
def zW(d:List Int)(e:BitVec 16)(a:Nat)(h:Int):Option Int:=
 (bh d (a:Int)).bind λg=>
 (cnt (a:Int)).bind λf=>
 some (ap (h+(ap (g*(((e>>>f)%(2:BitVec 16)).toNat:Int)))))
def C6(a:List Int)(d:BitVec 16):Option Int:=
 (bC (zW a d) a.length 0 (0:Int)).bind λe=>
 some e
def wy(a:BitVec 16)(d:List Int)(e:List Int):Option Bool:=
 (C6 d a).bind λf=>
 (bh e (0:Int)).bind λg=>
 some (decide (f>=g))
def CY(d:BitVec 16)(a:BitVec 16):Option Bool:=
 some (((a|||d).toNat:Int)==(a.toNat:Int))
def DK(e:List (BitVec 16))(a:BitVec 16)(d:Nat)(h:Unit):Option (di Unit Int):=
 (bh e (d:Int)).bind λg=>
 (CY g a).bind λf=>
 bif f then(some (.ret (d:Int)))else
 some (.go ())
def DJ(d:List (BitVec 16))(a:BitVec 16):Option Int:=
 andThen (cM (DK d a) d.length 0 ()) λ_=>
 some (-1:Int)
def wW(d:List (BitVec 16))(a:BitVec 16):Option Bool:=
 (DJ d a).bind λe=>
 some (decide (e>=(0:Int)))
def CZ(fu:Nat)(d:List Int)(e:List Int)(j:Nat)(f:Nat)(a:(BitVec 16)×(List (BitVec 16))):Option (di ((BitVec 16)×(List (BitVec 16))) (List (BitVec 16))):=
 bif decide ((a.1.toNat:Int)<(((1:BitVec 16)<<<f).toNat:Int))then((oO fu a.1).bind λg=>
 bif g==(j:Int)then((wy a.1 d e).bind λh=>
 bif h then((wW a.2 a.1).bind λi=>
 bif !i then((room a.2 ([a.1]:List (BitVec 16))).bind λk=>
 some (.go (a.1+(1:BitVec 16),a.2++([a.1]:List (BitVec 16)))))else
 some (.go (a.1+(1:BitVec 16),a.2)))else
 some (.go (a.1+(1:BitVec 16),a.2)))else
 some (.go (a.1+(1:BitVec 16),a.2)))else
 some (.brk (a.1,a.2))
def zN(fu:Nat)(g:Int)(a:List Int)(d:List Int)(h:Nat)(j:(List (BitVec 16))):Option (List (BitVec 16)):=
 (cnt g).bind λf=>
 andThen (cw (CZ fu a d h f) fu ((0:BitVec 16),j)) λ(i,e)=>
 some e
def zM(fu:Nat)(f:Int)(a:List Int)(d:List Int):Option (List (BitVec 16)):=
 (iO (ap (f+(1:Int)))).bind λe=>
 (bC (zN fu f a d) e 0 ([]:List (BitVec 16))).bind λg=>
 some g
def un(f:(List (BitVec 16)))(e:Nat)(d:(List Int)):Option (List Int):=
 (bh f (e:Int)).bind λa=>
 (room d ([(a.toNat:Int)]:List Int)).bind λg=>
 some (d++([(a.toNat:Int)]:List Int))
def so(fu:Nat)(t:Y)(x:List Y):Option Y:=
 (Aa x).bind λd=>
 bif !d.2 then((fp (12:Int) ([]:Y)).bind λi=>
 some i)else
 (bif decide (t=([118,111,116,101,115]:Y))then(some ((x.length:Int)==(0:Int)))else
 some false).bind λp=>
 bif p then((fp (12:Int) ([]:Y)).bind λj=>
 some j)else
 bif decide (t=([114,105,110,103]:Y))then((pN d.1).bind λe=>
 bif e !=(0:Int)then((fp e ([]:Y)).bind λk=>
 some k)else
 (uf fu d.1).bind λf=>
 (oQ ([f.1,f.2]:List Int)).bind λl=>
 some l)else
 (bY d.1 (1:Int) (d.1.length:Int)).bind λa=>
 (bif decide ((a.length:Int)<(1:Int))then(some true)else
 some (decide ((a.length:Int)>(10:Int)))).bind λq=>
 (bif q then(some true)else
 (bh d.1 (0:Int)).bind λo=>
 some (decide (o<(1:Int)))).bind λs=>
 bif s then((fp (1:Int) ([]:Y)).bind λm=>
 some m)else
 (zM fu (a.length:Int) a d.1).bind λg=>
 (bC (un g) g.length 0 ([]:List Int)).bind λh=>
 (oQ h).bind λn=>
 some n
def oM(d:bi)(e:Int):Option Bool:=
 (cnt e).bind λf=>
 (bif (((d.V.bJ>>>f)%(2:BitVec 8)).toNat:Int)==((1:BitVec 8).toNat:Int)then(some (((dg d.aI e).getD (0:Int))==(0:Int)))else
 some false).bind λa=>
 some a
def wv(e:bi)(a:Int):Option Int:=
 (bif decide (a<(0:Int))then(some true)else
 some (decide (a>=e.n))).bind λf=>
 bif f then(some (1:Int))else
 (oM e a).bind λd=>
 bif !d then(some (11:Int))else
 some (0:Int)
def zY(d:bi)(a:Nat)(f:Unit):Option (di Unit Int):=
 (cnt (a:Int)).bind λe=>
 bif (((d.V.bJ>>>e)%(2:BitVec 8)).toNat:Int)==((1:BitVec 8).toNat:Int)then(some (.ret (a:Int)))else
 some (.go ())
def sk(a:bi):Option Int:=
 andThen (cM (zY a) 6 0 ()) λ_=>
 some (0:Int)
def DR(e:List Int)(a:Int×Int):Option (di (Int×Int) Int):=
 bif decide (a.2<(e.length:Int))then((bh e a.2).bind λd=>
 some (.go (min a.1 d,ap (a.2+(1:Int)))))else
 some (.brk (a.1,a.2))
def AL(fu:Nat)(a:List Int):Option Int:=
 bif decide ((a.length:Int)<(1:Int))then(none)else
 (bh a (0:Int)).bind λd=>
 andThen (cw (DR a) fu (d,(1:Int))) λ(e,f)=>
 some e
def DQ(e:List Int)(a:Int×Int):Option (di (Int×Int) Int):=
 bif decide (a.2<(e.length:Int))then((bh e a.2).bind λd=>
 some (.go (max a.1 d,ap (a.2+(1:Int)))))else
 some (.brk (a.1,a.2))
def AK(fu:Nat)(a:List Int):Option Int:=
 bif decide ((a.length:Int)<(1:Int))then(none)else
 (bh a (0:Int)).bind λd=>
 andThen (cw (DQ a) fu (d,(1:Int))) λ(e,f)=>
 some e
def zQ(fu:Nat)(a:aV):Option Int:=
 (bif decide (a.aX<(0:Int))then(some true)else
 some (decide (a.aX>(255:Int)))).bind λi=>
 (bif i then(some true)else
 some (decide ((min (min (min a.aJ a.To) a.bB) a.aA)<(0:Int)))).bind λj=>
 (bif j then(some true)else
 some (decide ((max a.aJ a.To)>(5:Int)))).bind λf=>
 (bif f then(some true)else
 some (decide ((max a.bB a.aA)>(16777215:Int)))).bind λg=>
 bif g then(some (1:Int))else
 (AL fu a.At.toList).bind λd=>
 (bif decide (d<(0:Int))then(some true)else
 (AK fu a.At.toList).bind λe=>
 some (decide (e>(16777215:Int)))).bind λh=>
 bif h then(some (1:Int))else
 bif decide ((a.aY.length:Int)>(200:Int))then(some (2:Int))else
 some (0:Int)
def sl(fu:Nat)(a:bi)(i:aV):Option ((List aV)×bi):=
 Let ({i with bB:=a.V.ce}:aV) λe=>
 (bif decide ((a.bj.length:Int)<(60:Int))then((zQ fu e).bind λf=>
 some (f==(0:Int)))else
 some false).bind λg=>
 bif g then((room a.bj ([e]:List aV)).bind λj=>
 Let (a.bj++([e]:List aV),a) λ(d,h)=>
 some (d,({h with aI:=a.aI,bd:=a.bd,bf:=a.bf,bj:=d}:bi)))else
 some (a.bj,a)
def qO(fu:Nat)(a:bi)(g:Int)(i:Y):Option ((List aV)×bi×Int):=
 (wv a g).bind λo=>
 bif o !=(0:Int)then(some (a.bj,a,o))else
 bif decide ((i.length:Int)>(150:Int))then(some (a.bj,a,(2:Int)))else
 (cI a.aR g).bind λd=>
 (bif (a.bj.length:Int)==(60:Int)then(some true)else
 some ((d.aR.length:Int)==(16:Int))).bind λm=>
 (bif m then(some true)else
 some (decide ((ap (d.bI+(d.aR.length:Int)))>=(16777215:Int)))).bind λn=>
 bif n then(some (a.bj,a,(8:Int)))else
 (qU d.aR).bind λh=>
 (room h ([i]:List Y)).bind λp=>
 Let (a.aR.setIfInBounds g.toNat ({d with aR:=h++([i]:List Y)}:aJ)) λe=>
 (sk ({a with aR:=e}:bi)).bind λj=>
 (cI e g).bind λk=>
 (cI e g).bind λl=>
 (sl fu ({a with aR:=e}:bi) ({aV.zero with aX:=(1:Int),aJ:=g,To:=j,aA:=ap ((ap (k.bI+(l.aR.length:Int)))-(1:Int)),aY:=i}:aV)).bind λf=>
 some (f.1,({f.2 with aI:=a.aI,bd:=a.bd,bf:=a.bf,bj:=f.1}:bi),(0:Int))
def qN(fu:Nat)(d:bi)(k:Int)(h:aJ)(e:Nat)(a:bi×(List aV)):Option (bi×(List aV)):=
 (bh h.aR (e:Int)).bind λi=>
 bif decide ((e:Int)<(4:Int))then((sk ({a.1 with aI:=d.aI,bd:=d.bd,bf:=d.bf,bj:=a.2}:bi)).bind λg=>
 (cI a.1.aR k).bind λj=>
 (sl fu ({a.1 with aI:=d.aI,bd:=d.bd,bf:=d.bf,bj:=a.2}:bi) ({aV.zero with aX:=(1:Int),aJ:=k,To:=g,aA:=ap (j.bI+(e:Int)),aY:=i}:aV)).bind λf=>
 some (({f.2 with aI:=d.aI,bd:=d.bd,bf:=d.bf,bj:=f.1}:bi),f.1))else
 some (({a.1 with aI:=d.aI,bd:=d.bd,bf:=d.bf,bj:=a.2}:bi),a.2)
def sf(fu:Nat)(a:bi)(f:Int):Option ((List aV)×bi×Int):=
 (wv a f).bind λk=>
 bif k !=(0:Int)then(some (a.bj,a,k))else
 (cI a.aR f).bind λh=>
 (bC (qN fu a f h) h.aR.length 0 (a,a.bj)).bind λ(e,g)=>
 (sk ({e with aI:=a.aI,bd:=a.bd,bf:=a.bf,bj:=g}:bi)).bind λi=>
 (cI e.dM f).bind λj=>
 (sl fu ({e with aI:=a.aI,bd:=a.bd,bf:=a.bf,bj:=g}:bi) ({aV.zero with aX:=(3:Int),aJ:=f,To:=i,aA:=j.aN}:aV)).bind λd=>
 some (d.1,({d.2 with aI:=a.aI,bd:=a.bd,bf:=a.bf,bj:=d.1}:bi),(0:Int))
def AG(a:Int):Option (List aV):=
 bif decide (a<(0:Int))then(none)else
 (bif decide ((ap (a-(ap ((0:Int)-(0:Int)))))>(0:Int))then((gP (ap (a-(ap ((0:Int)-(0:Int)))))).bind λe=>
 (bY (List.replicate e aV.zero) 0 (0:Int)).bind λd=>
 some d)else
 some ([]:List aV)).bind λf=>
 some f
def wV(f:List (List aV))(e:Nat)(d:(List aV)):Option (List aV):=
 (bh f (e:Int)).bind λa=>
 (room d a).bind λg=>
 some (d++a)
def wU(e:List (List aV))(f:Nat)(d:Int):Option Int:=
 (bh e (f:Int)).bind λa=>
 bif decide ((ap (d+(a.length:Int)))<(0:Int))then(none)else
 some (ap (d+(a.length:Int)))
def Ay(a:List (List aV)):Option (List aV):=
 (bC (wU a) a.length 0 (0:Int)).bind λf=>
 (AG f).bind λe=>
 (bC (wV a) a.length 0 e).bind λd=>
 some d
def MH(e:To)(d:List (Int×Y))(a:Int×To):Option (di (Int×To) (To×(List Y))):=
 bif decide (a.1<(ap (e.aN+(16:Int))))then(bif (dg d a.1).isSome then((room a.2.bu ([({bc.zero with aA:=a.1,aY:=(dg d a.1).getD ([]:Y)}:bc)]:List bc)).bind λf=>
 some (.go (ap (a.1+(1:Int)),({a.2 with bu:=a.2.bu++([({bc.zero with aA:=a.1,aY:=(dg d a.1).getD ([]:Y)}:bc)]:List bc)}:To))))else
 some (.go (ap (a.1+(1:Int)),a.2)))else
 some (.brk (a.1,a.2))
def zV(e:To)(d:List (Int×Y))(a:Int×To):Option (di (Int×To) (To×(List Y))):=
 bif decide (a.1<(ap (e.aN+(16:Int))))then(bif (dg d a.1).isSome then((room a.2.bu ([({bc.zero with aA:=a.1,aY:=(dg d a.1).getD ([]:Y)}:bc)]:List bc)).bind λf=>
 some (.go (ap (a.1+(1:Int)),({a.2 with bu:=a.2.bu++([({bc.zero with aA:=a.1,aY:=(dg d a.1).getD ([]:Y)}:bc)]:List bc)}:To))))else
 some (.go (ap (a.1+(1:Int)),a.2)))else
 some (.brk (a.1,a.2))
def se(d:List (Int×Y))(a:To×(List Y)):Option (di (To×(List Y)) (To×(List Y))):=
 bif !((dg d a.1.aN).isSome)then(some (.brk (({a.1 with bu:=[]}:To),a.2)))else
 (room a.2 ([(dg d a.1.aN).getD ([]:Y)]:List Y)).bind λf=>
 Let (ap (a.1.aN+(1:Int))) λe=>
 some (.go (({a.1 with aN:=e,bu:=[]}:To),a.2++([(dg d a.1.aN).getD ([]:Y)]:List Y)))
def wj(g:To)(d:Nat)(f:(List (Int×Y))):Option (List (Int×Y)):=
 (bh g.bu (d:Int)).bind λa=>
 Let (eR f a.aA a.aY) λe=>
 some e
def uh(fu:Nat)(d:To)(e:bc):Option (To×(List Y)):=
 (bC (wj d) d.bu.length 0 ([]:List (Int×Y))).bind λa=>
 ((bif !((dg a e.aA).isSome)then(some (decide (e.aA>=d.aN)))else
 some false).bind λj=>
 (bif j then(some (decide (e.aA<(ap (d.aN+(16:Int))))))else
 some false).bind λk=>
 bif k then(Let (eR a e.aA e.aY) λi=>
 some i)else
 some a).bind λf=>
 andThen (cw (se f) fu (({To.zero with aN:=d.aN}:To),([]:List Y))) λ(g,h)=>
 andThen (cw (zV d f) fu (ap (g.aN+(1:Int)),({g with bu:=([]:List bc)}:To))) λ(m,l)=>
 some (l,h)
def wu(fu:Nat)(e:bi)(k:Int)(h:Int):Option ((List aV)×bi):=
 (sk e).bind λl=>
 (bh e.bf h).bind λi=>
 (strconv_Itoa i.aF).bind λa=>
 (room a ([58]:Y)).bind λm=>
 (bh e.bf h).bind λj=>
 (strconv_Itoa j.seq).bind λd=>
 (room (a++([58]:Y)) d).bind λn=>
 (room ((a++([58]:Y))++d) ([58]:Y)).bind λo=>
 (bh e.bd h).bind λg=>
 (room (((a++([58]:Y))++d)++([58]:Y)) g).bind λp=>
 (sl fu e ({aV.zero with aX:=(2:Int),aJ:=l,To:=k,aA:=h,aY:=(((a++([58]:Y))++d)++([58]:Y))++g}:aV)).bind λf=>
 some (f.1,({f.2 with aI:=e.aI,bd:=e.bd,bf:=e.bf,bj:=f.1}:bi))
def wq(fu:Nat)(j:bi)(d:List Y)(f:Y)(g:List cN)(h:Nat)(a:bi×(List aV)):Option (bi×(List aV)):=
 (oM ({a.1 with aI:=j.aI,bd:=d++([f]:List Y),bf:=g,bj:=a.2}:bi) (h:Int)).bind λi=>
 bif i then((wu fu ({a.1 with aI:=j.aI,bd:=d++([f]:List Y),bf:=g,bj:=a.2}:bi) (h:Int) (ap (((d++([f]:List Y)).length:Int)-(1:Int)))).bind λe=>
 some (({e.2 with aI:=j.aI,bd:=d++([f]:List Y),bf:=g,bj:=e.1}:bi),e.1))else
 some (({a.1 with aI:=j.aI,bd:=d++([f]:List Y),bf:=g,bj:=a.2}:bi),a.2)
def um(fu:Nat)(k:bi)(m:aV)(x9:To)(l:List Y)(h:Nat)(a:bi×(List Y)×(List cN)×(List aV)):Option (bi×(List Y)×(List cN)×(List aV)):=
 (bh l (h:Int)).bind λd=>
 (room a.2.1 ([d]:List Y)).bind λn=>
 (room a.2.2.1 ([({cN.zero with aF:=m.aJ,seq:=ap (x9.aN+(h:Int))}:cN)]:List cN)).bind λo=>
 Let (a.2.2.1++([({cN.zero with aF:=m.aJ,seq:=ap (x9.aN+(h:Int))}:cN)]:List cN),({a.1 with aI:=k.aI,bd:=a.2.1++([d]:List Y),bj:=a.2.2.2}:bi)) λ(e,g)=>
 (iO g.n).bind λi=>
 (bC (wq fu k a.2.1 d e) i 0 (({g with aI:=k.aI,bd:=a.2.1++([d]:List Y),bf:=e,bj:=a.2.2.2}:bi),a.2.2.2)).bind λ(j,f)=>
 some (({j with aI:=k.aI,bd:=a.2.1++([d]:List Y),bf:=e,bj:=f}:bi),a.2.1++([d]:List Y),e,f)
def qP(fu:Nat)(e:bi)(f:aV)(a:Int×bi×(List aV)):Option (di (Int×bi×(List aV)) ((List Y)×(List cN)×(List aV)×bi)):=
 bif decide (a.1<(min (e.bd.length:Int) (ap (f.aA+(4:Int)))))then((wu fu ({a.2.1 with aI:=e.aI,bd:=e.bd,bf:=e.bf,bj:=a.2.2}:bi) f.aJ a.1).bind λd=>
 some (.go (ap (a.1+(1:Int)),({d.2 with aI:=e.aI,bd:=e.bd,bf:=e.bf,bj:=d.1}:bi),d.1)))else
 some (.brk (a.1,({a.2.1 with aI:=e.aI,bd:=e.bd,bf:=e.bf,bj:=a.2.2}:bi),a.2.2))
def wt(f:bi)(g:aV)(l:To)(h:Nat)(a:bi):Option bi:=
 (bh f.bf (ap (l.aN+(h:Int)))).bind λd=>
 (cI a.dr g.To).bind λq=>
 (uC q).bind λk=>
 (bh f.bd (ap (l.aN+(h:Int)))).bind λm=>
 (room k ([({aG.zero with aJ:=d.aF,aY:=m}:aG)]:List aG)).bind λx=>
 Let (k++([({aG.zero with aJ:=d.aF,aY:=m}:aG)]:List aG)) λn=>
 (cI a.dr g.To).bind λy=>
 Let (a.dr.setIfInBounds g.To.toNat n) λi=>
 (cI a.aR g.To).bind λe=>
 (bif d.aF==g.To then(some (decide (d.seq>=e.bI)))else
 some false).bind λt=>
 bif t then((bY e.aR (ap ((ap (d.seq+(1:Int)))-e.bI)) (e.aR.length:Int)).bind λo=>
 Let (a.aR.setIfInBounds g.To.toNat ({e with aR:=o}:aJ)) λj=>
 (cI j g.To).bind λs=>
 Let (j.setIfInBounds g.To.toNat ({s with bI:=ap (d.seq+(1:Int))}:aJ)) λp=>
 some ({a with aI:=f.aI,dr:=i,aR:=p,bd:=f.bd,bf:=f.bf,bj:=f.bj}:bi))else
 some ({a with aI:=f.aI,dr:=i,bd:=f.bd,bf:=f.bf,bj:=f.bj}:bi)
def oN(fu:Nat)(a:bi)(d:aV):Option ((List Y)×(List cN)×(List aV)×bi):=
 bif d.aX==(1:Int)then((cI a.dR d.aJ).bind λx9=>
 (cI a.dR d.aJ).bind λy=>
 (uh fu y ({bc.zero with aA:=d.aA,aY:=d.aY}:bc)).bind λg=>
 Let (g.1.bu,g.2) λ(t,j)=>
 (cI a.dR d.aJ).bind λC=>
 Let (a.dR.setIfInBounds d.aJ.toNat ({g.1 with bu:=t}:To)) λx=>
 (bC (um fu a d x9 j) j.length 0 (({a with dR:=x}:bi),a.bd,a.bf,a.bj)).bind λ(z,k,l,m)=>
 some (k,l,m,({z with aI:=a.aI,bd:=k,bf:=l,bj:=m}:bi)))else
 bif d.aX==(3:Int)then(andThen (cw (qP fu a d) fu (d.aA,a,a.bj)) λ(B,q,f)=>
 some (a.bd,a.bf,f,({q with aI:=a.aI,bd:=a.bd,bf:=a.bf,bj:=f}:bi)))else
 bif d.aX==(2:Int)then((cI a.dM d.To).bind λo=>
 (cI a.dM d.To).bind λp=>
 (uh fu p ({bc.zero with aA:=d.aA,aY:=d.aY}:bc)).bind λe=>
 Let (e.1.bu,e.2) λ(h,i)=>
 (cI a.dM d.To).bind λA=>
 Let (a.dM.setIfInBounds d.To.toNat ({e.1 with bu:=h}:To)) λn=>
 (bC (wt a d o) i.length 0 ({a with dM:=n}:bi)).bind λs=>
 some (a.bd,a.bf,a.bj,({s with aI:=a.aI,bd:=a.bd,bf:=a.bf,bj:=a.bj}:bi)))else
 some (a.bd,a.bf,a.bj,a)
def mZ(fu:Nat)(a:bi)(i:Int)(j:Int):Option ((List Y)×(List cN)×bi×Int):=
 (bif decide (j<(1:Int))then(some true)else
 some (decide (j>(3:Int)))).bind λB=>
 bif B then(some (a.bd,a.bf,a,(1:Int)))else
 (bif decide (i<(0:Int))then(some true)else
 some (decide (i>=(a.bj.length:Int)))).bind λt=>
 bif t then(some (a.bd,a.bf,a,(6:Int)))else
 (bif j==(3:Int)then(some ((a.bj.length:Int)==(60:Int)))else
 some false).bind λx=>
 bif x then(some (a.bd,a.bf,a,(8:Int)))else
 (bh a.bj i).bind λe=>
 bif j==(3:Int)then((room a.bj ([e]:List aV)).bind λA=>
 Let (a.bj++([e]:List aV),a) λ(o,y)=>
 some (a.bd,a.bf,({y with aI:=a.aI,bd:=a.bd,bf:=a.bf,bj:=o}:bi),(0:Int)))else
 (bY a.bj 0 i).bind λp=>
 (bY a.bj (ap (i+(1:Int))) (a.bj.length:Int)).bind λq=>
 (Ay ([p,q]:List (List aV))).bind λs=>
 Let s λf=>
 ((bif j==(1:Int)then(some (e.bB==a.V.ce))else
 some false).bind λm=>
 (bif m then((oM ({a with bj:=f}:bi) e.To).bind λl=>
 some l)else
 some false).bind λn=>
 bif n then((oN fu ({a with bj:=f}:bi) e).bind λd=>
 some (({d.2.2.2 with aI:=a.aI,bd:=d.1,bf:=d.2.1,bj:=d.2.2.1}:bi),d.2.2.1,d.1,d.2.1))else
 some (({a with bj:=f}:bi),f,a.bd,a.bf)).bind λ(z,k,g,h)=>
 some (g,h,({z with aI:=a.aI,bd:=g,bf:=h,bj:=k}:bi),(0:Int))
def sh(a:bi)(e:Int):Option ((List (Int×Int))×bi×Int):=
 (bif decide (e<(0:Int))then(some true)else
 some (decide (e>=a.n))).bind λf=>
 bif f then(some (a.aI,a,(1:Int)))else
 Let (eR a.aI e (1:Int)) λd=>
 some (d,({a with aI:=d}:bi),(0:Int))
def C5(a:bB):Option Int:=
 (bif decide (a.ce<(0:Int))then(some true)else
 some (decide (a.ce>(16777215:Int)))).bind λe=>
 (bif e then(some true)else
 some (decide ((a.bJ.toNat:Int)<((1:BitVec 8).toNat:Int)))).bind λf=>
 (bif f then(some true)else
 some (decide ((a.bJ.toNat:Int)>((63:BitVec 8).toNat:Int)))).bind λd=>
 bif d then(some (1:Int))else
 some (0:Int)
def zP(fu:Nat)(a:bB)(d:BitVec 8)(e:BitVec 8):Option (bB×Int):=
 (C5 a).bind λj=>
 bif j !=(0:Int)then(some (bB.zero,j))else
 (bif decide ((d.toNat:Int)>((63:BitVec 8).toNat:Int))then(some true)else
 some (decide ((e.toNat:Int)>((63:BitVec 8).toNat:Int)))).bind λh=>
 (bif h then(some true)else
 some (decide (((d&&&e).toNat:Int)>((0:BitVec 8).toNat:Int)))).bind λi=>
 bif i then(some (bB.zero,(1:Int)))else
 bif a.ce==(16777215:Int)then(some (bB.zero,(8:Int)))else
 (oO fu (BitVec.ofInt 16 ((a.bJ-(a.bJ&&&d)).toNat:Int))).bind λf=>
 (oO fu (BitVec.ofInt 16 (a.bJ.toNat:Int))).bind λg=>
 bif decide ((ap ((2:Int)*f))>g)then(some (({bB.zero with ce:=ap (a.ce+(1:Int)),bJ:=(a.bJ-(a.bJ&&&d))|||e}:bB),(0:Int)))else
 some (bB.zero,(11:Int))
def uj(d:Nat)(f:List aG)(e:Nat)(a:(List Y)):Option (List Y):=
 (bh f (e:Int)).bind λh=>
 bif h.aJ==(d:Int)then((bY a (1:Int) (a.length:Int)).bind λg=>
 some g)else
 some a
def wm(e:bi)(g:List aG)(a:Nat)(d:bi):Option bi:=
 (oM ({d with aI:=e.aI,bd:=e.bd,bf:=e.bf,bj:=e.bj}:bi) (a:Int)).bind λm=>
 bif !m then(some ({d with aI:=e.aI,bd:=e.bd,bf:=e.bf,bj:=e.bj}:bi))else
 (cI d.aR (a:Int)).bind λn=>
 (cI d.dr (a:Int)).bind λo=>
 (bY g (o.length:Int) (g.length:Int)).bind λh=>
 (bC (uj a h) h.length 0 n.aR).bind λk=>
 (cI d.dr (a:Int)).bind λs=>
 Let (d.dr.setIfInBounds (a:Int).toNat g) λl=>
 (cI d.aR (a:Int)).bind λp=>
 Let (d.aR.setIfInBounds (a:Int).toNat ({aJ.zero with aR:=k}:aJ)) λi=>
 Let ({d with aI:=e.aI,dr:=l,aR:=i,bd:=e.bd,bf:=e.bf,bj:=e.bj}:bi) λf=>
 (cI f.dM (a:Int)).bind λq=>
 Let (f.dM.setIfInBounds (a:Int).toNat To.zero) λj=>
 some ({f with aI:=e.aI,dM:=j,bd:=e.bd,bf:=e.bf,bj:=e.bj}:bi)
def wl(e:bi)(d:Nat)(a:(BitVec 8)×(List aG)):Option ((BitVec 8)×(List aG)):=
 (oM e (d:Int)).bind λg=>
 bif !g then((cnt (d:Int)).bind λf=>
 some (a.1|||((1:BitVec 8)<<<f),a.2))else
 (cI e.dr (d:Int)).bind λh=>
 bif decide ((h.length:Int)>(a.2.length:Int))then((cI e.dr (d:Int)).bind λi=>
 some (a.1,i))else
 some (a.1,a.2)
def sg(fu:Nat)(a:bi):Option (bi×Int):=
 (iO a.n).bind λe=>
 (bC (wl a) e 0 ((0:BitVec 8),([]:List aG))).bind λ(h,g)=>
 (zP fu a.V h (0:BitVec 8)).bind λd=>
 bif d.2 !=(0:Int)then(some (a,d.2))else
 (iO a.n).bind λf=>
 (bC (wm a g) f 0 a).bind λi=>
 some (({i with V:=d.1,aI:=a.aI,dR:=(Vector.replicate 6 To.zero:Vector To 6),bd:=([]:List Y),bf:=([]:List cN),bj:=a.bj}:bi),(0:Int))
def DY(a:Y)(d:Y):Option Bool:=
 (vr a d).bind λe=>
 some e
def z6(g:Y)(d:Nat)(f:Int):Option (di Int (Int×Bool)):=
 (bh (Y.bytes g) (d:Int)).bind λa=>
 (bif decide ((a.toNat:Int)<((48:BitVec 8).toNat:Int))then(some true)else
 some (decide ((a.toNat:Int)>((57:BitVec 8).toNat:Int)))).bind λe=>
 bif e then(some (.ret ((0:Int),false)))else
 some (.go (ap ((ap ((ap (f*(10:Int)))+(a.toNat:Int)))-(48:Int))))
def wx(d:Y):Option (Int×Bool):=
 ((DY d ([45]:Y)).bind λh=>
 bif h then((bY d (1:Int) (d.length:Int)).bind λg=>
 some (g,(-1:Int)))else
 some (d,(1:Int))).bind λ(a,j)=>
 (bif decide ((a.length:Int)<(1:Int))then(some true)else
 some (decide ((a.length:Int)>(9:Int)))).bind λe=>
 bif e then(some ((0:Int),false))else
 (room ([]:Y) a).bind λi=>
 andThen (cM (z6 a) ((Y.bytes a).length) 0 (0:Int)) λf=>
 some (ap (j*f),true)
def zR(fu:Nat)(n:Y):Option (db×Int):=
 (oU fu n ([32]:Y)).bind λf=>
 bif (f.length:Int)!=(3:Int)then(some (db.zero,(12:Int)))else
 (bh f (0:Int)).bind λg=>
 (wZ ([([]:Y),([115,101,116]:Y),([97,100,100]:Y),([109,111,115,116]:Y),([99,111,112,121]:Y)]:List Y) g).bind λe=>
 (bh f (1:Int)).bind λh=>
 (wx h).bind λa=>
 (bh f (2:Int)).bind λi=>
 (wx i).bind λd=>
 (bif decide (e<(1:Int))then(some true)else
 some (!a.2)).bind λj=>
 (bif j then(some true)else
 some (!d.2)).bind λk=>
 bif k then(some (db.zero,(12:Int)))else
 (bif decide (a.1<(0:Int))then(some true)else
 some (decide (a.1>(9:Int)))).bind λl=>
 bif l then(some (db.zero,(1:Int)))else
 bif e==(4:Int)then((bif decide (d.1<(0:Int))then(some true)else
 some (decide (d.1>(9:Int)))).bind λm=>
 bif m then(some (db.zero,(1:Int)))else
 some (({db.zero with aX:=e,eI:=a.1,N:=d.1}:db),(0:Int)))else
 some (({db.zero with aX:=e,eI:=a.1,N:=d.1}:db),(0:Int))
def pO(a:Int):Option Int:=
 bif decide (a>(1000000000:Int))then(some (1000000000:Int))else
 bif decide (a<(-1000000000:Int))then(some (-1000000000:Int))else
 some a
def zU(fu:Nat)(m:List Y)(n:Nat)(d:Int×(Vector Int 10)):Option (Int×(Vector Int 10)):=
 (bh m (n:Int)).bind λh=>
 (zR fu h).bind λa=>
 bif a.2 !=(0:Int)then(some (ap (d.1+(1:Int)),d.2))else
 (pO a.1.N).bind λe=>
 (bif a.1.aX==(2:Int)then((cI d.2 a.1.eI).bind λi=>
 (pO (ap ((max (-1099511627776:Int) (min i (1099511627776:Int)))+e))).bind λg=>
 some g)else
 bif a.1.aX==(3:Int)then((cI d.2 a.1.eI).bind λj=>
 some (max e j))else
 bif a.1.aX==(4:Int)then((cI d.2 a.1.N).bind λk=>
 some k)else
 some e).bind λl=>
 (cI d.2 a.1.eI).bind λo=>
 Let (d.2.setIfInBounds a.1.eI.toNat l) λf=>
 some (d.1,f)
def zT(fu:Nat)(d:Vector Int 10)(a:List Y):Option ((Vector Int 10)×Int):=
 (bC (zU fu a) a.length 0 ((0:Int),d)).bind λ(e,f)=>
 some (f,e)
def wo(x9:List aG)(e:Nat)(d:(List Y)):Option (List Y):=
 (bh x9 (e:Int)).bind λa=>
 (room d ([a.aY]:List Y)).bind λf=>
 some (d++([a.aY]:List Y))
def wn(fu:Nat)(e:bi)(f:Int):Option (Vector Int 10):=
 (cI e.dr f).bind λx9=>
 (bC (wo x9) x9.length 0 ([]:List Y)).bind λa=>
 (zT fu ((Vector.replicate 10 (0:Int)):Vector Int 10) a).bind λd=>
 some d.1
def qQ(fu:Nat)(f:bi)(g:Int)(a:Int×bi×(List Y)×(List cN)):Option (di (Int×bi×(List Y)×(List cN)) ((List (Int×Int))×bi×Y)):=
 (bif decide (a.1<g)then(some (decide ((a.2.1.bj.length:Int)>(0:Int))))else
 some false).bind λe=>
 bif e then((mZ fu ({a.2.1 with aI:=f.aI,bd:=a.2.2.1,bf:=a.2.2.2}:bi) (0:Int) (1:Int)).bind λd=>
 some (.go (ap (a.1+(1:Int)),({d.2.2.1 with aI:=f.aI,bd:=d.1,bf:=d.2.1}:bi),d.1,d.2.1)))else
 some (.brk (a.1,({a.2.1 with aI:=f.aI,bd:=a.2.2.1,bf:=a.2.2.2}:bi),a.2.2.1,a.2.2.2))
def lv(fu:Nat)(a:bi)(l:Y)(i:Int)(S:List Y):Option ((List (Int×Int))×bi×Y):=
 bif decide (l=([115,97,121]:Y))then((bY S (1:Int) (S.length:Int)).bind λm7=>
 (strings_Join m7 ([32]:Y)).bind λL=>
 (qO fu a i L).bind λp=>
 (fp p.2.2 ([111,107]:Y)).bind λM=>
 some (a.aI,({p.2.1 with aI:=a.aI,bd:=a.bd,bf:=a.bf,bj:=p.1}:bi),M))else
 bif decide (l=([97,103,97,105,110]:Y))then((sf fu a i).bind λq=>
 (fp q.2.2 ([111,107]:Y)).bind λP=>
 some (a.aI,({q.2.1 with aI:=a.aI,bd:=a.bd,bf:=a.bf,bj:=q.1}:bi),P))else
 bif decide (l=([108,111,115,101]:Y))then((mZ fu a i (2:Int)).bind λj=>
 (fp j.2.2.2 ([111,107]:Y)).bind λQ=>
 some (a.aI,({j.2.2.1 with aI:=a.aI,bd:=j.1,bf:=j.2.1}:bi),Q))else
 bif decide (l=([116,97,107,101]:Y))then((mZ fu a i (1:Int)).bind λk=>
 (fp k.2.2.2 ([111,107]:Y)).bind λx=>
 some (a.aI,({k.2.2.1 with aI:=a.aI,bd:=k.1,bf:=k.2.1}:bi),x))else
 bif decide (l=([102,97,108,108]:Y))then((sh a i).bind λf=>
 (fp f.2.2 ([111,107]:Y)).bind λy=>
 some (f.1,({f.2.1 with aI:=f.1,bd:=a.bd,bf:=a.bf,bj:=a.bj}:bi),y))else
 bif decide (l=([99,104,97,110,103,101]:Y))then((sg fu a).bind λm=>
 (fp m.2 ([111,107]:Y)).bind λz=>
 some (a.aI,({m.1 with aI:=a.aI,bj:=a.bj}:bi),z))else
 bif decide (l=([100,114,97,105,110]:Y))then(andThen (cw (qQ fu a i) fu ((0:Int),a,a.bd,a.bf)) λ(H,K,s,t)=>
 (strconv_Itoa H).bind λA=>
 some (a.aI,({K with aI:=a.aI,bd:=s,bf:=t}:bi),A))else
 bif decide (l=([118,105,101,119]:Y))then((strconv_Itoa a.V.ce).bind λd=>
 (room d ([32]:Y)).bind λT=>
 (strconv_Itoa (a.V.bJ.toNat:Int)).bind λg=>
 (room (d++([32]:Y)) g).bind λV=>
 (room ((d++([32]:Y))++g) ([32]:Y)).bind λW=>
 (strconv_Itoa (a.bj.length:Int)).bind λn=>
 (room (((d++([32]:Y))++g)++([32]:Y)) n).bind λagE=>
 some (a.aI,a,(((d++([32]:Y))++g)++([32]:Y))++n))else
 bif decide (i>=a.n)then((fp (1:Int) ([]:Y)).bind λB=>
 some (a.aI,a,B))else
 (wn fu a i).bind λC=>
 (cI a.dr i).bind λD=>
 (strconv_Itoa (D.length:Int)).bind λe=>
 (room e ([32]:Y)).bind λagF=>
 (cI a.aR i).bind λF=>
 (strconv_Itoa (F.aR.length:Int)).bind λh=>
 (room (e++([32]:Y)) h).bind λagG=>
 (room ((e++([32]:Y))++h) ([32]:Y)).bind λagH=>
 (oQ C.toList).bind λo=>
 (room (((e++([32]:Y))++h)++([32]:Y)) o).bind λagI=>
 some (a.aI,a,(((e++([32]:Y))++h)++([32]:Y))++o)
def ul(f:(List Y))(e:Nat)(d:(List Y)):Option (List Y):=
 (bh f (e:Int)).bind λa=>
 bif !(decide (a=([]:Y)))then((room d ([a]:List Y)).bind λg=>
 some (d++([a]:List Y)))else
 some d
def uk(fu:Nat)(e:bi)(Q:Y):Option ((List (Int×Int))×bi×Y):=
 (oU fu Q ([32]:Y)).bind λP=>
 (bC (ul P) P.length 0 ([]:List Y)).bind λa=>
 bif (a.length:Int)==(0:Int)then((fp (12:Int) ([]:Y)).bind λA=>
 some (e.aI,e,A))else
 Let (eR ([]:List (Y×Int)) ([115,97,121]:Y) (4:Int)) λo=>
 Let (eR o ([97,103,97,105,110]:Y) (1:Int)) λp=>
 Let (eR p ([108,111,115,101]:Y) (1:Int)) λq=>
 Let (eR q ([116,97,107,101]:Y) (1:Int)) λs=>
 Let (eR s ([102,97,108,108]:Y) (1:Int)) λt=>
 Let (eR t ([100,114,97,105,110]:Y) (1:Int)) λx=>
 Let (eR x ([111,102]:Y) (1:Int)) λy=>
 Let (eR y ([99,104,97,110,103,101]:Y) (0:Int)) λz=>
 Let (eR z ([118,105,101,119]:Y) (0:Int)) λi=>
 (bh a (0:Int)).bind λj=>
 (bY a (1:Int) (a.length:Int)).bind λg=>
 bif !((dg i j).isSome)then((bh a (0:Int)).bind λf=>
 (bif decide (f=([115,116,97,109,112,115]:Y))then(some (decide (f=([115,116,97,109,112,115]:Y))))else
 some (decide (f=([108,97,115,116]:Y)))).bind λL=>
 bif L then((bh a (0:Int)).bind λH=>
 (ww fu H g).bind λB=>
 some (e.aI,e,B))else
 (bif decide (f=([114,105,110,103]:Y))then(some (decide (f=([114,105,110,103]:Y))))else
 some (decide (f=([118,111,116,101,115]:Y)))).bind λM=>
 bif M then((bh a (0:Int)).bind λK=>
 (so fu K g).bind λC=>
 some (e.aI,e,C))else
 (fp (12:Int) ([]:Y)).bind λD=>
 some (e.aI,e,D))else
 bif ((dg i j).getD (0:Int))!=(g.length:Int)then((fp (12:Int) ([]:Y)).bind λF=>
 some (e.aI,e,F))else
 andThen (bif decide (((dg i j).getD (0:Int))>(0:Int))then((bh g (0:Int)).bind λl=>
 (oP l).bind λh=>
 bif decide (h<(0:Int))then((fp (12:Int) ([]:Y)).bind λk=>
 some (.inr (e.aI,e,k)))else
 some (.inl h))else
 some (.inl (0:Int))) λn=>
 (bh a (0:Int)).bind λm=>
 (lv fu e m n g).bind λd=>
 some (d.1,({d.2.1 with aI:=d.1}:bi),d.2.2)
def qM(fu:Nat)(g:(List Y))(f:Nat)(a:bi×(List Y)×(List (Int×Int))):Option (bi×(List Y)×(List (Int×Int))):=
 (bh g (f:Int)).bind λe=>
 bif !(decide (e=([]:Y)))then((uk fu ({a.1 with aI:=a.2.2}:bi) e).bind λd=>
 (room a.2.1 ([d.2.2]:List Y)).bind λh=>
 some (({d.2.1 with aI:=d.1}:bi),a.2.1++([d.2.2]:List Y),d.1))else
 some (({a.1 with aI:=a.2.2}:bi),a.2.1,a.2.2)
def zS(fu:Nat)(f:Y):Option ((List Y)×Int):=
 (oU fu f ([10]:Y)).bind λe=>
 (bif decide ((f.length:Int)>(4096:Int))then(some true)else
 some (decide ((e.length:Int)>(60:Int)))).bind λi=>
 bif i then(some (([]:List Y),(2:Int)))else
 (zO (3:Int)).bind λa=>
 (bC (qM fu e) e.length 0 (a,([]:List Y),a.aI)).bind λ(h,d,g)=>
 some (d,(0:Int))
def H0(d:List Y)(e:List Y)(a:Nat)(h:Unit):Option (di Unit Bool):=
 (bh d (a:Int)).bind λf=>
 (bh e (a:Int)).bind λg=>
 bif !(decide (f=g))then(some (.ret false))else
 some (.go ())
def AF(a:List Y)(d:List Y):Option Bool:=
 bif (a.length:Int)!=(d.length:Int)then(some false)else
 andThen (cM (H0 a d) a.length 0 ()) λ_=>
 some true
def zE(fu:Nat)(e:Y):Option Bool:=
 (yb fu e).bind λf=>
 (zS fu e).bind λg=>
 (AF f.1 g.1).bind λa=>
 (bif a then(some (f.2==g.2))else
 some false).bind λd=>
 some d
abbrev Ha:=@Ph
abbrev vY:=@Pm
abbrev mr:=@Qb
abbrev jp:=@Qc
abbrev jq:=@Qd
abbrev CO:=@Sh
abbrev mT:=@Si
abbrev vQ:=@Sj
abbrev nG:=@Sk
abbrev tW:=@Sm
abbrev lT:=@Sn
abbrev vR:=@So
abbrev ls:=@Sw
abbrev tY:=@Sx
abbrev CR:=@Tc
abbrev kV:=@Tg
abbrev mp:=@Th
