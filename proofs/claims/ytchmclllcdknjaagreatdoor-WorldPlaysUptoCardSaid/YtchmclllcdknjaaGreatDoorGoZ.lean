/-
  strconv.Itoa, by the shelf's contract: the library's table is read, new blocks come up.
-/
import Derived.Test.YtchmclllcdknjaaGreatDoorGoF
import Derived.Lib.ItoaMem
import Derived.Sort.Grow
import Derived.Deep.Draws
namespace Go.Proofs.YtchmclllcdknjaaGreatDoor
open Go.RowKit Enc
def Tab (P:Program) (w0:World):Prop:=Lib.TabIs P w0 "internal/strconv.uint64pow10" .u64 Lib.pow10Tab
def itoaR (n:Int):Option Str:=if -9223372036854775808≤n∧n≤9223372036854775807 then some (Lib.itoa n) else none
theorem Tab.now {P:Program} {w0 w:World} {g:Nat} (h:Tab P w0) (hg:P.globalNamed "internal/strconv.uint64pow10"=some g) (hb:Below w0.heap.size w0 w):Lib.TabIs P w "internal/strconv.uint64pow10" .u64 Lib.pow10Tab:=by
  unfold Tab Lib.TabIs World.var? at *
  rw [hg] at h ⊢
  simp only [Option.bind_some] at h ⊢
  have hlt:g < w0.heap.size:=by
    rcases Nat.lt_or_ge g w0.heap.size with h' | h'
    · exact h'
    · rw [Array.getElem?_eq_none h'] at h; cases h
  rw [hb.block g hlt]
  exact h
theorem St.grow {w0:World} {F:Frz} {L:List Item} {w:World} (h:St w0 F L w) (k:Nat) (os:Array Obj):St w0 F L (Sort.grow (w.drewN k) os):=by
  have hget:∀ b,b < w.heap.size→(Sort.grow (w.drewN k) os).heap[b]? = w.heap[b]?:=fun b hb=>Sort.heap_grow_old (w.drewN k) os hb
  have hsz:(Sort.grow (w.drewN k) os).heap.size=w.heap.size+os.size:=Sort.size_grow (w.drewN k) os
  refine ⟨h.below.trans ⟨rfl,rfl,rfl,by rw [hsz]; omega,fun b hb=>hget b (by have:=h.below.size; omega)⟩,fun b o hb=>?_,fun b hb=>?_,fun j hj=>?_,h.nodup⟩
  · have:=h.frz b o hb
    rw [hget b (Array.getElem?_eq_some_iff.1 this).1]; exact this
  · have:=h.apart b hb
    exact ⟨this.1,by rw [hsz]; omega,this.2.2⟩
  · refine Item.holds_congr (fun b hb=>?_) (h.holds j hj)
    exact hget b (h.apart b (mem_feet hj hb)).2.1
theorem Ok.itoa {P:Program} {w0:World} {f:FuncId} {F:Frz} {L:List Item} {n:Int} {r:Str} {g:Nat} (H:itoaR n=some r) (hT:Tab P w0) (hg:P.globalNamed "internal/strconv.uint64pow10"=some g)
    (hC:∀ (n:Int),-9223372036854775808≤n→n≤9223372036854775807→∀ w:World,Lib.TabIs P w "internal/strconv.uint64pow10" .u64 Lib.pow10Tab→Calls P f #[.int .i64 n] w fun e w'=>e=.returned (.string ⟨(Lib.itoa n).toArray⟩)∧∃ k os,w'=Sort.grow (w.drewN k) os) :
    Ok P w0 f [iv n] F L (Is (Str.v r) L):=fun w hw=>by
  unfold itoaR at H
  split at H
  · rename_i hr
    cases H
    refine (hC n hr.1 hr.2 w (hT.now hg hw.below)).mono fun e w' ⟨he,k,os,hw'⟩=>?_
    subst he; subst hw'
    exact ⟨F,L,_,rfl,FLe.refl _,hw.grow k os,rfl,rfl⟩
  · cases H
end Go.Proofs.YtchmclllcdknjaaGreatDoor
