/-
  The same facts with short names, and steps whose side conditions are one equation.
-/
import Derived.Test.YtchmclllcdknjaaGreatDoorGoM
import Derived.Test.YtchmclllcdknjaaGreatDoorGoX
namespace Go.Proofs.YtchmclllcdknjaaGreatDoor
open Go.RowKit Enc
theorem rl {α:Type} {l:List α}:l.Sublist l:=.refl l
theorem nsl {α:Type} {l:List α}:[].Sublist l:=List.nil_sublist l
theorem bs {α β:Type} {o:Option α} {f:α→Option β} {r:β} (h:o.bind f=some r):∃ x,o=some x∧f x=some r:=bind_some h
theorem si {α:Type} {x y:α} (h:some x=some y):x=y:=Option.some.inj h
theorem sj {α:Type} {x y:α} (h:some x=some y):y=x:=(Option.some.inj h).symm
theorem nls {n:Nat}:n < n+1:=Nat.lt_succ_self n
theorem el {α:Type} [Enc α] {x:α}:(enc x).length=sz α:=Enc.len x
theorem phl {α:Type} [Enc α] {x y:α}:Put (enc x) 0 (enc y) (enc y):=Put.here ((Enc.len _).trans (Enc.len _).symm)
theorem ft {F G K:Frz} (h:FLe F G) (k:FLe G K):FLe F K:=FLe.trans h k
section
variable {P:Program} {n:Nat} {w0:World} {ops:Array Oper} {Q:Exit→Act→World→Prop} {K:Act→Prop} {l:List Oper} {e:List (Nat×Value)} {F:Frz} {L:List Item} {v:Value} {d:Nat} {ty:TypeId} {pos:String} {aft:Array Edge} {gd:Option (Nat×Bool)} {dst:Option Nat} {post:Frz→List Item→Value→Prop}
def sees (ops:Array Oper) (e:List (Nat×Value)) (n d j:Nat):Option Value:=if d < n then (ops[j]?).bind fun o=>o.dst.bind fun t=>look e t else none
theorem sees_some {b:Bool} {j:Nat} (h:sees ops e n d j=some (.bool b)):d < n∧∃ t,(ops[j]?).bind (·.dst)=some t∧look e t=some (.bool b):=by
  unfold sees at h
  split at h
  · rename_i hn
    obtain ⟨o,ho,h⟩:=Option.bind_eq_some_iff.1 h
    obtain ⟨t,ht,h⟩:=Option.bind_eq_some_iff.1 h
    exact ⟨hn,t,by rw [ho]; exact ht,h⟩
  · cases h
theorem lsk {i:Op} {j:Nat} {want b:Bool} (h:sees ops e n d j=some (.bool b)) (hb:b=!want) (k:Lst P n w0 ops Q l ((d,undef)::e) F L):Lst P n w0 ops Q (⟨some d,i,ty,pos,aft,some (j,want)⟩::l) e F L:=by
  obtain ⟨hn,t,h1,h2⟩:=sees_some h
  exact Lst.skip rfl h1 h2 hb rfl hn k
theorem qsk {i:Op} {j:Nat} {want b:Bool} (h:sees ops e n d j=some (.bool b)) (hb:b=!want) (k:Qt P n w0 ops K l ((d,undef)::e) F L):Qt P n w0 ops K (⟨some d,i,ty,pos,aft,some (j,want)⟩::l) e F L:=by
  obtain ⟨hn,t,h1,h2⟩:=sees_some h
  exact Qt.skip rfl h1 h2 hb rfl hn k
theorem Ev.fo (off':Nat) {x:Operand} {t:TypeId} {k b off:Nat} {fs:Array Field} {f:Field} {s:Nat} (hx:ev e x=some (.pointer (some ⟨b,off,none⟩))) (hu:∀ w,(underlying t).run P w=.ok (.struct fs) w)
    (hf:fs[k]? = some f) (hs:∀ w,(sizeOf f.type).run P w=.ok s w) (h0:(s==0)=false) (ho:off+f.offset=off'):Ev P n w0 e F L ⟨dst,.fieldAddr t x k,ty,pos,aft,gd⟩ (.pointer (some ⟨b,off',none⟩)):=Ev.fieldAddr hx hu hf hs h0 ho
theorem lf (i:Nat) {it:Item} (hL:L[i]? = some it) (h:Lst P n w0 ops Q l e F (it::L.eraseIdx i)):Lst P n w0 ops Q l e F L:=Lst.front hL rfl h
theorem af (i:Nat) {x:Exit} {it:Item} (hL:L[i]? = some it) (h:At n w0 Q x e F (it::L.eraseIdx i)):At n w0 Q x e F L:=At.front hL rfl h
theorem cl {f:FuncId} {xs:List Operand} {vs:List Value} {ats:Array TypeId} (hn:decide (d < n)=true) (hx:evs e xs vs) (hcall:∀ (args:Array Value) (w:World),(callFunc f args).run P w=.ok (.enter f args) w) (hO:Ok P w0 f vs F L post)
    (k:∀ F' L' v,FLe F F'→post F' L' v→Lst P n w0 ops Q l ((d,v)::e) F' L'):Lst P n w0 ops Q (⟨some d,.call ⟨.value (.func f),xs.toArray,ats⟩,ty,pos,aft,none⟩::l) e F L:=Lst.call rfl rfl (of_decide_eq_true hn) hx hcall hO k
theorem cl1 {f:FuncId} {xs:List Operand} {vs:List Value} {ats:Array TypeId} (hn:decide (d < n)=true) (hx:evs e xs vs) (hcall:∀ (args:Array Value) (w:World),(callFunc f args).run P w=.ok (.enter f args) w) (hO:Ok P w0 f vs F L (Is v L))
    (k:Lst P n w0 ops Q l ((d,v)::e) F L):Lst P n w0 ops Q (⟨some d,.call ⟨.value (.func f),xs.toArray,ats⟩,ty,pos,aft,none⟩::l) e F L:=Lst.call1 rfl rfl (of_decide_eq_true hn) hx hcall hO k
theorem lst (i:Nat) {x y:Operand} {t:TypeId} {b off s:Nat} {cs cs' vs:List Value} {t':TypeId} {L':List Item} (hx:ev e x=some (.pointer (some ⟨b,off,none⟩))) (hy:ev e y=some v) (hL:L[i]? = some (.blk b cs t'))
    (hs:∀ w,(sizeOf t).run P w=.ok s w) (hv:v.cells.toList=vs) (hl:vs.length=s) (h1:vs.all one1=true) (hp:Put cs off vs cs') (hL':L.set i (.blk b cs' t')=L')
    (k:Lst P n w0 ops Q l e F L'):Lst P n w0 ops Q (⟨none,.store t x y,ty,pos,aft,none⟩::l) e F L:=Lst.store rfl rfl hx hy hL hs hv hl h1 hp hL' k
end
abbrev mii (b:Nat) (m:List (Int×Int)):Item:=mitem b (fun x:Int=>(iv x:Value)) (fun x:Int=>(iv x:Value)) m
end Go.Proofs.YtchmclllcdknjaaGreatDoor
