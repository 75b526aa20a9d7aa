/-
  Arrays of slices: each entry's handle lies in the array; the rows are owned or frozen.
-/
import Derived.Test.YtchmclllcdknjaaGreatDoorGoK
namespace Go.Proofs.YtchmclllcdknjaaGreatDoor
open Go.RowKit Enc
theorem vmap_get {ρ α:Type} {f:ρ→α} {m:Nat} {rs:Vector ρ m} {xs:Vector α m} (hm:rs.toList.map f=xs.toList) {i:Nat} {x:α} (hx:xs[i]? = some x):∃ r,rs[i]? = some r∧f r=x∧r∈rs.toList∧rs.toList[i]? = some r:=by
  obtain ⟨r,h1,h2,h3⟩:=map_get hm (i:=i) (x:=x) (by simpa using hx)
  exact ⟨r,by simpa using h1,h2,h3,h1⟩
theorem vmap_set {ρ α:Type} {f:ρ→α} {m:Nat} {rs:Vector ρ m} {xs:Vector α m} (hm:rs.toList.map f=xs.toList) (i:Nat) (r:ρ):(rs.setIfInBounds i r).toList.map f=(xs.setIfInBounds i (f r)).toList:=by
  rw [Vector.toList_setIfInBounds,Vector.toList_setIfInBounds,map_set hm]
theorem vmap_rep {ρ α:Type} {f:ρ→α} (k:Nat) (r:ρ):(Vector.replicate k r).toList.map f=(Vector.replicate k (f r)).toList:=by simp
theorem vAll_set {ρ:Type} {rel:World→Frz→List Item→ρ→Prop} {w0:World} {F:Frz} {L:List Item} {m:Nat} {rs:Vector ρ m} {x:ρ} {i:Nat} (h:All rel w0 F L rs.toList) (hx:rel w0 F L x):All rel w0 F L (rs.setIfInBounds i x).toList:=by
  rw [Vector.toList_setIfInBounds]; exact All.set h hx
theorem vAll_rep {ρ:Type} {rel:World→Frz→List Item→ρ→Prop} {w0:World} {F:Frz} {L:List Item} {x:ρ} {k:Nat} (hx:rel w0 F L x):All rel w0 F L (Vector.replicate k x).toList:=by
  rw [Vector.toList_replicate]; exact All.rep hx
theorem map_at {α β:Type} (f:α→β) {l:List α} {i:Nat} {x:α} (h:l[i]? = some x):(List.map f l)[i]? = some (f x):=by rw [List.getElem?_map,h]; rfl
theorem map_set_same {α β:Type} {f:α→β} {l:List α} {i:Nat} {x y:α} (h:l[i]? = some x) (e:f y=f x):List.map f (l.set i y)=List.map f l:=by
  rw [List.map_set,e]
  exact set_self (map_at f h)
theorem map_set_in {α β:Type} {f:α→β} {l:List α} {i:Nat} {y:α} {a b:β} (e:f y=b):((List.map f l).set i a).set i b=List.map f (l.set i y):=by
  rw [List.set_set,List.map_set,e]
def Among {α:Type} (R O:List (LR α)) (s:Sl) (l:List α):Prop:=(s=Sl.nil∧l=[])∨(⟨l,s⟩:LR α)∈R∨(⟨l,s⟩:LR α)∈O
theorem Among.nil {α:Type} {R O:List (LR α)}:Among R O Sl.nil []:=.inl ⟨rfl,rfl⟩
theorem Among.row {α:Type} {R O:List (LR α)} {k:Nat} {s:Sl} {l:List α} (h:R[k]? = some ⟨l,s⟩):Among R O s l:=.inr (.inl (List.mem_of_getElem? h))
theorem Among.set {α:Type} {R O:List (LR α)} {k:Nat} {s:Sl} {l:List α} {r y:LR α} (h:Among R O s l) (hr:R[k]? = some r):Among (R.set k y) (O++[r]) s l:=by
  rcases h with h | h | h
  · exact .inl h
  · obtain ⟨j,hj⟩:=List.getElem?_of_mem h
    by_cases e:j=k
    · subst e
      rw [hr] at hj
      cases hj
      exact .inr (.inr (by simp))
    · refine .inr (.inl (List.mem_of_getElem? (i:=j) ?_))
      rw [List.getElem?_set,if_neg (fun h=>e h.symm)]; exact hj
  · exact .inr (.inr (List.mem_append_left _ h))
theorem Rd.among {α:Type} [Enc α] {w0:World} {F:Frz} {L:List Item} {i j:Nat} {u t:TypeId} {R O:List (LR α)} {s:Sl} {l:List α} (hR:L[i]? = some (.rows u R)) (hO:L[j]? = some (.rows t O)) (h:Among R O s l):Rd w0 F L s l:=by
  rcases h with ⟨rfl,rfl⟩ | h | h
  · exact Rd.nil
  · obtain ⟨k,hk⟩:=List.getElem?_of_mem h
    exact Rd.row hR hk
  · obtain ⟨k,hk⟩:=List.getElem?_of_mem h
    exact Rd.row hO hk
section
variable {P:Program} {n:Nat} {w0:World} {ops:Array Oper} {Q:Exit→Act→World→Prop} {l:List Oper} {e:List (Nat×Value)} {F:Frz} {L L':List Item}
theorem Cd.rowsNil {c:Code} (α:Type) [Enc α] (u:TypeId) (k:Nat) (h:Cd P n w0 Q c e F (.rows u (List.replicate k (⟨[],Sl.nil⟩:LR α))::L)):Cd P n w0 Q c e F L:=fun a w ha hw=>h a w ha hw.rowsNil
theorem At.rowsNil {x:Exit} (α:Type) [Enc α] (u:TypeId) (k:Nat) (h:At n w0 Q x e F (.rows u (List.replicate k (⟨[],Sl.nil⟩:LR α))::L)):At n w0 Q x e F L:=fun a w ha hw=>h a w ha hw.rowsNil
end
end Go.Proofs.YtchmclllcdknjaaGreatDoor
