/-
  Plain facts on the specs' loops.
-/
import Derived.Test.YtchmclllcdknjaaGreatDoorGoC
namespace Go.Proofs.YtchmclllcdknjaaGreatDoor
open Enc
theorem vat_nat {α:Type} {m:Nat} (v:Vector α m) (i:Nat):vat v (i:Int)=v[i]?:=by simp [vat]
theorem lat_nat {α:Type} (l:List α) (i:Nat):lat l (i:Int)=l[i]?:=by simp [lat]
theorem vat_lt {α:Type} {m:Nat} (v:Vector α m) {i:Nat} (h:i < m):vat v (i:Int)=some v[i]:=by rw [vat_nat]; simp [h]
theorem vat_in {α:Type} {m:Nat} (v:Vector α m) {i:Int} (h0:0≤i) (h:i < m):∃ x,vat v i=some x:=by
  obtain ⟨k,rfl⟩:=Int.eq_ofNat_of_zero_le h0
  exact ⟨v[k]'(by omega),vat_lt v (by omega)⟩
theorem or_some (c x:Bool):(bif c then some true else some x)=some (c||x):=by cases c <;> rfl
theorem and_some (c x:Bool):(bif c then some x else some false)=some (c&&x):=by cases c <;> rfl
theorem cond_some {α:Type} (c:Bool) (x y:α):(bif c then some x else some y)=some (bif c then x else y):=by cases c <;> rfl
theorem rangeF_two {σ:Type} {f g:Nat→σ→Option σ} (I:Nat→σ→Prop):∀ (k i:Nat) (s:σ),I i s→(∀ j s,i≤j→j < i+k→I j s→f j s=g j s∧∃ s',g j s=some s'∧I (j+1) s')→rangeF f k i s=rangeF g k i s∧∃ s',rangeF g k i s=some s'∧I (i+k) s'
  | 0,i,s,h,_=>⟨rfl,s,rfl,h⟩
  | k+1,i,s,h,hb=>by
    obtain ⟨h0,s1,h1,h2⟩:=hb i s (by omega) (by omega) h
    obtain ⟨e,s2,h3,h4⟩:=rangeF_two I k (i+1) s1 h2 fun j s a b=>hb j s (by omega) (by omega)
    refine ⟨?_,s2,by unfold rangeF; rw [h1]; exact h3,by rw [show i+(k+1)=i+1+k by omega]; exact h4⟩
    unfold rangeF
    rw [h0,h1]
    exact e
theorem andThen_inl {σ τ:Type} {s:σ} {f:σ→Option τ}:andThen (some (.inl s)) f=f s:=rfl
theorem room_ok {α:Type} {l m:List α} (h:l.length+m.length≤2 ^ 40):room l m=some ():=by simp [room,h]
theorem upTo_ok {n:Int} (h:n≤2 ^ 63 - 1):upTo n=some n.toNat:=by unfold upTo; rw [if_pos h]
end Go.Proofs.YtchmclllcdknjaaGreatDoor
