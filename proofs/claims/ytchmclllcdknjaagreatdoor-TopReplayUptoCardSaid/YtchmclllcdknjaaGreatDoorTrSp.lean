/-
  What the functions compute, typed; printed by a program.
-/
import Derived.Test.YtchmclllcdknjaaGreatDoorGoI
import Derived.Test.YtchmclllcdknjaaGreatDoorGoS
import Derived.Test.YtchmclllcdknjaaGreatDoorGoX
import Derived.Test.YtchmclllcdknjaaGreatDoorGoZ
namespace Go.Proofs.YtchmclllcdknjaaGreatDoor
open Go.RowKit Enc
set_option linter.unusedVariables false
set_option linter.unusedSimpArgs false
structure Deed where
  Kind : Int
  Who : Int
  How : Int
  Text : Str
instance : DecidableEq Deed := fun a b => decidable_of_iff (a.Kind = b.Kind ∧ a.Who = b.Who ∧ a.How = b.How ∧ a.Text = b.Text) (by cases a; cases b; simp)
def Deed.zero : Deed := ⟨(0 : Int), (0 : Int), (0 : Int), ([] : Str)⟩
instance : Enc Deed := ⟨fun p => enc p.Kind ++ (enc p.Who ++ (enc p.How ++ (enc p.Text))), 4, fun p => by simp only [List.length_append, Enc.len]; rfl, fun p => by simp only [List.all_append, Enc.one, Bool.and_self]⟩
theorem Deed.get_Kind {p : Deed} {k : Nat} {ch : List Value} (h : Get (enc p.Kind) k ch) : Get (enc p) (0 + k) ch := Get.off (Get.left h) (by omega)
theorem Deed.put_Kind {p : Deed} {k : Nat} {vs : List Value} {y : Int} (h : Put (enc p.Kind) k vs (enc y)) : Put (enc p) (0 + k) vs (enc ({ p with Kind := y } : Deed)) := Put.off (cs' := enc ({ p with Kind := y } : Deed)) (Put.left h) (by omega)
theorem Deed.get_Who {p : Deed} {k : Nat} {ch : List Value} (h : Get (enc p.Who) k ch) : Get (enc p) (1 + k) ch := Get.off (Get.right (m := 1) (Enc.len _) (Get.left h)) (by omega)
theorem Deed.put_Who {p : Deed} {k : Nat} {vs : List Value} {y : Int} (h : Put (enc p.Who) k vs (enc y)) : Put (enc p) (1 + k) vs (enc ({ p with Who := y } : Deed)) := Put.off (cs' := enc ({ p with Who := y } : Deed)) (Put.right (m := 1) (Enc.len _) (Put.left h)) (by omega)
theorem Deed.get_How {p : Deed} {k : Nat} {ch : List Value} (h : Get (enc p.How) k ch) : Get (enc p) (2 + k) ch := Get.off (Get.right (m := 1) (Enc.len _) (Get.right (m := 1) (Enc.len _) (Get.left h))) (by omega)
theorem Deed.put_How {p : Deed} {k : Nat} {vs : List Value} {y : Int} (h : Put (enc p.How) k vs (enc y)) : Put (enc p) (2 + k) vs (enc ({ p with How := y } : Deed)) := Put.off (cs' := enc ({ p with How := y } : Deed)) (Put.right (m := 1) (Enc.len _) (Put.right (m := 1) (Enc.len _) (Put.left h))) (by omega)
theorem Deed.get_Text {p : Deed} {k : Nat} {ch : List Value} (h : Get (enc p.Text) k ch) : Get (enc p) (3 + k) ch := Get.off (Get.right (m := 1) (Enc.len _) (Get.right (m := 1) (Enc.len _) (Get.right (m := 1) (Enc.len _) h))) (by omega)
theorem Deed.put_Text {p : Deed} {k : Nat} {vs : List Value} {y : Str} (h : Put (enc p.Text) k vs (enc y)) : Put (enc p) (3 + k) vs (enc ({ p with Text := y } : Deed)) := Put.off (cs' := enc ({ p with Text := y } : Deed)) (Put.right (m := 1) (Enc.len _) (Put.right (m := 1) (Enc.len _) (Put.right (m := 1) (Enc.len _) h))) (by omega)
instance : Rng Deed := ⟨fun p => Rng.ok p.Kind ∧ Rng.ok p.Who ∧ Rng.ok p.How ∧ Rng.ok p.Text⟩
instance : Bnd Deed := ⟨fun B p => Bnd.ok B p.Kind ∧ Bnd.ok B p.Who ∧ Bnd.ok B p.How ∧ Bnd.ok B p.Text⟩
structure View where
  Num : Int
  Members : BitVec 8
instance : DecidableEq View := fun a b => decidable_of_iff (a.Num = b.Num ∧ a.Members = b.Members) (by cases a; cases b; simp)
def View.zero : View := ⟨(0 : Int), (0 : BitVec 8)⟩
instance : Enc View := ⟨fun p => enc p.Num ++ (enc p.Members), 2, fun p => by simp only [List.length_append, Enc.len]; rfl, fun p => by simp only [List.all_append, Enc.one, Bool.and_self]⟩
theorem View.get_Num {p : View} {k : Nat} {ch : List Value} (h : Get (enc p.Num) k ch) : Get (enc p) (0 + k) ch := Get.off (Get.left h) (by omega)
theorem View.put_Num {p : View} {k : Nat} {vs : List Value} {y : Int} (h : Put (enc p.Num) k vs (enc y)) : Put (enc p) (0 + k) vs (enc ({ p with Num := y } : View)) := Put.off (cs' := enc ({ p with Num := y } : View)) (Put.left h) (by omega)
theorem View.get_Members {p : View} {k : Nat} {ch : List Value} (h : Get (enc p.Members) k ch) : Get (enc p) (1 + k) ch := Get.off (Get.right (m := 1) (Enc.len _) h) (by omega)
theorem View.put_Members {p : View} {k : Nat} {vs : List Value} {y : BitVec 8} (h : Put (enc p.Members) k vs (enc y)) : Put (enc p) (1 + k) vs (enc ({ p with Members := y } : View)) := Put.off (cs' := enc ({ p with Members := y } : View)) (Put.right (m := 1) (Enc.len _) h) (by omega)
instance : Rng View := ⟨fun p => Rng.ok p.Num ∧ Rng.ok p.Members⟩
instance : Bnd View := ⟨fun B p => Bnd.ok B p.Num ∧ Bnd.ok B p.Members⟩
structure Saying where
  From : Int
  Text : Str
instance : DecidableEq Saying := fun a b => decidable_of_iff (a.From = b.From ∧ a.Text = b.Text) (by cases a; cases b; simp)
def Saying.zero : Saying := ⟨(0 : Int), ([] : Str)⟩
instance : Enc Saying := ⟨fun p => enc p.From ++ (enc p.Text), 2, fun p => by simp only [List.length_append, Enc.len]; rfl, fun p => by simp only [List.all_append, Enc.one, Bool.and_self]⟩
theorem Saying.get_From {p : Saying} {k : Nat} {ch : List Value} (h : Get (enc p.From) k ch) : Get (enc p) (0 + k) ch := Get.off (Get.left h) (by omega)
theorem Saying.put_From {p : Saying} {k : Nat} {vs : List Value} {y : Int} (h : Put (enc p.From) k vs (enc y)) : Put (enc p) (0 + k) vs (enc ({ p with From := y } : Saying)) := Put.off (cs' := enc ({ p with From := y } : Saying)) (Put.left h) (by omega)
theorem Saying.get_Text {p : Saying} {k : Nat} {ch : List Value} (h : Get (enc p.Text) k ch) : Get (enc p) (1 + k) ch := Get.off (Get.right (m := 1) (Enc.len _) h) (by omega)
theorem Saying.put_Text {p : Saying} {k : Nat} {vs : List Value} {y : Str} (h : Put (enc p.Text) k vs (enc y)) : Put (enc p) (1 + k) vs (enc ({ p with Text := y } : Saying)) := Put.off (cs' := enc ({ p with Text := y } : Saying)) (Put.right (m := 1) (Enc.len _) h) (by omega)
instance : Rng Saying := ⟨fun p => Rng.ok p.From ∧ Rng.ok p.Text⟩
instance : Bnd Saying := ⟨fun B p => Bnd.ok B p.From ∧ Bnd.ok B p.Text⟩
structure From where
  Base : Int
  Late : List Str
instance : DecidableEq From := fun a b => decidable_of_iff (a.Base = b.Base ∧ a.Late = b.Late) (by cases a; cases b; simp)
def From.zero : From := ⟨(0 : Int), []⟩
instance : Rng From := ⟨fun p => Rng.ok p.Base ∧ Rng.ok p.Late⟩
instance : Bnd From := ⟨fun B p => Bnd.ok B p.Base ∧ Bnd.ok B p.Late⟩
structure Parcel where
  Seq : Int
  Text : Str
instance : DecidableEq Parcel := fun a b => decidable_of_iff (a.Seq = b.Seq ∧ a.Text = b.Text) (by cases a; cases b; simp)
def Parcel.zero : Parcel := ⟨(0 : Int), ([] : Str)⟩
instance : Enc Parcel := ⟨fun p => enc p.Seq ++ (enc p.Text), 2, fun p => by simp only [List.length_append, Enc.len]; rfl, fun p => by simp only [List.all_append, Enc.one, Bool.and_self]⟩
theorem Parcel.get_Seq {p : Parcel} {k : Nat} {ch : List Value} (h : Get (enc p.Seq) k ch) : Get (enc p) (0 + k) ch := Get.off (Get.left h) (by omega)
theorem Parcel.put_Seq {p : Parcel} {k : Nat} {vs : List Value} {y : Int} (h : Put (enc p.Seq) k vs (enc y)) : Put (enc p) (0 + k) vs (enc ({ p with Seq := y } : Parcel)) := Put.off (cs' := enc ({ p with Seq := y } : Parcel)) (Put.left h) (by omega)
theorem Parcel.get_Text {p : Parcel} {k : Nat} {ch : List Value} (h : Get (enc p.Text) k ch) : Get (enc p) (1 + k) ch := Get.off (Get.right (m := 1) (Enc.len _) h) (by omega)
theorem Parcel.put_Text {p : Parcel} {k : Nat} {vs : List Value} {y : Str} (h : Put (enc p.Text) k vs (enc y)) : Put (enc p) (1 + k) vs (enc ({ p with Text := y } : Parcel)) := Put.off (cs' := enc ({ p with Text := y } : Parcel)) (Put.right (m := 1) (Enc.len _) h) (by omega)
instance : Rng Parcel := ⟨fun p => Rng.ok p.Seq ∧ Rng.ok p.Text⟩
instance : Bnd Parcel := ⟨fun B p => Bnd.ok B p.Seq ∧ Bnd.ok B p.Text⟩
structure To where
  Next : Int
  Early : List Parcel
instance : DecidableEq To := fun a b => decidable_of_iff (a.Next = b.Next ∧ a.Early = b.Early) (by cases a; cases b; simp)
def To.zero : To := ⟨(0 : Int), []⟩
instance : Rng To := ⟨fun p => Rng.ok p.Next ∧ Rng.ok p.Early⟩
instance : Bnd To := ⟨fun B p => Bnd.ok B p.Next ∧ Bnd.ok B p.Early⟩
structure Procs where
  fallen : Bool
  log : List Saying
  from_ : From
  to : To
  orders : To
instance : DecidableEq Procs := fun a b => decidable_of_iff (a.fallen = b.fallen ∧ a.log = b.log ∧ a.from_ = b.from_ ∧ a.to = b.to ∧ a.orders = b.orders) (by cases a; cases b; simp)
def Procs.zero : Procs := ⟨false, [], From.zero, To.zero, To.zero⟩
instance : Rng Procs := ⟨fun p => Rng.ok p.fallen ∧ Rng.ok p.log ∧ Rng.ok p.from_ ∧ Rng.ok p.to ∧ Rng.ok p.orders⟩
instance : Bnd Procs := ⟨fun B p => Bnd.ok B p.fallen ∧ Bnd.ok B p.log ∧ Bnd.ok B p.from_ ∧ Bnd.ok B p.to ∧ Bnd.ok B p.orders⟩
structure Wld where
  view : View
  all : List Procs
  ordered : List Str
  way : List Str
instance : DecidableEq Wld := fun a b => decidable_of_iff (a.view = b.view ∧ a.all = b.all ∧ a.ordered = b.ordered ∧ a.way = b.way) (by cases a; cases b; simp)
def Wld.zero : Wld := ⟨View.zero, [], [], []⟩
instance : Rng Wld := ⟨fun p => Rng.ok p.view ∧ Rng.ok p.all ∧ Rng.ok p.ordered ∧ Rng.ok p.way⟩
instance : Bnd Wld := ⟨fun B p => Bnd.ok B p.view ∧ Bnd.ok B p.all ∧ Bnd.ok B p.ordered ∧ Bnd.ok B p.way⟩
structure Note where
  Kind : Int
  From : Int
  To : Int
  View : Int
  Seq : Int
  At : Vector Int 6
  Text : Str
instance : DecidableEq Note := fun a b => decidable_of_iff (a.Kind = b.Kind ∧ a.From = b.From ∧ a.To = b.To ∧ a.View = b.View ∧ a.Seq = b.Seq ∧ a.At = b.At ∧ a.Text = b.Text) (by cases a; cases b; simp)
def Note.zero : Note := ⟨(0 : Int), (0 : Int), (0 : Int), (0 : Int), (0 : Int), (Vector.replicate 6 (0 : Int)), ([] : Str)⟩
instance : Enc Note := ⟨fun p => enc p.Kind ++ (enc p.From ++ (enc p.To ++ (enc p.View ++ (enc p.Seq ++ (enc p.At ++ (enc p.Text)))))), 12, fun p => by simp only [List.length_append, Enc.len]; rfl, fun p => by simp only [List.all_append, Enc.one, Bool.and_self]⟩
theorem Note.get_Kind {p : Note} {k : Nat} {ch : List Value} (h : Get (enc p.Kind) k ch) : Get (enc p) (0 + k) ch := Get.off (Get.left h) (by omega)
theorem Note.put_Kind {p : Note} {k : Nat} {vs : List Value} {y : Int} (h : Put (enc p.Kind) k vs (enc y)) : Put (enc p) (0 + k) vs (enc ({ p with Kind := y } : Note)) := Put.off (cs' := enc ({ p with Kind := y } : Note)) (Put.left h) (by omega)
theorem Note.get_From {p : Note} {k : Nat} {ch : List Value} (h : Get (enc p.From) k ch) : Get (enc p) (1 + k) ch := Get.off (Get.right (m := 1) (Enc.len _) (Get.left h)) (by omega)
theorem Note.put_From {p : Note} {k : Nat} {vs : List Value} {y : Int} (h : Put (enc p.From) k vs (enc y)) : Put (enc p) (1 + k) vs (enc ({ p with From := y } : Note)) := Put.off (cs' := enc ({ p with From := y } : Note)) (Put.right (m := 1) (Enc.len _) (Put.left h)) (by omega)
theorem Note.get_To {p : Note} {k : Nat} {ch : List Value} (h : Get (enc p.To) k ch) : Get (enc p) (2 + k) ch := Get.off (Get.right (m := 1) (Enc.len _) (Get.right (m := 1) (Enc.len _) (Get.left h))) (by omega)
theorem Note.put_To {p : Note} {k : Nat} {vs : List Value} {y : Int} (h : Put (enc p.To) k vs (enc y)) : Put (enc p) (2 + k) vs (enc ({ p with To := y } : Note)) := Put.off (cs' := enc ({ p with To := y } : Note)) (Put.right (m := 1) (Enc.len _) (Put.right (m := 1) (Enc.len _) (Put.left h))) (by omega)
theorem Note.get_View {p : Note} {k : Nat} {ch : List Value} (h : Get (enc p.View) k ch) : Get (enc p) (3 + k) ch := Get.off (Get.right (m := 1) (Enc.len _) (Get.right (m := 1) (Enc.len _) (Get.right (m := 1) (Enc.len _) (Get.left h)))) (by omega)
theorem Note.put_View {p : Note} {k : Nat} {vs : List Value} {y : Int} (h : Put (enc p.View) k vs (enc y)) : Put (enc p) (3 + k) vs (enc ({ p with View := y } : Note)) := Put.off (cs' := enc ({ p with View := y } : Note)) (Put.right (m := 1) (Enc.len _) (Put.right (m := 1) (Enc.len _) (Put.right (m := 1) (Enc.len _) (Put.left h)))) (by omega)
theorem Note.get_Seq {p : Note} {k : Nat} {ch : List Value} (h : Get (enc p.Seq) k ch) : Get (enc p) (4 + k) ch := Get.off (Get.right (m := 1) (Enc.len _) (Get.right (m := 1) (Enc.len _) (Get.right (m := 1) (Enc.len _) (Get.right (m := 1) (Enc.len _) (Get.left h))))) (by omega)
theorem Note.put_Seq {p : Note} {k : Nat} {vs : List Value} {y : Int} (h : Put (enc p.Seq) k vs (enc y)) : Put (enc p) (4 + k) vs (enc ({ p with Seq := y } : Note)) := Put.off (cs' := enc ({ p with Seq := y } : Note)) (Put.right (m := 1) (Enc.len _) (Put.right (m := 1) (Enc.len _) (Put.right (m := 1) (Enc.len _) (Put.right (m := 1) (Enc.len _) (Put.left h))))) (by omega)
theorem Note.get_At {p : Note} {k : Nat} {ch : List Value} (h : Get (enc p.At) k ch) : Get (enc p) (5 + k) ch := Get.off (Get.right (m := 1) (Enc.len _) (Get.right (m := 1) (Enc.len _) (Get.right (m := 1) (Enc.len _) (Get.right (m := 1) (Enc.len _) (Get.right (m := 1) (Enc.len _) (Get.left h)))))) (by omega)
theorem Note.put_At {p : Note} {k : Nat} {vs : List Value} {y : Vector Int 6} (h : Put (enc p.At) k vs (enc y)) : Put (enc p) (5 + k) vs (enc ({ p with At := y } : Note)) := Put.off (cs' := enc ({ p with At := y } : Note)) (Put.right (m := 1) (Enc.len _) (Put.right (m := 1) (Enc.len _) (Put.right (m := 1) (Enc.len _) (Put.right (m := 1) (Enc.len _) (Put.right (m := 1) (Enc.len _) (Put.left h)))))) (by omega)
theorem Note.get_Text {p : Note} {k : Nat} {ch : List Value} (h : Get (enc p.Text) k ch) : Get (enc p) (11 + k) ch := Get.off (Get.right (m := 1) (Enc.len _) (Get.right (m := 1) (Enc.len _) (Get.right (m := 1) (Enc.len _) (Get.right (m := 1) (Enc.len _) (Get.right (m := 1) (Enc.len _) (Get.right (m := 6) (Enc.len _) h)))))) (by omega)
theorem Note.put_Text {p : Note} {k : Nat} {vs : List Value} {y : Str} (h : Put (enc p.Text) k vs (enc y)) : Put (enc p) (11 + k) vs (enc ({ p with Text := y } : Note)) := Put.off (cs' := enc ({ p with Text := y } : Note)) (Put.right (m := 1) (Enc.len _) (Put.right (m := 1) (Enc.len _) (Put.right (m := 1) (Enc.len _) (Put.right (m := 1) (Enc.len _) (Put.right (m := 1) (Enc.len _) (Put.right (m := 6) (Enc.len _) h)))))) (by omega)
instance : Rng Note := ⟨fun p => Rng.ok p.Kind ∧ Rng.ok p.From ∧ Rng.ok p.To ∧ Rng.ok p.View ∧ Rng.ok p.Seq ∧ Rng.ok p.At ∧ Rng.ok p.Text⟩
instance : Bnd Note := ⟨fun B p => Bnd.ok B p.Kind ∧ Bnd.ok B p.From ∧ Bnd.ok B p.To ∧ Bnd.ok B p.View ∧ Bnd.ok B p.Seq ∧ Bnd.ok B p.At ∧ Bnd.ok B p.Text⟩
structure Cmd where
  Kind : Int
  Key : Int
  N : Int
instance : DecidableEq Cmd := fun a b => decidable_of_iff (a.Kind = b.Kind ∧ a.Key = b.Key ∧ a.N = b.N) (by cases a; cases b; simp)
def Cmd.zero : Cmd := ⟨(0 : Int), (0 : Int), (0 : Int)⟩
instance : Enc Cmd := ⟨fun p => enc p.Kind ++ (enc p.Key ++ (enc p.N)), 3, fun p => by simp only [List.length_append, Enc.len]; rfl, fun p => by simp only [List.all_append, Enc.one, Bool.and_self]⟩
theorem Cmd.get_Kind {p : Cmd} {k : Nat} {ch : List Value} (h : Get (enc p.Kind) k ch) : Get (enc p) (0 + k) ch := Get.off (Get.left h) (by omega)
theorem Cmd.put_Kind {p : Cmd} {k : Nat} {vs : List Value} {y : Int} (h : Put (enc p.Kind) k vs (enc y)) : Put (enc p) (0 + k) vs (enc ({ p with Kind := y } : Cmd)) := Put.off (cs' := enc ({ p with Kind := y } : Cmd)) (Put.left h) (by omega)
theorem Cmd.get_Key {p : Cmd} {k : Nat} {ch : List Value} (h : Get (enc p.Key) k ch) : Get (enc p) (1 + k) ch := Get.off (Get.right (m := 1) (Enc.len _) (Get.left h)) (by omega)
theorem Cmd.put_Key {p : Cmd} {k : Nat} {vs : List Value} {y : Int} (h : Put (enc p.Key) k vs (enc y)) : Put (enc p) (1 + k) vs (enc ({ p with Key := y } : Cmd)) := Put.off (cs' := enc ({ p with Key := y } : Cmd)) (Put.right (m := 1) (Enc.len _) (Put.left h)) (by omega)
theorem Cmd.get_N {p : Cmd} {k : Nat} {ch : List Value} (h : Get (enc p.N) k ch) : Get (enc p) (2 + k) ch := Get.off (Get.right (m := 1) (Enc.len _) (Get.right (m := 1) (Enc.len _) h)) (by omega)
theorem Cmd.put_N {p : Cmd} {k : Nat} {vs : List Value} {y : Int} (h : Put (enc p.N) k vs (enc y)) : Put (enc p) (2 + k) vs (enc ({ p with N := y } : Cmd)) := Put.off (cs' := enc ({ p with N := y } : Cmd)) (Put.right (m := 1) (Enc.len _) (Put.right (m := 1) (Enc.len _) h)) (by omega)
instance : Rng Cmd := ⟨fun p => Rng.ok p.Kind ∧ Rng.ok p.Key ∧ Rng.ok p.N⟩
instance : Bnd Cmd := ⟨fun B p => Bnd.ok B p.Kind ∧ Bnd.ok B p.Key ∧ Bnd.ok B p.N⟩
def world_in (a0 : Int) (a1 : Int) (a2 : Int) : Option Bool :=
 (bif decide (a0 ≥ a1) then (some (decide (a0 ≤ a2))) else
 some false).bind fun y2 =>
 some y2
def world_New (a0 : Int) : Option (Wld × Int) :=
 (world_in a0 (1 : Int) (6 : Int)).bind fun r1 =>
 bif !r1 then (none) else
 (cnt a0).bind fun n6 =>
 (mkLen a0).bind fun n9 =>
 Let (List.replicate n9 Procs.zero) fun l19 =>
 some (({ Wld.zero with view := ({ View.zero with Members := ((1 : BitVec 8) <<< n6) - (1 : BitVec 8) } : View), all := l19, ordered := ([] : List Str), way := ([] : List Str) } : Wld), (0 : Int))
def strconv_Itoa (a0 : Int) : Option Str := itoaR a0
def world_World_known (a0 : Wld) (a1 : Int) : Option Int :=
 (world_in a1 (0 : Int) (w64 ((a0.all.length : Int) - (1 : Int)))).bind fun r7 =>
 bif !r7 then (some (1 : Int)) else
 some (0 : Int)
def world_World_active (a0 : Wld) (a1 : Int) : Option Bool :=
 (world_in a1 (0 : Int) (w64 ((a0.all.length : Int) - (1 : Int)))).bind fun r7 =>
 (bif r7 then ((cnt a1).bind fun n14 =>
 some ((((a0.view.Members >>> n14) &&& (1 : BitVec 8)).toNat : Int) == ((1 : BitVec 8).toNat : Int))) else
 some false).bind fun y12 =>
 (bif y12 then ((lat a0.all a1).bind fun x22 =>
 some (!x22.fallen)) else
 some false).bind fun y20 =>
 some y20
def world_World_working (a0 : Wld) (a1 : Int) : Option Int :=
 (world_World_known a0 a1).bind fun r6 =>
 bif r6 != (0 : Int) then (some r6) else
 (world_World_active a0 a1).bind fun r11 =>
 bif !r11 then (some (11 : Int)) else
 some (0 : Int)
def lane_in (a0 : Int) (a1 : Int) (a2 : Int) : Option Bool :=
 (bif decide (a0 ≥ a1) then (some (decide (a0 ≤ a2))) else
 some false).bind fun y2 =>
 some y2
def lane_long (a0 : Str) : Option Bool :=
 some (decide ((a0.length : Int) > (200 : Int)))
def slices_IndexFunc_string_string_lane_long_B0 (a0 : List Str) (i1 : Nat) (z1 : Unit) : Option (Ctl Unit Int) :=
 (lat a0 (i1 : Int)).bind fun x4 =>
 (lane_long x4).bind fun r7 =>
 bif r7 then (some (.ret (i1 : Int))) else
 some (.go ())
def slices_IndexFunc_string_string_lane_long (a0 : List Str) : Option Int :=
 andThen (rangeM (slices_IndexFunc_string_string_lane_long_B0 a0) a0.length 0 ()) fun _ =>
 some (-1 : Int)
def slices_ContainsFunc_string_string_lane_long (a0 : List Str) : Option Bool :=
 (slices_IndexFunc_string_string_lane_long a0).bind fun r1 =>
 some (decide (r1 ≥ (0 : Int)))
def lane_CheckFrom (a0 : From) : Option Int :=
 (lane_in a0.Base (0 : Int) (16777215 : Int)).bind fun r3 =>
 (bif !r3 then (some true) else
 some (decide ((a0.Late.length : Int) > (16 : Int)))).bind fun y8 =>
 bif y8 then (some (1 : Int)) else
 (slices_ContainsFunc_string_string_lane_long a0.Late).bind fun r13 =>
 bif r13 then (some (2 : Int)) else
 some (0 : Int)
def slices_Clone_string_string (a0 : List Str) : Option (List Str) :=
 (room ([] : List Str) a0).bind fun u5 =>
 some (([] : List Str) ++ a0)
def lane_Put (a0 : From) (a1 : Str) : Option (From × Int) :=
 (lane_CheckFrom a0).bind fun r6 =>
 bif r6 != (0 : Int) then (some (({ From.zero with Late := ([] : List Str) } : From), r6)) else
 (lane_long a1).bind fun r12 =>
 bif r12 then (some (({ From.zero with Late := ([] : List Str) } : From), (2 : Int))) else
 (bif (a0.Late.length : Int) == (16 : Int) then (some true) else
 some (decide ((w64 (a0.Base + (a0.Late.length : Int))) ≥ (16777215 : Int)))).bind fun y19 =>
 bif y19 then (some (({ From.zero with Late := ([] : List Str) } : From), (8 : Int))) else
 (slices_Clone_string_string a0.Late).bind fun r25 =>
 (room r25 ([a1] : List Str)).bind fun u33 =>
 Let (r25 ++ ([a1] : List Str)) fun l38 =>
 some (({ From.zero with Base := a0.Base, Late := l38 } : From), (0 : Int))
def view_outside (a0 : BitVec 8) : Option Bool :=
 some (((a0 >>> 6).toNat : Int) != ((0 : BitVec 8).toNat : Int))
def view_Check (a0 : View) : Option Int :=
 (bif decide (a0.Num < (0 : Int)) then (some true) else
 some (decide (a0.Num > (16777215 : Int)))).bind fun y4 =>
 (bif y4 then (some true) else
 some ((a0.Members.toNat : Int) == ((0 : BitVec 8).toNat : Int))).bind fun y9 =>
 (bif y9 then (some true) else
 (view_outside a0.Members).bind fun r16 =>
 some r16).bind fun y14 =>
 bif y14 then (some (1 : Int)) else
 some (0 : Int)
def math_bits_TrailingZeros8 (a0 : BitVec 8) : Option Int :=
 (lat ([8, 0, 1, 0, 2, 0, 1, 0, 3, 0, 1, 0, 2, 0, 1, 0, 4, 0, 1, 0, 2, 0, 1, 0, 3, 0, 1, 0, 2, 0, 1, 0, 5, 0, 1, 0, 2, 0, 1, 0, 3, 0, 1, 0, 2, 0, 1, 0, 4, 0, 1, 0, 2, 0, 1, 0, 3, 0, 1, 0, 2, 0, 1, 0, 6, 0, 1, 0, 2, 0, 1, 0, 3, 0, 1, 0, 2, 0, 1, 0, 4, 0, 1, 0, 2, 0, 1, 0, 3, 0, 1, 0, 2, 0, 1, 0, 5, 0, 1, 0, 2, 0, 1, 0, 3, 0, 1, 0, 2, 0, 1, 0, 4, 0, 1, 0, 2, 0, 1, 0, 3, 0, 1, 0, 2, 0, 1, 0, 7, 0, 1, 0, 2, 0, 1, 0, 3, 0, 1, 0, 2, 0, 1, 0, 4, 0, 1, 0, 2, 0, 1, 0, 3, 0, 1, 0, 2, 0, 1, 0, 5, 0, 1, 0, 2, 0, 1, 0, 3, 0, 1, 0, 2, 0, 1, 0, 4, 0, 1, 0, 2, 0, 1, 0, 3, 0, 1, 0, 2, 0, 1, 0, 6, 0, 1, 0, 2, 0, 1, 0, 3, 0, 1, 0, 2, 0, 1, 0, 4, 0, 1, 0, 2, 0, 1, 0, 3, 0, 1, 0, 2, 0, 1, 0, 5, 0, 1, 0, 2, 0, 1, 0, 3, 0, 1, 0, 2, 0, 1, 0, 4, 0, 1, 0, 2, 0, 1, 0, 3, 0, 1, 0, 2, 0, 1, 0] : Str) (a0.toNat : Int)).bind fun x1 =>
 some (x1.toBitVec.toNat : Int)
def view_First (a0 : View) : Option (Int × Int) :=
 (view_Check a0).bind fun r3 =>
 bif r3 != (0 : Int) then (some ((0 : Int), r3)) else
 (math_bits_TrailingZeros8 a0.Members).bind fun r8 =>
 some (r8, (0 : Int))
def world_World_sequencer (a0 : Wld) : Option Int :=
 (view_First a0.view).bind fun r6 =>
 some r6.1
def wire_in (a0 : Int) (a1 : Int) (a2 : Int) : Option Bool :=
 (bif decide (a0 ≥ a1) then (some (decide (a0 ≤ a2))) else
 some false).bind fun y2 =>
 some y2
def wire_Check_1 (a0 : Int) : Option Bool :=
 (wire_in a0 (0 : Int) (16777215 : Int)).bind fun r1 =>
 some r1
def wire_Check_2 (a0 : Int) : Option Bool :=
 (wire_Check_1 a0).bind fun r2 =>
 some (!r2)
def slices_IndexFunc_int_int_Check_2_B0 (a0 : List Int) (i2 : Nat) (z2 : Unit) : Option (Ctl Unit Int) :=
 (lat a0 (i2 : Int)).bind fun x5 =>
 (wire_Check_2 x5).bind fun r8 =>
 bif r8 then (some (.ret (i2 : Int))) else
 some (.go ())
def slices_IndexFunc_int_int_Check_2 (a0 : List Int) : Option Int :=
 andThen (rangeM (slices_IndexFunc_int_int_Check_2_B0 a0) a0.length 0 ()) fun _ =>
 some (-1 : Int)
def slices_ContainsFunc_int_int_Check_2 (a0 : List Int) : Option Bool :=
 (slices_IndexFunc_int_int_Check_2 a0).bind fun r2 =>
 some (decide (r2 ≥ (0 : Int)))
def wire_Check (a0 : Note) : Option Int :=
 (wire_in a0.Kind (0 : Int) (255 : Int)).bind fun r5 =>
 (bif !r5 then (some true) else
 (wire_in a0.From (0 : Int) (5 : Int)).bind fun r12 =>
 some (!r12)).bind fun y10 =>
 (bif y10 then (some true) else
 (wire_in a0.To (0 : Int) (5 : Int)).bind fun r21 =>
 some (!r21)).bind fun y19 =>
 (bif y19 then (some true) else
 (wire_Check_1 a0.View).bind fun r30 =>
 some (!r30)).bind fun y28 =>
 (bif y28 then (some true) else
 (wire_Check_1 a0.Seq).bind fun r39 =>
 some (!r39)).bind fun y37 =>
 bif y37 then (some (1 : Int)) else
 (slices_ContainsFunc_int_int_Check_2 a0.At.toList).bind fun r46 =>
 bif r46 then (some (1 : Int)) else
 bif decide ((a0.Text.length : Int) > (200 : Int)) then (some (2 : Int)) else
 some (0 : Int)
def wire_three (a0 : Int) : Option (List (BitVec 8)) :=
 some ([BitVec.ofInt 8 a0, BitVec.ofInt 8 (a0.fdiv (2 ^ (min 8 64)) : Int), BitVec.ofInt 8 (a0.fdiv (2 ^ (min 16 64)) : Int)] : List (BitVec 8))
def wire_Sum_B2 (i8 : Nat) (z8 : (BitVec 32)) : Option (BitVec 32) :=
 bif ((z8 &&& (1 : BitVec 32)).toNat : Int) == ((1 : BitVec 32).toNat : Int) then (some ((z8 >>> 1) ^^^ (2197175160 : BitVec 32))) else
 some (z8 >>> 1)
def wire_Sum_B0 (a0 : Str) (i1 : Nat) (z1 : (BitVec 32)) : Option (BitVec 32) :=
 (lat a0 (i1 : Int)).bind fun x6 =>
 (rangeF (wire_Sum_B2) 8 0 (z1 ^^^ (BitVec.ofInt 32 (x6.toBitVec.toNat : Int)))).bind fun y9 =>
 some y9
def wire_Sum (a0 : Str) : Option (BitVec 32) :=
 (upTo (a0.length : Int)).bind fun nn5 =>
 (rangeF (wire_Sum_B0 a0) nn5 0 (4294967295 : BitVec 32)).bind fun y2 =>
 some ((4294967295 : BitVec 32) ^^^ y2)
def wire_four (a0 : BitVec 32) : Option (List (BitVec 8)) :=
 (wire_three (a0.toNat : Int)).bind fun r2 =>
 (room r2 ([BitVec.ofInt 8 ((a0 >>> 24).toNat : Int)] : List (BitVec 8))).bind fun u10 =>
 some (r2 ++ ([BitVec.ofInt 8 ((a0 >>> 24).toNat : Int)] : List (BitVec 8)))
def wire_Pack_B0 (l17 : List Int) (i24 : Nat) (z24 : (List (BitVec 8))) : Option (List (BitVec 8)) :=
 (lat l17 (i24 : Int)).bind fun x30 =>
 (wire_three x30).bind fun r33 =>
 (room z24 r33).bind fun u39 =>
 some (z24 ++ r33)
def wire_Pack (a0 : Note) : Option (Str × Int) :=
 (wire_Check a0).bind fun r3 =>
 bif r3 != (0 : Int) then (some (([] : Str), r3)) else
 (room ([a0.View, a0.Seq] : List Int) a0.At.toList).bind fun u12 =>
 Let (([a0.View, a0.Seq] : List Int) ++ a0.At.toList) fun l17 =>
 (upTo ((([a0.View, a0.Seq] : List Int) ++ a0.At.toList).length : Int)).bind fun nn29 =>
 (rangeF (wire_Pack_B0 l17) nn29 0 ([BitVec.ofInt 8 a0.Kind, BitVec.ofInt 8 a0.From, BitVec.ofInt 8 a0.To] : List (BitVec 8))).bind fun l26 =>
 (room l26 (Str.bytes a0.Text)).bind fun u42 =>
 (wire_Sum (Str.ofBytes (l26 ++ (Str.bytes a0.Text)))).bind fun r45 =>
 (wire_four r45).bind fun r49 =>
 (room (l26 ++ (Str.bytes a0.Text)) r49).bind fun u55 =>
 some (Str.ofBytes ((l26 ++ (Str.bytes a0.Text)) ++ r49), (0 : Int))
def world_World_send (a0 : Wld) (a1 : Int) (a2 : Int) (a3 : Int) (a4 : Int) (a5 : Str) : Option ((List Str) × Wld) :=
 (wire_Pack ({ Note.zero with Kind := a1, From := a2, To := a3, View := a0.view.Num, Seq := a4, Text := a5 } : Note)).bind fun r6 =>
 (bif r6.2 == (0 : Int) then (some (decide ((a0.way.length : Int) < (60 : Int)))) else
 some false).bind fun y11 =>
 bif y11 then ((room a0.way ([r6.1] : List Str)).bind fun u18 =>
 some (a0.way ++ ([r6.1] : List Str), ({ a0 with way := a0.way ++ ([r6.1] : List Str) } : Wld))) else
 some (a0.way, a0)
def world_World_Say (a0 : Wld) (a1 : Int) (a2 : Str) : Option ((List Procs) × (List Str) × Wld × Int) :=
 (world_World_working a0 a1).bind fun r6 =>
 bif r6 != (0 : Int) then (some (a0.all, a0.way, a0, r6)) else
 bif decide ((a2.length : Int) > (150 : Int)) then (some (a0.all, a0.way, a0, (2 : Int))) else
 bif (a0.way.length : Int) == (60 : Int) then (some (a0.all, a0.way, a0, (8 : Int))) else
 (lat a0.all a1).bind fun x13 =>
 (lane_Put x13.from_ a2).bind fun r17 =>
 bif r17.2 != (0 : Int) then (some (a0.all, a0.way, a0, r17.2)) else
 (lat a0.all a1).bind fun x27 =>
 Let (a0.all.set a1.toNat ({ x27 with from_ := r17.1 } : Procs)) fun p35 =>
 (world_World_sequencer ({ a0 with all := p35 } : Wld)).bind fun r39 =>
 (world_World_send ({ a0 with all := p35 } : Wld) (1 : Int) a1 r39 (w64 ((w64 (r17.1.Base + (r17.1.Late.length : Int))) - (1 : Int))) a2).bind fun r43 =>
 some (p35, r43.1, ({ r43.2 with all := p35, ordered := a0.ordered, way := r43.1 } : Wld), (0 : Int))
def world_World_Way (a0 : Wld) : Option Int :=
 some (a0.way.length : Int)
def slices_Delete_string_string (a0 : List Str) (a1 : Int) (a2 : Int) : Option (List Str) :=
 (cutL a0 a1 a2).bind fun m3 =>
 bif a1 == a2 then (some a0) else
 (cutL a0 0 a1).bind fun m9 =>
 (cutL a0 a2 (a0.length : Int)).bind fun m13 =>
 some (a0.take ((a1 : Int).toNat) ++ a0.drop ((a2 : Int).toNat))
def wire_Read_1 (a0 : Int) (a1 : Str) : Option Int :=
 (lat a1 (w64 ((3 : Int) + (w64 ((3 : Int) * a0))))).bind fun x2 =>
 (lat a1 (w64 ((w64 ((3 : Int) + (w64 ((3 : Int) * a0)))) + (1 : Int)))).bind fun x4 =>
 (lat a1 (w64 ((w64 ((3 : Int) + (w64 ((3 : Int) * a0)))) + (2 : Int)))).bind fun x6 =>
 some (w64 ((BitVec.ofInt 64 (w64 ((BitVec.ofInt 64 (x2.toBitVec.toNat : Int) ||| BitVec.ofInt 64 (w64 ((x4.toBitVec.toNat : Int) * 2 ^ (min 8 64)))).toNat : Int)) ||| BitVec.ofInt 64 (w64 ((x6.toBitVec.toNat : Int) * 2 ^ (min 16 64)))).toNat : Int))
def wire_Read_B1 (m5 : Str) (i66 : Nat) (z66 : Note) : Option Note :=
 (wire_Read_1 (w64 ((2 : Int) + (i66 : Int))) m5).bind fun r70 =>
 (vat z66.At (i66 : Int)).bind fun x74 =>
 Let ({ z66 with At := z66.At.setIfInBounds (i66 : Int).toNat r70 } : Note) fun p77 =>
 some p77
def wire_Read (a0 : Str) : Option (Note × Int) :=
 bif decide ((a0.length : Int) > (231 : Int)) then (some (Note.zero, (2 : Int))) else
 bif decide ((a0.length : Int) < (31 : Int)) then (some (Note.zero, (3 : Int))) else
 (cutL a0 0 (w64 ((a0.length : Int) - (4 : Int)))).bind fun m5 =>
 (cutL a0 (w64 ((a0.length : Int) - (4 : Int))) (a0.length : Int)).bind fun m7 =>
 (wire_Sum m5).bind fun r18 =>
 (wire_four r18).bind fun r22 =>
 bif !(decide (Str.ofBytes r22 = m7)) then (some (Note.zero, (5 : Int))) else
 (lat m5 (0 : Int)).bind fun x29 =>
 (lat m5 (1 : Int)).bind fun x31 =>
 (lat m5 (2 : Int)).bind fun x33 =>
 (wire_Read_1 (0 : Int) m5).bind fun r35 =>
 (wire_Read_1 (1 : Int) m5).bind fun r39 =>
 (cutL m5 (27 : Int) (m5.length : Int)).bind fun m43 =>
 (rangeF (wire_Read_B1 m5) 6 0 ({ Note.zero with Kind := (x29.toBitVec.toNat : Int), From := (x31.toBitVec.toNat : Int), To := (x33.toBitVec.toNat : Int), View := r35, Seq := r39, Text := m43 } : Note)).bind fun y67 =>
 (wire_Check y67).bind fun r79 =>
 bif r79 != (0 : Int) then (some (Note.zero, r79)) else
 some (y67, (0 : Int))
def lane_CheckTo_B1 (a0 : To) (i9 : Nat) (z9 : Int) : Option (Ctl Int Int) :=
 (lat a0.Early (i9 : Int)).bind fun x13 =>
 (bif decide (x13.Seq ≤ z9) then (some true) else
 some (decide (x13.Seq ≥ (w64 (a0.Next + (16 : Int)))))).bind fun y19 =>
 (bif y19 then (some true) else
 (lane_long x13.Text).bind fun r26 =>
 some r26).bind fun y24 =>
 bif y24 then (some (.ret (4 : Int))) else
 some (.go x13.Seq)
def lane_CheckTo (a0 : To) : Option Int :=
 (lane_in a0.Next (0 : Int) (16777215 : Int)).bind fun r3 =>
 bif !r3 then (some (1 : Int)) else
 bif decide ((a0.Early.length : Int) > (16 : Int)) then (some (2 : Int)) else
 andThen (rangeM (lane_CheckTo_B1 a0) a0.Early.length 0 a0.Next) fun y10 =>
 some (0 : Int)
def slices_Clone_api_Parcel_api_Parcel (a0 : List Parcel) : Option (List Parcel) :=
 (room ([] : List Parcel) a0).bind fun u5 =>
 some (([] : List Parcel) ++ a0)
def lane_Take_1 (a0 : Parcel) (a1 : Int) : Option Int :=
 some (w64 (a0.Seq - a1))
def slices_BinarySearchFunc_api_Parcel_api_Parcel_int_Take_1_B0 (a0 : List Parcel) (a1 : Int) (z1 : Int × Int) : Option (Ctl (Int × Int) (Int × Bool)) :=
 bif decide (z1.1 < z1.2) then ((lat a0 (w64 (((BitVec.ofInt 64 (w64 (z1.1 + z1.2))) >>> 1).toNat : Int))).bind fun x19 =>
 (lane_Take_1 x19 a1).bind fun r22 =>
 bif decide (r22 < (0 : Int)) then (some (.go (w64 ((w64 (((BitVec.ofInt 64 (w64 (z1.1 + z1.2))) >>> 1).toNat : Int)) + (1 : Int)), z1.2))) else
 some (.go (z1.1, w64 (((BitVec.ofInt 64 (w64 (z1.1 + z1.2))) >>> 1).toNat : Int)))) else
 some (.brk (z1.1, z1.2))
def slices_BinarySearchFunc_api_Parcel_api_Parcel_int_Take_1 (fu : Nat) (a0 : List Parcel) (a1 : Int) : Option (Int × Bool) :=
 andThen (whileM (slices_BinarySearchFunc_api_Parcel_api_Parcel_int_Take_1_B0 a0 a1) fu ((0 : Int), (a0.length : Int))) fun (y2, y3) =>
 (bif decide (y2 < (a0.length : Int)) then ((lat a0 y2).bind fun x10 =>
 (lane_Take_1 x10 a1).bind fun r13 =>
 some (r13 == (0 : Int))) else
 some false).bind fun y8 =>
 some (y2, y8)
def slices_Insert_api_Parcel_api_Parcel (a0 : List Parcel) (a1 : Int) (a2 : List Parcel) : Option (List Parcel) :=
 (cutL a0 a1 (a0.length : Int)).bind fun _ =>
 (room a0 a2).bind fun _ =>
 some (a0.take a1.toNat ++ a2 ++ a0.drop a1.toNat)
def lane_Take_B1 (z87 : To × (List Str) × (List Parcel)) : Option (Ctl (To × (List Str) × (List Parcel)) (To × (List Str) × Int)) :=
 (bif decide ((z87.2.2.length : Int) > (0 : Int)) then ((lat z87.2.2 (0 : Int)).bind fun x98 =>
 some (x98.Seq == z87.1.Next)) else
 some false).bind fun y96 =>
 bif y96 then ((lat z87.2.2 (0 : Int)).bind fun x108 =>
 (room z87.2.1 ([x108.Text] : List Str)).bind fun u113 =>
 (cutL z87.2.2 (1 : Int) (z87.2.2.length : Int)).bind fun m116 =>
 Let (w64 (z87.1.Next + (1 : Int))) fun p121 =>
 some (.go (({ z87.1 with Next := p121, Early := m116 } : To), z87.2.1 ++ ([x108.Text] : List Str), m116))) else
 some (.brk (({ z87.1 with Early := z87.2.2 } : To), z87.2.1, z87.2.2))
def lane_Take (fu : Nat) (a0 : To) (a1 : Parcel) : Option (To × (List Str) × Int) :=
 (lane_CheckTo a0).bind fun r9 =>
 bif r9 != (0 : Int) then (some (({ To.zero with Early := ([] : List Parcel) } : To), ([] : List Str), r9)) else
 (lane_in a1.Seq (0 : Int) (16777214 : Int)).bind fun r16 =>
 bif !r16 then (some (({ To.zero with Early := ([] : List Parcel) } : To), ([] : List Str), (1 : Int))) else
 (lane_long a1.Text).bind fun r23 =>
 bif r23 then (some (({ To.zero with Early := ([] : List Parcel) } : To), ([] : List Str), (2 : Int))) else
 (slices_Clone_api_Parcel_api_Parcel a0.Early).bind fun r30 =>
 Let (([] : List Parcel), r30) fun (l42, l44) =>
 (slices_BinarySearchFunc_api_Parcel_api_Parcel_int_Take_1 fu l44 a1.Seq).bind fun r57 =>
 (bif decide (a1.Seq < a0.Next) then (some true) else
 some (decide (a1.Seq ≥ (w64 (a0.Next + (16 : Int)))))).bind fun y62 =>
 (bif y62 then (some true) else
 some r57.2).bind fun y67 =>
 bif y67 then (some (({ To.zero with Next := a0.Next, Early := l44 } : To), ([] : List Str), (0 : Int))) else
 bif decide (a1.Seq > a0.Next) then ((slices_Insert_api_Parcel_api_Parcel l44 r57.1 ([a1] : List Parcel)).bind fun r76 =>
 some (({ To.zero with Next := a0.Next, Early := r76 } : To), ([] : List Str), (0 : Int))) else
 Let (w64 (a0.Next + (1 : Int))) fun p85 =>
 andThen (whileM (lane_Take_B1) fu (({ To.zero with Next := p85, Early := l44 } : To), ([a1.Text] : List Str), l44)) fun (y88, l90, l92) =>
 (slices_Clone_api_Parcel_api_Parcel l92).bind fun r123 =>
 some (({ y88 with Early := r123 } : To), l90, (0 : Int))
def world_World_order_B2 (p48 : List Procs) (l55 : List Str) (x60 : Str) (r63 : Str) (r69 : Str) (i85 : Nat) (z85 : Wld × (List Str)) : Option (Wld × (List Str)) :=
 (world_World_active ({ z85.1 with all := p48, ordered := l55 ++ ([(((r63 ++ ([58] : Str)) ++ r69) ++ ([58] : Str)) ++ x60] : List Str), way := z85.2 } : Wld) (i85 : Int)).bind fun r91 =>
 bif r91 then ((world_World_sequencer ({ z85.1 with all := p48, ordered := l55 ++ ([(((r63 ++ ([58] : Str)) ++ r69) ++ ([58] : Str)) ++ x60] : List Str), way := z85.2 } : Wld)).bind fun r96 =>
 (world_World_send ({ z85.1 with all := p48, ordered := l55 ++ ([(((r63 ++ ([58] : Str)) ++ r69) ++ ([58] : Str)) ++ x60] : List Str), way := z85.2 } : Wld) (2 : Int) r96 (i85 : Int) (w64 (((l55 ++ ([(((r63 ++ ([58] : Str)) ++ r69) ++ ([58] : Str)) ++ x60] : List Str)).length : Int) - (1 : Int))) ((((r63 ++ ([58] : Str)) ++ r69) ++ ([58] : Str)) ++ x60)).bind fun r100 =>
 some (({ r100.2 with all := p48, ordered := l55 ++ ([(((r63 ++ ([58] : Str)) ++ r69) ++ ([58] : Str)) ++ x60] : List Str), way := r100.1 } : Wld), r100.1)) else
 some (({ z85.1 with all := p48, ordered := l55 ++ ([(((r63 ++ ([58] : Str)) ++ r69) ++ ([58] : Str)) ++ x60] : List Str), way := z85.2 } : Wld), z85.2)
def world_World_order_B0 (a1 : Note) (x8 : Procs) (l28 : List Str) (p48 : List Procs) (i52 : Nat) (z52 : Wld × (List Str) × (List Str)) : Option (Wld × (List Str) × (List Str)) :=
 (lat l28 (i52 : Int)).bind fun x60 =>
 (strconv_Itoa a1.From).bind fun r63 =>
 (room r63 ([58] : Str)).bind fun u67 =>
 (strconv_Itoa (w64 (x8.orders.Next + (i52 : Int)))).bind fun r69 =>
 (room (r63 ++ ([58] : Str)) r69).bind fun u73 =>
 (room ((r63 ++ ([58] : Str)) ++ r69) ([58] : Str)).bind fun u75 =>
 (room (((r63 ++ ([58] : Str)) ++ r69) ++ ([58] : Str)) x60).bind fun u77 =>
 (room z52.2.1 ([(((r63 ++ ([58] : Str)) ++ r69) ++ ([58] : Str)) ++ x60] : List Str)).bind fun u81 =>
 (rangeF (world_World_order_B2 p48 z52.2.1 x60 r63 r69) p48.length 0 (({ z52.1 with all := p48, ordered := z52.2.1 ++ ([(((r63 ++ ([58] : Str)) ++ r69) ++ ([58] : Str)) ++ x60] : List Str), way := z52.2.2 } : Wld), z52.2.2)).bind fun (y86, l88) =>
 some (({ y86 with all := p48, ordered := z52.2.1 ++ ([(((r63 ++ ([58] : Str)) ++ r69) ++ ([58] : Str)) ++ x60] : List Str), way := l88 } : Wld), z52.2.1 ++ ([(((r63 ++ ([58] : Str)) ++ r69) ++ ([58] : Str)) ++ x60] : List Str), l88)
def world_World_order (fu : Nat) (a0 : Wld) (a1 : Note) : Option ((List Procs) × (List Str) × (List Str) × Wld) :=
 (lat a0.all a1.From).bind fun x8 =>
 (lane_Take fu x8.orders ({ Parcel.zero with Seq := a1.Seq, Text := a1.Text } : Parcel)).bind fun r12 =>
 Let (r12.1.Early, r12.2.1) fun (l26, l28) =>
 bif r12.2.2 != (0 : Int) then (some (a0.all, a0.ordered, a0.way, a0)) else
 Let (a0.all.set a1.From.toNat ({ x8 with orders := ({ r12.1 with Early := l26 } : To) } : Procs)) fun p48 =>
 (rangeF (world_World_order_B0 a1 x8 l28 p48) l28.length 0 (({ a0 with all := p48 } : Wld), a0.ordered, a0.way)).bind fun (y53, l55, l57) =>
 some (p48, l55, l57, ({ y53 with all := p48, ordered := l55, way := l57 } : Wld))
def internal_stringslite_IndexByte (a0 : Str) (a1 : BitVec 8) : Option Int :=
 some (sIdx a0 a1)
def internal_stringslite_Index (a0 : Str) (a1 : Str) : Option Int :=
 (bif (a1.length : Int) == (0 : Int) then (some true) else
 some (decide (a1 = a0))).bind fun y2 =>
 bif y2 then (some (0 : Int)) else
 bif (a1.length : Int) == (1 : Int) then ((lat a1 (0 : Int)).bind fun x8 =>
 (internal_stringslite_IndexByte a0 x8.toBitVec).bind fun r10 =>
 some r10) else
 bif decide ((a1.length : Int) ≥ (a0.length : Int)) then (some (-1 : Int)) else
 none
def internal_stringslite_Cut (a0 : Str) (a1 : Str) : Option (Str × Str × Bool) :=
 (internal_stringslite_Index a0 a1).bind fun r1 =>
 bif decide (r1 ≥ (0 : Int)) then ((cutL a0 0 r1).bind fun m6 =>
 (cutL a0 (w64 (r1 + (a1.length : Int))) (a0.length : Int)).bind fun m8 =>
 some (m6, m8, true)) else
 some (a0, ([] : Str), false)
def strings_Cut (a0 : Str) (a1 : Str) : Option (Str × Str × Bool) :=
 (internal_stringslite_Cut a0 a1).bind fun r1 =>
 some (r1.1, r1.2.1, r1.2.2)
def internal_strconv_Atoi_B0 (y7 : Str) (i30 : Nat) (z30 : Int) : Option (Ctl Int (Int × Unit)) :=
 (lat (Str.bytes y7) (i30 : Int)).bind fun x34 =>
 bif decide (((x34 - (48 : BitVec 8)).toNat : Int) > ((9 : BitVec 8).toNat : Int)) then (none) else
 some (.go (w64 ((w64 (z30 * (10 : Int))) + ((x34 - (48 : BitVec 8)).toNat : Int))))
def internal_strconv_Atoi (a0 : Str) : Option (Int × Unit) :=
 (bif decide ((0 : Int) < (a0.length : Int)) then (some (decide ((a0.length : Int) < (19 : Int)))) else
 some false).bind fun y2 =>
 bif y2 then (andThen ((lat a0 (0 : Int)).bind fun x9 =>
 (bif (x9.toBitVec.toNat : Int) == ((45 : BitVec 8).toNat : Int) then (some true) else
 (lat a0 (0 : Int)).bind fun x14 =>
 some ((x14.toBitVec.toNat : Int) == ((43 : BitVec 8).toNat : Int))).bind fun y12 =>
 bif y12 then ((cutL a0 (1 : Int) (a0.length : Int)).bind fun m19 =>
 bif decide ((m19.length : Int) < (1 : Int)) then (none) else
 some (.inl m19)) else
 some (.inl a0)) fun y7 =>
 (room ([] : Str) y7).bind fun u24 =>
 andThen (rangeM (internal_strconv_Atoi_B0 y7) ((Str.bytes y7).length) 0 (0 : Int)) fun y31 =>
 ((lat a0 (0 : Int)).bind fun x40 =>
 bif (x40.toBitVec.toNat : Int) == ((45 : BitVec 8).toNat : Int) then (some (w64 (0 - y31))) else
 some y31).bind fun y38 =>
 some (y38, ())) else
 none
def strconv_Atoi (a0 : Str) : Option (Int × Unit) :=
 (internal_strconv_Atoi a0).bind fun r1 =>
 some (r1.1, ())
def lane_Heard (a0 : From) (a1 : Int) : Option (From × Int) :=
 (lane_CheckFrom a0).bind fun r6 =>
 bif r6 != (0 : Int) then (some (({ From.zero with Late := ([] : List Str) } : From), r6)) else
 bif decide (a1 > (w64 (a0.Base + (a0.Late.length : Int)))) then (some (({ From.zero with Late := ([] : List Str) } : From), (1 : Int))) else
 (cutL a0.Late (max (w64 (a1 - a0.Base)) (0 : Int)) (a0.Late.length : Int)).bind fun m14 =>
 (slices_Clone_string_string m14).bind fun r19 =>
 Let r19 fun l27 =>
 some (({ From.zero with Base := w64 (a0.Base + (max (w64 (a1 - a0.Base)) (0 : Int))), Late := l27 } : From), (0 : Int))
def world_World_take_B0 (a0 : Wld) (a1 : Note) (l28 : List Str) (i52 : Nat) (z52 : Wld × (List Procs)) : Option (Wld × (List Procs)) :=
 (lat l28 (i52 : Int)).bind fun x60 =>
 (strings_Cut x60 ([58] : Str)).bind fun r63 =>
 (strings_Cut r63.2.1 ([58] : Str)).bind fun r67 =>
 (strconv_Atoi r63.1).bind fun r71 =>
 (lat z52.2 a1.To).bind fun x75 =>
 (room x75.log ([({ Saying.zero with From := r71.1, Text := r67.2.1 } : Saying)] : List Saying)).bind fun u82 =>
 (lat z52.2 a1.To).bind fun x85 =>
 Let (z52.2.set a1.To.toNat ({ x85 with log := x75.log ++ ([({ Saying.zero with From := r71.1, Text := r67.2.1 } : Saying)] : List Saying) } : Procs)) fun p89 =>
 bif r71.1 == a1.To then ((strconv_Atoi r67.1).bind fun r94 =>
 (lat p89 a1.To).bind fun x98 =>
 (lane_Heard x98.from_ (w64 (r94.1 + (1 : Int)))).bind fun r102 =>
 bif r102.2 == (0 : Int) then ((lat p89 a1.To).bind fun x112 =>
 Let (p89.set a1.To.toNat ({ x112 with from_ := r102.1 } : Procs)) fun p120 =>
 some (({ z52.1 with all := p120, ordered := a0.ordered, way := a0.way } : Wld), p120)) else
 some (({ z52.1 with all := p89, ordered := a0.ordered, way := a0.way } : Wld), p89)) else
 some (({ z52.1 with all := p89, ordered := a0.ordered, way := a0.way } : Wld), p89)
def world_World_take (fu : Nat) (a0 : Wld) (a1 : Note) : Option ((List Procs) × Wld) :=
 (lat a0.all a1.To).bind fun x8 =>
 (lane_Take fu x8.to ({ Parcel.zero with Seq := a1.Seq, Text := a1.Text } : Parcel)).bind fun r12 =>
 Let (r12.1.Early, r12.2.1) fun (l26, l28) =>
 bif r12.2.2 != (0 : Int) then (some (a0.all, a0)) else
 Let (a0.all.set a1.To.toNat ({ x8 with to := ({ r12.1 with Early := l26 } : To) } : Procs)) fun p48 =>
 (rangeF (world_World_take_B0 a0 a1 l28) l28.length 0 (({ a0 with all := p48 } : Wld), p48)).bind fun (y53, l54) =>
 some (l54, ({ y53 with all := l54, ordered := a0.ordered, way := a0.way } : Wld))
def world_World_deliver_B1 (a0 : Wld) (a1 : Note) (z32 : Int × Wld × (List Str)) : Option (Ctl (Int × Wld × (List Str)) ((List Procs) × (List Str) × (List Str) × Wld)) :=
 (bif decide (z32.1 < (a0.ordered.length : Int)) then (some (decide (z32.1 < (w64 (a1.Seq + (4 : Int)))))) else
 some false).bind fun y40 =>
 bif y40 then ((world_World_sequencer ({ z32.2.1 with all := a0.all, ordered := a0.ordered, way := z32.2.2 } : Wld)).bind fun r45 =>
 (lat a0.ordered z32.1).bind fun x49 =>
 (world_World_send ({ z32.2.1 with all := a0.all, ordered := a0.ordered, way := z32.2.2 } : Wld) (2 : Int) r45 a1.From z32.1 x49).bind fun r52 =>
 some (.go (w64 (z32.1 + (1 : Int)), ({ r52.2 with all := a0.all, ordered := a0.ordered, way := r52.1 } : Wld), r52.1))) else
 some (.brk (z32.1, ({ z32.2.1 with all := a0.all, ordered := a0.ordered, way := z32.2.2 } : Wld), z32.2.2))
def world_World_deliver (fu : Nat) (a0 : Wld) (a1 : Note) : Option ((List Procs) × (List Str) × (List Str) × Wld) :=
 (world_World_known a0 a1.From).bind fun r8 =>
 bif r8 != (0 : Int) then (some (a0.all, a0.ordered, a0.way, a0)) else
 bif a1.Kind == (1 : Int) then ((world_World_order fu a0 a1).bind fun r14 =>
 some (r14.1, r14.2.1, r14.2.2.1, ({ r14.2.2.2 with all := r14.1, ordered := r14.2.1, way := r14.2.2.1 } : Wld))) else
 bif a1.Kind == (3 : Int) then (andThen (whileM (world_World_deliver_B1 a0 a1) fu (a1.Seq, a0, a0.way)) fun (y33, y34, l36) =>
 some (a0.all, a0.ordered, l36, ({ y34 with all := a0.all, ordered := a0.ordered, way := l36 } : Wld))) else
 bif a1.Kind == (2 : Int) then ((world_World_take fu a0 a1).bind fun r25 =>
 some (r25.1, a0.ordered, a0.way, ({ r25.2 with all := r25.1, ordered := a0.ordered, way := a0.way } : Wld))) else
 some (a0.all, a0.ordered, a0.way, a0)
def world_World_Move (fu : Nat) (a0 : Wld) (a1 : Int) (a2 : Int) : Option ((List Procs) × (List Str) × Wld × Int) :=
 (world_in a2 (1 : Int) (3 : Int)).bind fun r6 =>
 bif !r6 then (some (a0.all, a0.ordered, a0, (1 : Int))) else
 (world_in a1 (0 : Int) (w64 ((a0.way.length : Int) - (1 : Int)))).bind fun r11 =>
 bif !r11 then (some (a0.all, a0.ordered, a0, (6 : Int))) else
 (bif a2 == (3 : Int) then (some ((a0.way.length : Int) == (60 : Int))) else
 some false).bind fun y17 =>
 bif y17 then (some (a0.all, a0.ordered, a0, (8 : Int))) else
 (lat a0.way a1).bind fun x22 =>
 bif a2 == (3 : Int) then ((room a0.way ([x22] : List Str)).bind fun u28 =>
 some (a0.all, a0.ordered, ({ a0 with way := a0.way ++ ([x22] : List Str) } : Wld), (0 : Int))) else
 (slices_Delete_string_string a0.way a1 (w64 (a1 + (1 : Int)))).bind fun r31 =>
 (wire_Read x22).bind fun r37 =>
 ((bif a2 == (1 : Int) then (some (r37.2 == (0 : Int))) else
 some false).bind fun y54 =>
 (bif y54 then (some (r37.1.View == a0.view.Num)) else
 some false).bind fun y57 =>
 (bif y57 then ((world_World_active ({ a0 with way := r31 } : Wld) r37.1.To).bind fun r62 =>
 some r62) else
 some false).bind fun y60 =>
 bif y60 then ((world_World_deliver fu ({ a0 with way := r31 } : Wld) r37.1).bind fun r67 =>
 some (({ r67.2.2.2 with all := r67.1, ordered := r67.2.1, way := r67.2.2.1 } : Wld), r67.2.2.1, r67.1, r67.2.1)) else
 some (({ a0 with way := r31 } : Wld), r31, a0.all, a0.ordered)).bind fun (y43, l45, l46, l51) =>
 some (l46, l51, ({ y43 with all := l46, ordered := l51, way := l45 } : Wld), (0 : Int))
def slices_Clone_api_Saying_api_Saying (a0 : List Saying) : Option (List Saying) :=
 (room ([] : List Saying) a0).bind fun u5 =>
 some (([] : List Saying) ++ a0)
def world_World_Log (a0 : Wld) (a1 : Int) : Option ((List Saying) × Int) :=
 (world_World_known a0 a1).bind fun r7 =>
 bif r7 != (0 : Int) then (some (([] : List Saying), r7)) else
 (lat a0.all a1).bind fun x13 =>
 (slices_Clone_api_Saying_api_Saying x13.log).bind fun r17 =>
 some (r17, (0 : Int))
def strings_Index (a0 : Str) (a1 : Str) : Option Int :=
 (internal_stringslite_Index a0 a1).bind fun r1 =>
 some r1
def strings_Count_B0 (a1 : Str) (z5 : Str × Int) : Option (Ctl (Str × Int) Int) :=
 (strings_Index z5.1 a1).bind fun r10 =>
 bif r10 == (-1 : Int) then (some (.ret z5.2)) else
 (cutL z5.1 (w64 (r10 + (a1.length : Int))) (z5.1.length : Int)).bind fun m15 =>
 some (.go (m15, w64 (z5.2 + (1 : Int))))
def strings_Count (fu : Nat) (a0 : Str) (a1 : Str) : Option Int :=
 bif (a1.length : Int) == (0 : Int) then (none) else
 bif (a1.length : Int) == (1 : Int) then ((lat a1 (0 : Int)).bind fun x3 =>
 some (sCnt a0 x3.toBitVec)) else
 andThen (whileM (strings_Count_B0 a1) fu (a0, (0 : Int))) fun (y6, y7) =>
 none
def strings_genSplit_B0 (a0 : Str) (a1 : Str) (a2 : Int) (y5 : Int) (z23 : Str × Int × (List Str)) : Option (Ctl (Str × Int × (List Str)) (Str × Int × (List Str))) :=
 bif decide (z23.2.1 < (w64 ((min y5 (w64 ((a0.length : Int) + (1 : Int)))) - (1 : Int)))) then ((strings_Index z23.1 a1).bind fun r30 =>
 bif decide (r30 < (0 : Int)) then (some (.brk (z23.1, z23.2.1, z23.2.2))) else
 (cutL z23.1 0 (w64 (r30 + a2))).bind fun m35 =>
 (lat z23.2.2 z23.2.1).bind fun x37 =>
 Let (z23.2.2.set z23.2.1.toNat m35) fun p40 =>
 (cutL z23.1 (w64 (r30 + (a1.length : Int))) (z23.1.length : Int)).bind fun m42 =>
 some (.go (m42, w64 (z23.2.1 + (1 : Int)), p40))) else
 some (.brk (z23.1, z23.2.1, z23.2.2))
def strings_genSplit (fu : Nat) (a0 : Str) (a1 : Str) (a2 : Int) (a3 : Int) : Option (List Str) :=
 bif a3 == (0 : Int) then (some ([] : List Str)) else
 bif decide (a1 = ([] : Str)) then (none) else
 (bif decide (a3 < (0 : Int)) then ((strings_Count fu a0 a1).bind fun r8 =>
 some (w64 (r8 + (1 : Int)))) else
 some a3).bind fun y5 =>
 (mkLen (min y5 (w64 ((a0.length : Int) + (1 : Int))))).bind fun n14 =>
 (andThen (whileM (strings_genSplit_B0 a0 a1 a2 y5) fu (a0, (0 : Int), (List.replicate n14 ([] : Str)))) fun (y24, y25, l26) =>
 some (y24, y25, l26)).bind fun (y19, y20, l21) =>
 (lat l21 y20).bind fun x46 =>
 Let (l21.set y20.toNat y19) fun p49 =>
 (cutL p49 0 (w64 (y20 + (1 : Int)))).bind fun m51 =>
 some m51
def strings_Split (fu : Nat) (a0 : Str) (a1 : Str) : Option (List Str) :=
 (strings_genSplit fu a0 a1 (0 : Int) (-1 : Int)).bind fun r2 =>
 some r2
def slices_Index_string_string_B0 (a0 : List Str) (a1 : Str) (i1 : Nat) (z1 : Unit) : Option (Ctl Unit Int) :=
 (lat a0 (i1 : Int)).bind fun x4 =>
 bif decide (a1 = x4) then (some (.ret (i1 : Int))) else
 some (.go ())
def slices_Index_string_string (a0 : List Str) (a1 : Str) : Option Int :=
 andThen (rangeM (slices_Index_string_string_B0 a0 a1) a0.length 0 ()) fun _ =>
 some (-1 : Int)
def internal_stringslite_HasPrefix (a0 : Str) (a1 : Str) : Option Bool :=
 (bif decide ((a0.length : Int) ≥ (a1.length : Int)) then ((cutL a0 0 (a1.length : Int)).bind fun m4 =>
 some (decide (m4 = a1))) else
 some false).bind fun y2 =>
 some y2
def internal_stringslite_TrimPrefix (a0 : Str) (a1 : Str) : Option Str :=
 (internal_stringslite_HasPrefix a0 a1).bind fun r1 =>
 bif r1 then ((cutL a0 (a1.length : Int) (a0.length : Int)).bind fun m6 =>
 some m6) else
 some a0
def strings_TrimPrefix (a0 : Str) (a1 : Str) : Option Str :=
 (internal_stringslite_TrimPrefix a0 a1).bind fun r1 =>
 some r1
def same_in (a0 : Int) (a1 : Int) (a2 : Int) : Option Bool :=
 (bif decide (a0 ≥ a1) then (some (decide (a0 ≤ a2))) else
 some false).bind fun y2 =>
 some y2
def strings_makeASCIISet_B0 (a0 : Str) (z3 : Int × (Vector Bool 256)) : Option (Ctl (Int × (Vector Bool 256)) ((Vector Bool 256) × Bool)) :=
 bif decide (z3.1 < (a0.length : Int)) then ((lat a0 z3.1).bind fun x9 =>
 bif decide ((x9.toBitVec.toNat : Int) ≥ ((128 : BitVec 8).toNat : Int)) then (some (.ret (z3.2, false))) else
 (vat z3.2 (x9.toBitVec.toNat : Int)).bind fun x12 =>
 Let (z3.2.setIfInBounds (x9.toBitVec.toNat : Int).toNat true) fun p15 =>
 some (.go (w64 (z3.1 + (1 : Int)), p15))) else
 some (.brk (z3.1, z3.2))
def strings_makeASCIISet (fu : Nat) (a0 : Str) : Option ((Vector Bool 256) × Bool) :=
 andThen (whileM (strings_makeASCIISet_B0 a0) fu ((0 : Int), (Vector.replicate 256 false))) fun (y4, y5) =>
 some (y5, true)
def strings_asciiSet_contains (a0 : Vector Bool 256) (a1 : BitVec 8) : Option Bool :=
 (vat a0 (a1.toNat : Int)).bind fun x2 =>
 some x2
def strings_trimRightASCII_B0 (a1 : Vector Bool 256) (z4 : Str) : Option (Ctl Str Str) :=
 bif decide ((z4.length : Int) > (0 : Int)) then ((lat z4 (w64 ((z4.length : Int) - (1 : Int)))).bind fun x9 =>
 (strings_asciiSet_contains a1 x9.toBitVec).bind fun r11 =>
 bif !r11 then (some (.brk z4)) else
 (cutL z4 0 (w64 ((z4.length : Int) - (1 : Int)))).bind fun m16 =>
 some (.go m16)) else
 some (.brk z4)
def strings_trimRightASCII (fu : Nat) (a0 : Str) (a1 : Vector Bool 256) : Option Str :=
 (andThen (whileM (strings_trimRightASCII_B0 a1) fu a0) fun y5 =>
 some y5).bind fun y2 =>
 some y2
def strings_trimLeftASCII_B0 (a1 : Vector Bool 256) (z4 : Str) : Option (Ctl Str Str) :=
 bif decide ((z4.length : Int) > (0 : Int)) then ((lat z4 (0 : Int)).bind fun x9 =>
 (strings_asciiSet_contains a1 x9.toBitVec).bind fun r11 =>
 bif !r11 then (some (.brk z4)) else
 (cutL z4 (1 : Int) (z4.length : Int)).bind fun m16 =>
 some (.go m16)) else
 some (.brk z4)
def strings_trimLeftASCII (fu : Nat) (a0 : Str) (a1 : Vector Bool 256) : Option Str :=
 (andThen (whileM (strings_trimLeftASCII_B0 a1) fu a0) fun y5 =>
 some y5).bind fun y2 =>
 some y2
def strings_Trim (fu : Nat) (a0 : Str) (a1 : Str) : Option Str :=
 (bif decide (a0 = ([] : Str)) then (some true) else
 some (decide (a1 = ([] : Str)))).bind fun y2 =>
 bif y2 then (some a0) else
 (bif (a1.length : Int) == (1 : Int) then ((lat a1 (0 : Int)).bind fun x10 =>
 some (decide ((x10.toBitVec.toNat : Int) < ((128 : BitVec 8).toNat : Int)))) else
 some false).bind fun y8 =>
 bif y8 then (none) else
 (strings_makeASCIISet fu a1).bind fun r15 =>
 bif r15.2 then ((strings_trimRightASCII fu a0 r15.1).bind fun r22 =>
 (strings_trimLeftASCII fu r22 r15.1).bind fun r26 =>
 some r26) else
 none
def same_number (fu : Nat) (a0 : Str) : Option (Int × Bool) :=
 (strings_TrimPrefix a0 ([45] : Str)).bind fun r1 =>
 (same_in (r1.length : Int) (1 : Int) (9 : Int)).bind fun r5 =>
 (bif !r5 then (some true) else
 (strings_Trim fu r1 ([48, 49, 50, 51, 52, 53, 54, 55, 56, 57] : Str)).bind fun r12 =>
 some (!(decide (r12 = ([] : Str))))).bind fun y10 =>
 bif y10 then (some ((0 : Int), false)) else
 (strconv_Atoi a0).bind fun r19 =>
 some (r19.1, true)
def same_Read (fu : Nat) (a0 : Str) : Option (Cmd × Int) :=
 (strings_Split fu a0 ([32] : Str)).bind fun r3 =>
 bif (r3.length : Int) != (3 : Int) then (some (Cmd.zero, (12 : Int))) else
 (lat r3 (0 : Int)).bind fun x12 =>
 (slices_Index_string_string ([([115, 101, 116] : Str), ([97, 100, 100] : Str), ([109, 111, 115, 116] : Str), ([99, 111, 112, 121] : Str)] : List Str) x12).bind fun r15 =>
 (lat r3 (1 : Int)).bind fun x19 =>
 (same_number fu x19).bind fun r22 =>
 (lat r3 (2 : Int)).bind fun x26 =>
 (same_number fu x26).bind fun r29 =>
 (bif (w64 (r15 + (1 : Int))) == (0 : Int) then (some true) else
 some (!r22.2)).bind fun y34 =>
 (bif y34 then (some true) else
 some (!r29.2)).bind fun y39 =>
 bif y39 then (some (Cmd.zero, (12 : Int))) else
 (same_in r22.1 (0 : Int) (9 : Int)).bind fun r44 =>
 bif !r44 then (some (Cmd.zero, (1 : Int))) else
 (bif (w64 (r15 + (1 : Int))) == (4 : Int) then ((same_in r29.1 (0 : Int) (9 : Int)).bind fun r52 =>
 some (!r52)) else
 some false).bind fun y50 =>
 bif y50 then (some (Cmd.zero, (1 : Int))) else
 some (({ Cmd.zero with Kind := w64 (r15 + (1 : Int)), Key := r22.1, N := r29.1 } : Cmd), (0 : Int))
def same_clamp (a0 : Int) : Option Int :=
 some (min (max a0 (-1000000000 : Int)) (1000000000 : Int))
def same_run (a0 : Vector Int 10) (a1 : Cmd) : Option (Vector Int 10) :=
 (vat a0 a1.Key).bind fun x4 =>
 bif a1.Kind == (1 : Int) then ((same_clamp a1.N).bind fun r8 =>
 Let (a0.setIfInBounds a1.Key.toNat r8) fun p12 =>
 some p12) else
 bif a1.Kind == (2 : Int) then ((same_clamp a1.N).bind fun r15 =>
 (same_clamp (w64 ((min (max x4 (-4000000000 : Int)) (4000000000 : Int)) + r15))).bind fun r19 =>
 Let (a0.setIfInBounds a1.Key.toNat r19) fun p23 =>
 some p23) else
 bif a1.Kind == (3 : Int) then ((same_clamp a1.N).bind fun r26 =>
 Let (a0.setIfInBounds a1.Key.toNat (max x4 r26)) fun p30 =>
 some p30) else
 bif a1.Kind == (4 : Int) then ((vat a0 a1.N).bind fun x33 =>
 Let (a0.setIfInBounds a1.Key.toNat x33) fun p36 =>
 some p36) else
 some a0
def same_Run_B0 (fu : Nat) (a1 : List Str) (i5 : Nat) (z5 : Int × (Vector Int 10)) : Option (Int × (Vector Int 10)) :=
 (lat a1 (i5 : Int)).bind fun x10 =>
 (same_Read fu x10).bind fun r13 =>
 bif r13.2 != (0 : Int) then (some (w64 (z5.1 + (1 : Int)), z5.2)) else
 (same_run z5.2 r13.1).bind fun r20 =>
 some (z5.1, r20)
def same_Run (fu : Nat) (a0 : Vector Int 10) (a1 : List Str) : Option ((Vector Int 10) × Int) :=
 (rangeF (same_Run_B0 fu a1) a1.length 0 ((0 : Int), a0)).bind fun (y6, y7) =>
 some (y7, y6)
def world_World_Vals_B0 (r8 : (List Saying) × Int) (i16 : Nat) (z16 : (List Str)) : Option (List Str) :=
 (lat r8.1 (i16 : Int)).bind fun x21 =>
 (room z16 ([x21.Text] : List Str)).bind fun u28 =>
 some (z16 ++ ([x21.Text] : List Str))
def world_World_Vals (fu : Nat) (a0 : Wld) (a1 : Int) : Option ((Vector Int 10) × Int) :=
 (world_World_Log a0 a1).bind fun r8 =>
 bif r8.2 != (0 : Int) then (some (((Vector.replicate 10 (0 : Int)) : Vector Int 10), r8.2)) else
 (rangeF (world_World_Vals_B0 r8) r8.1.length 0 ([] : List Str)).bind fun l18 =>
 (same_Run fu ((Vector.replicate 10 (0 : Int)) : Vector Int 10) l18).bind fun r31 =>
 some (r31.1, (0 : Int))
def parttop_works_B4 (fu : Nat) (y49 : Wld) (l52 : List Procs) (l57 : List Str) (i76 : Nat) (z76 : Unit) : Option (Ctl Unit Bool) :=
 (world_World_Vals fu ({ y49 with all := l52, ordered := l57 } : Wld) (i76 : Int)).bind fun r79 =>
 (bif r79.2 != (0 : Int) then (some true) else
 some (!(decide (r79.1 = (((Vector.replicate 10 (0 : Int)).setIfInBounds 4 (6 : Int)) : Vector Int 10))))).bind fun y86 =>
 bif y86 then (some (.ret false)) else
 some (.go ())
def parttop_works_B2 (fu : Nat) (i48 : Nat) (z48 : Wld × (List Procs) × (List Str)) : Option (Ctl (Wld × (List Procs) × (List Str)) Bool) :=
 (world_World_Way ({ z48.1 with all := z48.2.1, ordered := z48.2.2 } : Wld)).bind fun r60 =>
 bif decide (r60 > (0 : Int)) then ((world_World_Move fu ({ z48.1 with all := z48.2.1, ordered := z48.2.2 } : Wld) (0 : Int) (1 : Int)).bind fun r65 =>
 bif r65.2.2.2 != (0 : Int) then (some (.ret false)) else
 some (.go (({ r65.2.2.1 with all := r65.1, ordered := r65.2.1 } : Wld), r65.1, r65.2.1))) else
 some (.go (({ z48.1 with all := z48.2.1, ordered := z48.2.2 } : Wld), z48.2.1, z48.2.2))
def parttop_works_B0 (r1 : Wld × Int) (i23 : Nat) (z23 : Wld × (List Procs) × (List Str)) : Option (Ctl (Wld × (List Procs) × (List Str)) Bool) :=
 (strconv_Itoa (w64 ((i23 : Int) + (1 : Int)))).bind fun r33 =>
 (room ([97, 100, 100, 32, 52, 32] : Str) r33).bind fun u37 =>
 (world_World_Say ({ z23.1 with all := z23.2.1, ordered := r1.1.ordered, way := z23.2.2 } : Wld) (i23 : Int) (([97, 100, 100, 32, 52, 32] : Str) ++ r33)).bind fun r39 =>
 bif r39.2.2.2 != (0 : Int) then (some (.ret false)) else
 some (.go (({ r39.2.2.1 with all := r39.1, ordered := r1.1.ordered, way := r39.2.1 } : Wld), r39.1, r39.2.1))
def parttop_works (fu : Nat) : Option Bool :=
 (world_New (3 : Int)).bind fun r1 =>
 (bif r1.2 != (0 : Int) then (some true) else
 some false).bind fun y18 =>
 bif y18 then (some false) else
 andThen (rangeM (parttop_works_B0 r1) 3 0 (r1.1, r1.1.all, r1.1.way)) fun (y24, l25, l30) =>
 andThen (rangeM (parttop_works_B2 fu) 100 0 (({ y24 with all := l25, ordered := r1.1.ordered, way := l30 } : Wld), l25, r1.1.ordered)) fun (y49, l52, l57) =>
 andThen (rangeM (parttop_works_B4 fu y49 l52 l57) 3 0 ()) fun _ =>
 some true
def partref_Rest (a0 : Int) (a1 : Int) : Option Int :=
 bif decide (a1 ≤ (0 : Int)) then (some (0 : Int)) else
 (nz a1).bind fun u2 =>
 (nz a1).bind fun u4 =>
 some ((w64 ((a0.tmod a1 : Int) + a1)).tmod a1 : Int)
def parttop_few (a0 : Int) : Option Int :=
 (partref_Rest a0 (6 : Int)).bind fun r1 =>
 some (w64 (r1 + (1 : Int)))
def lane_Sends_B0 (a0 : From) (a1 : Int) (i11 : Nat) (z11 : (List Parcel)) : Option (List Parcel) :=
 (lat a0.Late (i11 : Int)).bind fun x16 =>
 bif decide ((i11 : Int) < a1) then ((room z11 ([({ Parcel.zero with Seq := w64 (a0.Base + (i11 : Int)), Text := x16 } : Parcel)] : List Parcel)).bind fun u22 =>
 some (z11 ++ ([({ Parcel.zero with Seq := w64 (a0.Base + (i11 : Int)), Text := x16 } : Parcel)] : List Parcel))) else
 some z11
def lane_Sends (a0 : From) (a1 : Int) : Option ((List Parcel) × Int) :=
 (lane_CheckFrom a0).bind fun r4 =>
 bif r4 != (0 : Int) then (some (([] : List Parcel), r4)) else
 (rangeF (lane_Sends_B0 a0 a1) a0.Late.length 0 ([] : List Parcel)).bind fun l13 =>
 some (l13, (0 : Int))
def world_World_Again_B0 (a0 : Wld) (a1 : Int) (r15 : (List Parcel) × Int) (i21 : Nat) (z21 : Wld × (List Str)) : Option (Wld × (List Str)) :=
 (lat r15.1 (i21 : Int)).bind fun x27 =>
 (world_World_sequencer ({ z21.1 with all := a0.all, ordered := a0.ordered, way := z21.2 } : Wld)).bind fun r32 =>
 (world_World_send ({ z21.1 with all := a0.all, ordered := a0.ordered, way := z21.2 } : Wld) (1 : Int) a1 r32 x27.Seq x27.Text).bind fun r36 =>
 some (({ r36.2 with all := a0.all, ordered := a0.ordered, way := r36.1 } : Wld), r36.1)
def world_World_Again (a0 : Wld) (a1 : Int) : Option ((List Str) × Wld × Int) :=
 (world_World_working a0 a1).bind fun r6 =>
 bif r6 != (0 : Int) then (some (a0.way, a0, r6)) else
 (lat a0.all a1).bind fun x11 =>
 (lane_Sends x11.from_ (4 : Int)).bind fun r15 =>
 (rangeF (world_World_Again_B0 a0 a1 r15) r15.1.length 0 (a0, a0.way)).bind fun (y22, l24) =>
 (world_World_sequencer ({ y22 with all := a0.all, ordered := a0.ordered, way := l24 } : Wld)).bind fun r41 =>
 (lat a0.all a1).bind fun x45 =>
 (world_World_send ({ y22 with all := a0.all, ordered := a0.ordered, way := l24 } : Wld) (3 : Int) a1 r41 x45.to.Next ([] : Str)).bind fun r49 =>
 some (r49.1, ({ r49.2 with all := a0.all, ordered := a0.ordered, way := r49.1 } : Wld), (0 : Int))
def world_World_Fall (a0 : Wld) (a1 : Int) : Option ((List Procs) × Wld × Int) :=
 (world_World_known a0 a1).bind fun r6 =>
 bif r6 != (0 : Int) then (some (a0.all, a0, r6)) else
 (lat a0.all a1).bind fun x11 =>
 Let (a0.all.set a1.toNat ({ x11 with fallen := true } : Procs)) fun p15 =>
 some (p15, ({ a0 with all := p15 } : Wld), (0 : Int))
def math_bits_OnesCount8 (a0 : BitVec 8) : Option Int :=
 (lat ([0, 1, 1, 2, 1, 2, 2, 3, 1, 2, 2, 3, 2, 3, 3, 4, 1, 2, 2, 3, 2, 3, 3, 4, 2, 3, 3, 4, 3, 4, 4, 5, 1, 2, 2, 3, 2, 3, 3, 4, 2, 3, 3, 4, 3, 4, 4, 5, 2, 3, 3, 4, 3, 4, 4, 5, 3, 4, 4, 5, 4, 5, 5, 6, 1, 2, 2, 3, 2, 3, 3, 4, 2, 3, 3, 4, 3, 4, 4, 5, 2, 3, 3, 4, 3, 4, 4, 5, 3, 4, 4, 5, 4, 5, 5, 6, 2, 3, 3, 4, 3, 4, 4, 5, 3, 4, 4, 5, 4, 5, 5, 6, 3, 4, 4, 5, 4, 5, 5, 6, 4, 5, 5, 6, 5, 6, 6, 7, 1, 2, 2, 3, 2, 3, 3, 4, 2, 3, 3, 4, 3, 4, 4, 5, 2, 3, 3, 4, 3, 4, 4, 5, 3, 4, 4, 5, 4, 5, 5, 6, 2, 3, 3, 4, 3, 4, 4, 5, 3, 4, 4, 5, 4, 5, 5, 6, 3, 4, 4, 5, 4, 5, 5, 6, 4, 5, 5, 6, 5, 6, 6, 7, 2, 3, 3, 4, 3, 4, 4, 5, 3, 4, 4, 5, 4, 5, 5, 6, 3, 4, 4, 5, 4, 5, 5, 6, 4, 5, 5, 6, 5, 6, 6, 7, 3, 4, 4, 5, 4, 5, 5, 6, 4, 5, 5, 6, 5, 6, 6, 7, 4, 5, 5, 6, 5, 6, 6, 7, 5, 6, 6, 7, 6, 7, 7, 8] : Str) (a0.toNat : Int)).bind fun x1 =>
 some (x1.toBitVec.toNat : Int)
def view_half (a0 : BitVec 8) (a1 : BitVec 8) : Option Bool :=
 (math_bits_OnesCount8 (a0 &&& a1)).bind fun r1 =>
 (math_bits_OnesCount8 a1).bind fun r5 =>
 some (decide ((w64 ((2 : Int) * r1)) > r5))
def view_Next (a0 : View) (a1 : BitVec 8) (a2 : BitVec 8) : Option (View × Int) :=
 (view_Check a0).bind fun r5 =>
 bif r5 != (0 : Int) then (some (View.zero, r5)) else
 (view_outside (a1 ||| a2)).bind fun r10 =>
 (bif r10 then (some true) else
 some (((a1 &&& a2).toNat : Int) != ((0 : BitVec 8).toNat : Int))).bind fun y15 =>
 bif y15 then (some (View.zero, (1 : Int))) else
 bif a0.Num == (16777215 : Int) then (some (View.zero, (8 : Int))) else
 (view_half (a0.Members &&& ~~~a1) a0.Members).bind fun r21 =>
 bif !r21 then (some (View.zero, (11 : Int))) else
 some (({ View.zero with Num := w64 (a0.Num + (1 : Int)), Members := (a0.Members &&& ~~~a1) ||| a2 } : View), (0 : Int))
def world_World_Change_B5 (i37 : Nat) (m68 : List Saying) (i72 : Nat) (z72 : Int) : Option Int :=
 (lat m68 (i72 : Int)).bind fun x76 =>
 bif x76.From == (i37 : Int) then (some (w64 (z72 + (1 : Int)))) else
 some z72
def world_World_Change_B3 (a0 : Wld) (i37 : Nat) (z37 : (List Saying) × Wld × (List Procs)) : Option ((List Saying) × Wld × (List Procs)) :=
 (lat z37.2.2 (i37 : Int)).bind fun x49 =>
 ((world_World_active ({ z37.2.1 with all := z37.2.2, ordered := a0.ordered, way := a0.way } : Wld) (i37 : Int)).bind fun r63 =>
 bif r63 then ((cutL z37.1 (x49.log.length : Int) (z37.1.length : Int)).bind fun m68 =>
 (rangeF (world_World_Change_B5 i37 m68) m68.length 0 (0 : Int)).bind fun y73 =>
 (slices_Clone_api_Saying_api_Saying z37.1).bind fun r82 =>
 Let (z37.2.2.set (i37 : Int).toNat ({ x49 with log := r82 } : Procs)) fun p89 =>
 (lat p89 (i37 : Int)).bind fun x94 =>
 (lat p89 (i37 : Int)).bind fun x98 =>
 (cutL x94.from_.Late (min y73 (x98.from_.Late.length : Int)) (x94.from_.Late.length : Int)).bind fun m102 =>
 (slices_Clone_string_string m102).bind fun r107 =>
 Let r107 fun l115 =>
 (lat p89 (i37 : Int)).bind fun x130 =>
 Let (p89.set (i37 : Int).toNat ({ x130 with from_ := ({ From.zero with Late := l115 } : From) } : Procs)) fun p138 =>
 (lat p138 (i37 : Int)).bind fun x143 =>
 Let (p138.set (i37 : Int).toNat ({ x143 with to := To.zero } : Procs)) fun p147 =>
 some (z37.1, ({ z37.2.1 with all := p147, ordered := a0.ordered, way := a0.way } : Wld), p147)) else
 some (z37.1, ({ z37.2.1 with all := z37.2.2, ordered := a0.ordered, way := a0.way } : Wld), z37.2.2)).bind fun (l54, y55, l57) =>
 (lat l57 (i37 : Int)).bind fun x155 =>
 Let (l57.set (i37 : Int).toNat ({ x155 with orders := To.zero } : Procs)) fun p159 =>
 some (l54, ({ y55 with all := p159, ordered := a0.ordered, way := a0.way } : Wld), p159)
def world_World_Change_B0 (a0 : Wld) (i9 : Nat) (z9 : (BitVec 8) × (List Saying)) : Option ((BitVec 8) × (List Saying)) :=
 (world_World_active a0 (i9 : Int)).bind fun r16 =>
 bif r16 then ((lat a0.all (i9 : Int)).bind fun x24 =>
 bif decide ((x24.log.length : Int) > (z9.2.length : Int)) then (some (z9.1, x24.log)) else
 some (z9.1, z9.2)) else
 (cnt (i9 : Int)).bind fun n21 =>
 some (z9.1 ||| (a0.view.Members &&& ((1 : BitVec 8) <<< n21)), z9.2)
def world_World_Change (a0 : Wld) : Option ((List Procs) × Wld × Int) :=
 (rangeF (world_World_Change_B0 a0) a0.all.length 0 ((0 : BitVec 8), ([] : List Saying))).bind fun (y10, l12) =>
 (view_Next a0.view y10 (0 : BitVec 8)).bind fun r29 =>
 bif r29.2 != (0 : Int) then (some (a0.all, a0, r29.2)) else
 (rangeF (world_World_Change_B3 a0) a0.all.length 0 (l12, a0, a0.all)).bind fun (l39, y40, l42) =>
 some (l42, ({ y40 with view := r29.1, all := l42, ordered := ([] : List Str), way := a0.way } : Wld), (0 : Int))
def parttop_doOf (fu : Nat) (a0 : Wld) (a1 : Deed) : Option ((List Procs) × Wld × Int) :=
 bif a1.Kind == (1 : Int) then ((world_World_Say a0 a1.Who a1.Text).bind fun r9 =>
 some (r9.1, ({ r9.2.2.1 with all := r9.1, ordered := a0.ordered, way := r9.2.1 } : Wld), r9.2.2.2)) else
 bif a1.Kind == (2 : Int) then ((world_World_Again a0 a1.Who).bind fun r18 =>
 some (a0.all, ({ r18.2.1 with all := a0.all, ordered := a0.ordered, way := r18.1 } : Wld), r18.2.2)) else
 bif a1.Kind == (3 : Int) then ((world_World_Move fu a0 a1.Who a1.How).bind fun r24 =>
 some (r24.1, ({ r24.2.2.1 with all := r24.1, ordered := r24.2.1 } : Wld), r24.2.2.2)) else
 bif a1.Kind == (4 : Int) then ((world_World_Fall a0 a1.Who).bind fun r35 =>
 some (r35.1, ({ r35.2.1 with all := r35.1, ordered := a0.ordered, way := a0.way } : Wld), r35.2.2)) else
 bif a1.Kind == (5 : Int) then ((world_World_Change a0).bind fun r43 =>
 some (r43.1, ({ r43.2.1 with all := r43.1, way := a0.way } : Wld), r43.2.2)) else
 some (a0.all, a0, (1 : Int))
def slices_Grow_api_Deed_api_Deed (a1 : Int) : Option (List Deed) :=
 bif decide (a1 < (0 : Int)) then (none) else
 (bif decide ((w64 (a1 - (w64 ((0 : Int) - (0 : Int))))) > (0 : Int)) then ((mkLen (w64 (a1 - (w64 ((0 : Int) - (0 : Int)))))).bind fun n10 =>
 (cutL (List.replicate n10 Deed.zero) 0 (0 : Int)).bind fun m14 =>
 some m14) else
 some ([] : List Deed)).bind fun l4 =>
 some l4
def slices_Concat_api_Deed_api_Deed_B2 (a0 : List (List Deed)) (i19 : Nat) (z19 : (List Deed)) : Option (List Deed) :=
 (lat a0 (i19 : Int)).bind fun x24 =>
 (room z19 x24).bind fun u28 =>
 some (z19 ++ x24)
def slices_Concat_api_Deed_api_Deed_B0 (a0 : List (List Deed)) (i3 : Nat) (z3 : Int) : Option Int :=
 (lat a0 (i3 : Int)).bind fun x7 =>
 bif decide ((w64 (z3 + (x7.length : Int))) < (0 : Int)) then (none) else
 some (w64 (z3 + (x7.length : Int)))
def slices_Concat_api_Deed_api_Deed (a0 : List (List Deed)) : Option (List Deed) :=
 (rangeF (slices_Concat_api_Deed_api_Deed_B0 a0) a0.length 0 (0 : Int)).bind fun y4 =>
 (slices_Grow_api_Deed_api_Deed y4).bind fun r12 =>
 (rangeF (slices_Concat_api_Deed_api_Deed_B2 a0) a0.length 0 r12).bind fun l21 =>
 some l21
def slices_Equal_api_Saying_api_Saying_B0 (a0 : List Saying) (a1 : List Saying) (i2 : Nat) (z2 : Unit) : Option (Ctl Unit Bool) :=
 (lat a0 (i2 : Int)).bind fun x5 =>
 (lat a1 (i2 : Int)).bind fun x8 =>
 bif !(decide (x5 = x8)) then (some (.ret false)) else
 some (.go ())
def slices_Equal_api_Saying_api_Saying (a0 : List Saying) (a1 : List Saying) : Option Bool :=
 bif (a0.length : Int) != (a1.length : Int) then (some false) else
 andThen (rangeM (slices_Equal_api_Saying_api_Saying_B0 a0 a1) a0.length 0 ()) fun _ =>
 some true
def parttop_TopReplay_B4 (y50 : Wld) (l57 : List Procs) (y95 : Wld) (l100 : List Procs) (i113 : Nat) (z113 : Unit) : Option (Ctl Unit (Unit ⊕ (Ctl (Wld × (List Procs)) Bool))) :=
 (world_World_Log ({ y50 with all := l57 } : Wld) (i113 : Int)).bind fun r117 =>
 (world_World_Log ({ y95 with all := l100 } : Wld) (i113 : Int)).bind fun r123 =>
 (slices_Equal_api_Saying_api_Saying r117.1 r123.1).bind fun r129 =>
 bif !r129 then (some (.ret (.inr (.ret false)))) else
 some (.go ())
def parttop_TopReplay_B2 (fu : Nat) (a1 : List Deed) (r6 : Int) (y50 : Wld) (l56 : List Int) (l57 : List Procs) (r88 : (List Deed)) (i94 : Nat) (z94 : Wld × (List Procs)) : Option (Ctl (Wld × (List Procs)) Bool) :=
 (lat r88 (i94 : Int)).bind fun x106 =>
 andThen (bif (i94 : Int) == (a1.length : Int) then ((upTo r6).bind fun nn116 =>
 andThen (rangeM (parttop_TopReplay_B4 y50 l57 z94.1 z94.2) nn116 0 ()) fun _ =>
 some (.inl ())) else
 some (.inl ())) fun _ =>
 (parttop_doOf fu ({ z94.1 with all := z94.2 } : Wld) x106).bind fun r137 =>
 (bif decide ((i94 : Int) < (l56.length : Int)) then ((lat l56 (i94 : Int)).bind fun x151 =>
 some (r137.2.2 != x151)) else
 some false).bind fun y149 =>
 bif y149 then (some (.ret false)) else
 some (.go (({ r137.2.1 with all := r137.1 } : Wld), r137.1))
def parttop_TopReplay_B0 (fu : Nat) (a1 : List Deed) (i49 : Nat) (z49 : Wld × (List Int) × (List Procs)) : Option (Wld × (List Int) × (List Procs)) :=
 (lat a1 (i49 : Int)).bind fun x63 =>
 (parttop_doOf fu ({ z49.1 with all := z49.2.2 } : Wld) x63).bind fun r68 =>
 (room z49.2.1 ([r68.2.2] : List Int)).bind fun u81 =>
 some (({ r68.2.1 with all := r68.1 } : Wld), z49.2.1 ++ ([r68.2.2] : List Int), r68.1)
def parttop_TopReplay (fu : Nat) (a0 : Int) (a1 : List Deed) (a2 : List Deed) : Option Bool :=
 (parttop_works fu).bind fun r1 =>
 bif !r1 then (some false) else
 (parttop_few a0).bind fun r6 =>
 (world_New r6).bind fun r10 =>
 (world_New r6).bind fun r26 =>
 (bif r10.2 != (0 : Int) then (some true) else
 some (r26.2 != (0 : Int))).bind fun y43 =>
 bif y43 then (some false) else
 (rangeF (parttop_TopReplay_B0 fu a1) a1.length 0 (r10.1, ([] : List Int), r10.1.all)).bind fun (y50, l56, l57) =>
 (slices_Concat_api_Deed_api_Deed ([a1, a2] : List (List Deed))).bind fun r88 =>
 andThen (rangeM (parttop_TopReplay_B2 fu a1 r6 y50 l56 l57 r88) r88.length 0 (r26.1, r26.1.all)) fun (y95, l100) =>
 some true
end Go.Proofs.YtchmclllcdknjaaGreatDoor
