/-
  What the functions compute, typed; printed by a program.
-/
import Derived.Test.YtobikknjaomalaaGoI
import Derived.Test.YtobikknjaomalaaGoS
namespace Go.Proofs.Ytobikknjaomalaa
open Go.RowKit Enc
set_option linter.unusedVariables false
set_option linter.unusedSimpArgs false
structure View where
  Num : Int
  Members : BitVec 8
instance : DecidableEq View := fun a b => decidable_of_iff (a.Num = b.Num ∧ a.Members = b.Members) (by cases a; cases b; simp)
def View.zero : View := ⟨(0 : Int), (0 : BitVec 8)⟩
instance : Enc View := ⟨fun p => enc p.Num ++ (enc p.Members), 2, fun p => by simp only [List.length_append, Enc.len]; rfl, fun p => by simp only [List.all_append, Enc.one, Bool.and_self]⟩
theorem View.get_Num {p : View} {k : Nat} {ch : List Value} (h : Get (enc p.Num) k ch) : Get (enc p) (0 + k) ch := Get.off (Get.left h) (by omega)
theorem View.put_Num {p : View} {k : Nat} {vs : List Value} {y : Int} (h : Put (enc p.Num) k vs (enc y)) : Put (enc p) (0 + k) vs (enc ({ p with Num := y } : View)) := Put.off (cs' := enc ({ p with Num := y } : View)) (Put.left h) (by omega)
theorem View.get_Members {p : View} {k : Nat} {ch : List Value} (h : Get (enc p.Members) k ch) : Get (enc p) (1 + k) ch := Get.off (Get.right (m := 1) (Enc.len _) h) (by omega)
theorem View.put_Members {p : View} {k : Nat} {vs : List Value} {y : BitVec 8} (h : Put (enc p.Members) k vs (enc y)) : Put (enc p) (1 + k) vs (enc ({ p with Members := y } : View)) := Put.off (cs' := enc ({ p with Members := y } : View)) (Put.right (m := 1) (Enc.len _) h) (by omega)
instance : Rng View := ⟨fun p => Rng.ok p.Num ∧ Rng.ok p.Members⟩
structure Flush where
  View_ : View
  Gone : BitVec 8
  Told : Vector (List Int) 6
instance : DecidableEq Flush := fun a b => decidable_of_iff (a.View_ = b.View_ ∧ a.Gone = b.Gone ∧ a.Told = b.Told) (by cases a; cases b; simp)
def Flush.zero : Flush := ⟨View.zero, (0 : BitVec 8), (Vector.replicate 6 [])⟩
instance : Rng Flush := ⟨fun p => Rng.ok p.View_ ∧ Rng.ok p.Gone ∧ Rng.ok p.Told⟩
def partref_ViewErr (a0 : View) : Option Int :=
 (bif decide (a0.Num < (0 : Int)) then (some true) else
 some (decide (a0.Num > (16777215 : Int)))).bind fun y4 =>
 (bif y4 then (some true) else
 some (decide ((a0.Members.toNat : Int) < ((1 : BitVec 8).toNat : Int)))).bind fun y9 =>
 (bif y9 then (some true) else
 some (decide ((a0.Members.toNat : Int) > ((63 : BitVec 8).toNat : Int)))).bind fun y14 =>
 bif y14 then (some (1 : Int)) else
 some (0 : Int)
def slices_Index_int_int_B0 (a0 : List Int) (a1 : Int) (i1 : Nat) (z1 : Unit) : Option (Ctl Unit Int) :=
 (lat a0 (i1 : Int)).bind fun x4 =>
 bif a1 == x4 then (some (.ret (i1 : Int))) else
 some (.go ())
def slices_Index_int_int (a0 : List Int) (a1 : Int) : Option Int :=
 andThen (rangeM (slices_Index_int_int_B0 a0 a1) a0.length 0 ()) fun _ =>
 some (-1 : Int)
def partref_twice_B0 (a0 : List Int) (i1 : Nat) (z1 : Unit) : Option (Ctl Unit Bool) :=
 (lat a0 (i1 : Int)).bind fun x4 =>
 (bif decide (x4 < (0 : Int)) then (some true) else
 some (decide (x4 > (29 : Int)))).bind fun y8 =>
 (bif y8 then (some true) else
 (slices_Index_int_int a0 x4).bind fun r15 =>
 some (r15 != (i1 : Int))).bind fun y13 =>
 bif y13 then (some (.ret true)) else
 some (.go ())
def partref_twice (a0 : List Int) : Option Bool :=
 andThen (rangeM (partref_twice_B0 a0) a0.length 0 ()) fun _ =>
 some false
def partref_FlushErr_B0 (a0 : Flush) (i9 : Nat) (z9 : Unit) : Option (Ctl Unit Int) :=
 (vat a0.Told (i9 : Int)).bind fun x12 =>
 bif decide ((x12.length : Int) > (30 : Int)) then (some (.ret (2 : Int))) else
 (bif decide ((x12.length : Int) > (0 : Int)) then ((cnt (i9 : Int)).bind fun n20 =>
 some ((((a0.View_.Members >>> n20) % (2 : BitVec 8)).toNat : Int) == ((0 : BitVec 8).toNat : Int))) else
 some false).bind fun y18 =>
 (bif y18 then (some true) else
 (partref_twice x12).bind fun r28 =>
 some r28).bind fun y26 =>
 bif y26 then (some (.ret (4 : Int))) else
 some (.go ())
def partref_FlushErr (a0 : Flush) : Option Int :=
 (partref_ViewErr a0.View_).bind fun r3 =>
 bif r3 != (0 : Int) then (some r3) else
 bif ((a0.Gone ||| a0.View_.Members).toNat : Int) != (a0.View_.Members.toNat : Int) then (some (4 : Int)) else
 andThen (rangeM (partref_FlushErr_B0 a0) 6 0 ()) fun _ =>
 some (0 : Int)
def view_outside (a0 : BitVec 8) : Option Bool :=
 some (((a0 >>> 6).toNat : Int) != ((0 : BitVec 8).toNat : Int))
def view_Check (a0 : View) : Option Int :=
 (bif decide (a0.Num < (0 : Int)) then (some true) else
 some (decide (a0.Num > (16777215 : Int)))).bind fun y4 =>
 (bif y4 then (some true) else
 some ((a0.Members.toNat : Int) == ((0 : BitVec 8).toNat : Int))).bind fun y9 =>
 (bif y9 then (some true) else
 (view_outside a0.Members).bind fun r16 =>
 some r16).bind fun y14 =>
 bif y14 then (some (1 : Int)) else
 some (0 : Int)
def flush_New (a0 : BitVec 8) : Option (Flush × Int) :=
 (view_Check ({ View.zero with Members := a0 } : View)).bind fun r11 =>
 bif r11 != (0 : Int) then (some (Flush.zero, r11)) else
 some (({ Flush.zero with View_ := ({ View.zero with Members := a0 } : View) } : Flush), (0 : Int))
def flush_in (a0 : Int) (a1 : Int) (a2 : Int) : Option Bool :=
 (bif decide (a0 ≥ a1) then (some (decide (a0 ≤ a2))) else
 some false).bind fun y2 =>
 some y2
def flush_message (a0 : Int) : Option Bool :=
 (flush_in a0 (0 : Int) (29 : Int)).bind fun r1 =>
 some r1
def slices_Contains_int_int (a0 : List Int) (a1 : Int) : Option Bool :=
 (slices_Index_int_int a0 a1).bind fun r1 =>
 some (decide (r1 ≥ (0 : Int)))
def flush_Check_B3 (x12 : List Int) (i26 : Nat) (z26 : Unit) : Option (Ctl Unit (Ctl Unit Int)) :=
 (lat x12 (i26 : Int)).bind fun x29 =>
 (flush_message x29).bind fun r32 =>
 (bif !r32 then (some true) else
 (cutL x12 0 (i26 : Int)).bind fun m39 =>
 (slices_Contains_int_int m39 x29).bind fun r44 =>
 some r44).bind fun y37 =>
 bif y37 then (some (.ret (.ret (4 : Int)))) else
 some (.go ())
def flush_Check_B0 (a0 : Flush) (i9 : Nat) (z9 : Unit) : Option (Ctl Unit Int) :=
 (vat a0.Told (i9 : Int)).bind fun x12 =>
 bif decide ((x12.length : Int) > (30 : Int)) then (some (.ret (2 : Int))) else
 (bif decide ((x12.length : Int) > (0 : Int)) then ((cnt (i9 : Int)).bind fun n20 =>
 some ((((a0.View_.Members >>> n20) &&& (1 : BitVec 8)).toNat : Int) == ((0 : BitVec 8).toNat : Int))) else
 some false).bind fun y18 =>
 bif y18 then (some (.ret (4 : Int))) else
 andThen (rangeM (flush_Check_B3 x12) x12.length 0 ()) fun _ =>
 some (.go ())
def flush_Check (a0 : Flush) : Option Int :=
 (view_Check a0.View_).bind fun r3 =>
 bif r3 != (0 : Int) then (some r3) else
 bif ((a0.Gone &&& ~~~a0.View_.Members).toNat : Int) != ((0 : BitVec 8).toNat : Int) then (some (4 : Int)) else
 andThen (rangeM (flush_Check_B0 a0) 6 0 ()) fun _ =>
 some (0 : Int)
def flush_process (a0 : Int) : Option Bool :=
 (flush_in a0 (0 : Int) (5 : Int)).bind fun r1 =>
 some r1
def slices_Clone_int_int (a0 : List Int) : Option (List Int) :=
 (room ([] : List Int) a0).bind fun u5 =>
 some (([] : List Int) ++ a0)
def flush_clone_B0 (a0 : Flush) (i7 : Nat) (z7 : Flush) : Option Flush :=
 (vat a0.Told (i7 : Int)).bind fun x15 =>
 (slices_Clone_int_int x15).bind fun r19 =>
 (vat z7.Told (i7 : Int)).bind fun x25 =>
 Let (z7.Told.setIfInBounds (i7 : Int).toNat r19) fun p29 =>
 some ({ z7 with Told := p29 } : Flush)
def flush_clone (a0 : Flush) : Option Flush :=
 (rangeF (flush_clone_B0 a0) 6 0 a0).bind fun y9 =>
 some y9
def flush_Tell (a0 : Flush) (a1 : Int) (a2 : Int) : Option (Flush × Int) :=
 (flush_Check a0).bind fun r7 =>
 bif r7 != (0 : Int) then (some (Flush.zero, r7)) else
 (flush_process a1).bind fun r14 =>
 (bif !r14 then (some true) else
 (flush_message a2).bind fun r21 =>
 some (!r21)).bind fun y19 =>
 bif y19 then (some (Flush.zero, (1 : Int))) else
 (cnt a1).bind fun n30 =>
 bif ((((a0.View_.Members &&& ~~~a0.Gone) >>> n30) &&& (1 : BitVec 8)).toNat : Int) == ((0 : BitVec 8).toNat : Int) then (some (Flush.zero, (11 : Int))) else
 (vat a0.Told a1).bind fun x36 =>
 (slices_Contains_int_int x36 a2).bind fun r40 =>
 bif r40 then (some (Flush.zero, (7 : Int))) else
 (flush_clone a0).bind fun r47 =>
 (vat r47.Told a1).bind fun x58 =>
 (room x58 ([a2] : List Int)).bind fun u65 =>
 (vat r47.Told a1).bind fun x68 =>
 Let (r47.Told.setIfInBounds a1.toNat (x58 ++ ([a2] : List Int))) fun p72 =>
 some (({ r47 with Told := p72 } : Flush), (0 : Int))
def flush_Fall (a0 : Flush) (a1 : Int) : Option (Flush × Int) :=
 (flush_Check a0).bind fun r7 =>
 bif r7 != (0 : Int) then (some (Flush.zero, r7)) else
 (flush_process a1).bind fun r14 =>
 bif !r14 then (some (Flush.zero, (1 : Int))) else
 (flush_clone a0).bind fun r21 =>
 (cnt a1).bind fun n32 =>
 Let (r21.Gone ||| (r21.View_.Members &&& ((1 : BitVec 8) <<< n32))) fun p35 =>
 some (({ r21 with Gone := p35 } : Flush), (0 : Int))
def math_bits_OnesCount8 (a0 : BitVec 8) : Option Int :=
 (lat ([0, 1, 1, 2, 1, 2, 2, 3, 1, 2, 2, 3, 2, 3, 3, 4, 1, 2, 2, 3, 2, 3, 3, 4, 2, 3, 3, 4, 3, 4, 4, 5, 1, 2, 2, 3, 2, 3, 3, 4, 2, 3, 3, 4, 3, 4, 4, 5, 2, 3, 3, 4, 3, 4, 4, 5, 3, 4, 4, 5, 4, 5, 5, 6, 1, 2, 2, 3, 2, 3, 3, 4, 2, 3, 3, 4, 3, 4, 4, 5, 2, 3, 3, 4, 3, 4, 4, 5, 3, 4, 4, 5, 4, 5, 5, 6, 2, 3, 3, 4, 3, 4, 4, 5, 3, 4, 4, 5, 4, 5, 5, 6, 3, 4, 4, 5, 4, 5, 5, 6, 4, 5, 5, 6, 5, 6, 6, 7, 1, 2, 2, 3, 2, 3, 3, 4, 2, 3, 3, 4, 3, 4, 4, 5, 2, 3, 3, 4, 3, 4, 4, 5, 3, 4, 4, 5, 4, 5, 5, 6, 2, 3, 3, 4, 3, 4, 4, 5, 3, 4, 4, 5, 4, 5, 5, 6, 3, 4, 4, 5, 4, 5, 5, 6, 4, 5, 5, 6, 5, 6, 6, 7, 2, 3, 3, 4, 3, 4, 4, 5, 3, 4, 4, 5, 4, 5, 5, 6, 3, 4, 4, 5, 4, 5, 5, 6, 4, 5, 5, 6, 5, 6, 6, 7, 3, 4, 4, 5, 4, 5, 5, 6, 4, 5, 5, 6, 5, 6, 6, 7, 4, 5, 5, 6, 5, 6, 6, 7, 5, 6, 6, 7, 6, 7, 7, 8] : Str) (a0.toNat : Int)).bind fun x1 =>
 some (x1.toBitVec.toNat : Int)
def view_half (a0 : BitVec 8) (a1 : BitVec 8) : Option Bool :=
 (math_bits_OnesCount8 (a0 &&& a1)).bind fun r1 =>
 (math_bits_OnesCount8 a1).bind fun r5 =>
 some (decide ((w64 ((2 : Int) * r1)) > r5))
def view_Next (a0 : View) (a1 : BitVec 8) (a2 : BitVec 8) : Option (View × Int) :=
 (view_Check a0).bind fun r5 =>
 bif r5 != (0 : Int) then (some (View.zero, r5)) else
 (view_outside (a1 ||| a2)).bind fun r10 =>
 (bif r10 then (some true) else
 some (((a1 &&& a2).toNat : Int) != ((0 : BitVec 8).toNat : Int))).bind fun y15 =>
 bif y15 then (some (View.zero, (1 : Int))) else
 bif a0.Num == (16777215 : Int) then (some (View.zero, (8 : Int))) else
 (view_half (a0.Members &&& ~~~a1) a0.Members).bind fun r21 =>
 bif !r21 then (some (View.zero, (11 : Int))) else
 some (({ View.zero with Num := w64 (a0.Num + (1 : Int)), Members := (a0.Members &&& ~~~a1) ||| a2 } : View), (0 : Int))
def flush_Change_B2 (a0 : Flush) (i33 : Nat) (x37 : List Int) (i41 : Nat) (z41 : (Vector Bool 30)) : Option (Vector Bool 30) :=
 (lat x37 (i41 : Int)).bind fun x45 =>
 (vat z41 x45).bind fun x48 =>
 (bif x48 then (some true) else
 (cnt (i33 : Int)).bind fun n54 =>
 some (((((a0.View_.Members &&& ~~~a0.Gone) >>> n54) &&& (1 : BitVec 8)).toNat : Int) == ((1 : BitVec 8).toNat : Int))).bind fun y52 =>
 (vat z41 x45).bind fun x59 =>
 Let (z41.setIfInBounds x45.toNat y52) fun p62 =>
 some p62
def flush_Change_B6 (a0 : Flush) (y34 : Vector Bool 30) (i69 : Nat) (i76 : Nat) (z76 : (Vector (List Int) 6)) : Option (Vector (List Int) 6) :=
 (vat y34 (i76 : Int)).bind fun x83 =>
 (bif x83 then ((cnt (i69 : Int)).bind fun n89 =>
 some (((((a0.View_.Members &&& ~~~a0.Gone) >>> n89) &&& (1 : BitVec 8)).toNat : Int) == ((1 : BitVec 8).toNat : Int))) else
 some false).bind fun y87 =>
 (bif y87 then ((vat a0.Told (i69 : Int)).bind fun x97 =>
 (slices_Contains_int_int x97 (i76 : Int)).bind fun r101 =>
 some (!r101)) else
 some false).bind fun y95 =>
 bif y95 then ((vat z76 (i69 : Int)).bind fun x108 =>
 (room x108 ([(i76 : Int)] : List Int)).bind fun u115 =>
 (vat z76 (i69 : Int)).bind fun x118 =>
 Let (z76.setIfInBounds (i69 : Int).toNat (x108 ++ ([(i76 : Int)] : List Int))) fun p122 =>
 some p122) else
 some z76
def flush_Change_B4 (a0 : Flush) (y34 : Vector Bool 30) (i69 : Nat) (z69 : (Vector (List Int) 6)) : Option (Vector (List Int) 6) :=
 (rangeF (flush_Change_B6 a0 y34 i69) 30 0 z69).bind fun l78 =>
 some l78
def flush_Change_B0 (a0 : Flush) (i33 : Nat) (z33 : (Vector Bool 30)) : Option (Vector Bool 30) :=
 (vat a0.Told (i33 : Int)).bind fun x37 =>
 (rangeF (flush_Change_B2 a0 i33 x37) x37.length 0 z33).bind fun y42 =>
 some y42
def flush_Change (a0 : Flush) (a1 : BitVec 8) : Option (Flush × (Vector (List Int) 6) × Int) :=
 (flush_Check a0).bind fun r11 =>
 bif r11 != (0 : Int) then (some (Flush.zero, (Vector.replicate 6 [] : Vector (List Int) 6), r11)) else
 (view_Next a0.View_ a0.Gone a1).bind fun r20 =>
 bif r20.2 != (0 : Int) then (some (Flush.zero, (Vector.replicate 6 [] : Vector (List Int) 6), r20.2)) else
 (rangeF (flush_Change_B0 a0) 6 0 (Vector.replicate 30 false)).bind fun y34 =>
 (rangeF (flush_Change_B4 a0 y34) 6 0 (Vector.replicate 6 [] : Vector (List Int) 6)).bind fun l71 =>
 Let (l71, ({ Flush.zero with View_ := r20.1 } : Flush)) fun (l129, y132) =>
 some (y132, l129, (0 : Int))
def slices_Equal_int_int_B0 (a0 : List Int) (a1 : List Int) (i2 : Nat) (z2 : Unit) : Option (Ctl Unit Bool) :=
 (lat a0 (i2 : Int)).bind fun x5 =>
 (lat a1 (i2 : Int)).bind fun x8 =>
 bif x5 != x8 then (some (.ret false)) else
 some (.go ())
def slices_Equal_int_int (a0 : List Int) (a1 : List Int) : Option Bool :=
 bif (a0.length : Int) != (a1.length : Int) then (some false) else
 andThen (rangeM (slices_Equal_int_int_B0 a0 a1) a0.length 0 ()) fun _ =>
 some true
def partref_SameFlush_B0 (a0 : Flush) (a1 : Flush) (i5 : Nat) (z5 : Unit) : Option (Ctl Unit Bool) :=
 (vat a0.Told (i5 : Int)).bind fun x8 =>
 (vat a1.Told (i5 : Int)).bind fun x12 =>
 (slices_Equal_int_int x8 x12).bind fun r16 =>
 bif !r16 then (some (.ret false)) else
 some (.go ())
def partref_SameFlush (a0 : Flush) (a1 : Flush) : Option Bool :=
 andThen (rangeM (partref_SameFlush_B0 a0 a1) 6 0 ()) fun _ =>
 (bif decide (a0.View_ = a1.View_) then (some ((a0.Gone.toNat : Int) == (a1.Gone.toNat : Int))) else
 some false).bind fun y22 =>
 some y22
def partlaw_sameLists_B0 (a0 : Vector (List Int) 6) (a1 : Vector (List Int) 6) (i5 : Nat) (z5 : Unit) : Option (Ctl Unit Bool) :=
 (vat a0 (i5 : Int)).bind fun x8 =>
 (vat a1 (i5 : Int)).bind fun x12 =>
 (slices_Equal_int_int x8 x12).bind fun r16 =>
 bif !r16 then (some (.ret false)) else
 some (.go ())
def partlaw_sameLists (a0 : Vector (List Int) 6) (a1 : Vector (List Int) 6) : Option Bool :=
 andThen (rangeM (partlaw_sameLists_B0 a0 a1) 6 0 ()) fun _ =>
 some true
def partref_size_B0 (z1 : (BitVec 16) × Int) : Option (Ctl ((BitVec 16) × Int) Int) :=
 bif decide ((z1.1.toNat : Int) > ((0 : BitVec 16).toNat : Int)) then (some (.go (z1.1 / (2 : BitVec 16), w64 (z1.2 + ((z1.1 % (2 : BitVec 16)).toNat : Int))))) else
 some (.brk (z1.1, z1.2))
def partref_size (fu : Nat) (a0 : BitVec 16) : Option Int :=
 andThen (whileM (partref_size_B0) fu (a0, (0 : Int))) fun (y2, y3) =>
 some y3
def partref_NextView (fu : Nat) (a0 : View) (a1 : BitVec 8) (a2 : BitVec 8) : Option (View × Int) :=
 (partref_ViewErr a0).bind fun r5 =>
 bif r5 != (0 : Int) then (some (View.zero, r5)) else
 (bif decide ((a1.toNat : Int) > ((63 : BitVec 8).toNat : Int)) then (some true) else
 some (decide ((a2.toNat : Int) > ((63 : BitVec 8).toNat : Int)))).bind fun y11 =>
 (bif y11 then (some true) else
 some (decide (((a1 &&& a2).toNat : Int) > ((0 : BitVec 8).toNat : Int)))).bind fun y16 =>
 bif y16 then (some (View.zero, (1 : Int))) else
 bif a0.Num == (16777215 : Int) then (some (View.zero, (8 : Int))) else
 (partref_size fu (BitVec.ofInt 16 ((a0.Members - (a0.Members &&& a1)).toNat : Int))).bind fun r22 =>
 (partref_size fu (BitVec.ofInt 16 (a0.Members.toNat : Int))).bind fun r26 =>
 bif decide ((w64 ((2 : Int) * r22)) > r26) then (some (({ View.zero with Num := w64 (a0.Num + (1 : Int)), Members := (a0.Members - (a0.Members &&& a1)) ||| a2 } : View), (0 : Int))) else
 some (View.zero, (11 : Int))
def partref_Missing_1 (a0 : Int) (a1 : Flush) : Option Bool :=
 (cnt a0).bind fun n2 =>
 (bif (((a1.View_.Members >>> n2) % (2 : BitVec 8)).toNat : Int) == ((1 : BitVec 8).toNat : Int) then ((cnt a0).bind fun n8 =>
 some ((((a1.Gone >>> n8) % (2 : BitVec 8)).toNat : Int) == ((0 : BitVec 8).toNat : Int))) else
 some false).bind fun y6 =>
 some y6
def partref_Missing_B4 (a0 : Flush) (i18 : Nat) (i25 : Nat) (z25 : Bool) : Option Bool :=
 (vat a0.Told (i25 : Int)).bind fun x29 =>
 bif z25 then (some true) else
 (partref_Missing_1 (i25 : Int) a0).bind fun r34 =>
 (bif r34 then ((slices_Contains_int_int x29 (i18 : Int)).bind fun r41 =>
 some r41) else
 some false).bind fun y39 =>
 some y39
def partref_Missing_B2 (a0 : Flush) (i11 : Nat) (i18 : Nat) (z18 : (Vector (List Int) 6)) : Option (Vector (List Int) 6) :=
 (rangeF (partref_Missing_B4 a0 i18) 6 0 false).bind fun y26 =>
 bif y26 then ((partref_Missing_1 (i11 : Int) a0).bind fun r48 =>
 (bif r48 then ((vat a0.Told (i11 : Int)).bind fun x55 =>
 (slices_Contains_int_int x55 (i18 : Int)).bind fun r59 =>
 some (!r59)) else
 some false).bind fun y53 =>
 bif y53 then ((vat z18 (i11 : Int)).bind fun x66 =>
 (room x66 ([(i18 : Int)] : List Int)).bind fun u73 =>
 (vat z18 (i11 : Int)).bind fun x76 =>
 Let (z18.setIfInBounds (i11 : Int).toNat (x66 ++ ([(i18 : Int)] : List Int))) fun p80 =>
 some p80) else
 some z18) else
 some z18
def partref_Missing_B0 (a0 : Flush) (i11 : Nat) (z11 : (Vector (List Int) 6)) : Option (Vector (List Int) 6) :=
 (rangeF (partref_Missing_B2 a0 i11) 30 0 z11).bind fun l20 =>
 some l20
def partref_Missing (a0 : Flush) : Option (Vector (List Int) 6) :=
 (rangeF (partref_Missing_B0 a0) 6 0 (Vector.replicate 6 [] : Vector (List Int) 6)).bind fun l13 =>
 some l13
def slices_Grow_int_int (a1 : Int) : Option (List Int) :=
 bif decide (a1 < (0 : Int)) then (none) else
 (bif decide ((w64 (a1 - (w64 ((0 : Int) - (0 : Int))))) > (0 : Int)) then ((mkLen (w64 (a1 - (w64 ((0 : Int) - (0 : Int)))))).bind fun n10 =>
 (cutL (List.replicate n10 (0 : Int)) 0 (0 : Int)).bind fun m14 =>
 some m14) else
 some ([] : List Int)).bind fun l4 =>
 some l4
def slices_Concat_int_int_B2 (a0 : List (List Int)) (i19 : Nat) (z19 : (List Int)) : Option (List Int) :=
 (lat a0 (i19 : Int)).bind fun x24 =>
 (room z19 x24).bind fun u28 =>
 some (z19 ++ x24)
def slices_Concat_int_int_B0 (a0 : List (List Int)) (i3 : Nat) (z3 : Int) : Option Int :=
 (lat a0 (i3 : Int)).bind fun x7 =>
 bif decide ((w64 (z3 + (x7.length : Int))) < (0 : Int)) then (none) else
 some (w64 (z3 + (x7.length : Int)))
def slices_Concat_int_int (a0 : List (List Int)) : Option (List Int) :=
 (rangeF (slices_Concat_int_int_B0 a0) a0.length 0 (0 : Int)).bind fun y4 =>
 (slices_Grow_int_int y4).bind fun r12 =>
 (rangeF (slices_Concat_int_int_B2 a0) a0.length 0 r12).bind fun l21 =>
 some l21
def partlaw_FlushSays (fu : Nat) (a0 : Flush) (a1 : BitVec 8) (a2 : Int) (a3 : Int) (a4 : BitVec 8) : Option Bool :=
 (partref_FlushErr a0).bind fun r3 =>
 (flush_New a1).bind fun r13 =>
 (flush_Tell a0 a2 a3).bind fun r24 =>
 (flush_Fall a0 a2).bind fun r35 =>
 (flush_Change a0 a4).bind fun r46 =>
 andThen ((partref_ViewErr ({ View.zero with Members := a1 } : View)).bind fun r71 =>
 bif r71 == (0 : Int) then ((partref_SameFlush r13.1 ({ Flush.zero with View_ := ({ View.zero with Members := a1 } : View) } : Flush)).bind fun r76 =>
 (bif !r76 then (some true) else
 some (r13.2 != (0 : Int))).bind fun y81 =>
 bif y81 then (some (.inr false)) else
 some (.inl ())) else
 (partref_SameFlush r13.1 Flush.zero).bind fun r86 =>
 (bif !r86 then (some true) else
 some (r13.2 != (1 : Int))).bind fun y91 =>
 bif y91 then (some (.inr false)) else
 some (.inl ())) fun _ =>
 (flush_Check a0).bind fun r98 =>
 bif r98 != r3 then (some false) else
 bif r3 != (0 : Int) then ((partref_SameFlush r24.1 Flush.zero).bind fun r104 =>
 (bif r104 then (some (r24.2 == r3)) else
 some false).bind fun y109 =>
 (bif y109 then ((partref_SameFlush r35.1 Flush.zero).bind fun r116 =>
 some r116) else
 some false).bind fun y114 =>
 (bif y114 then (some (r35.2 == r3)) else
 some false).bind fun y123 =>
 (bif y123 then ((partref_SameFlush r46.1 Flush.zero).bind fun r130 =>
 some r130) else
 some false).bind fun y128 =>
 (bif y128 then ((partlaw_sameLists r46.2.1 (Vector.replicate 6 [] : Vector (List Int) 6)).bind fun r141 =>
 some r141) else
 some false).bind fun y137 =>
 (bif y137 then (some (r46.2.2 == r3)) else
 some false).bind fun y148 =>
 some y148) else
 (partref_NextView fu a0.View_ a0.Gone a4).bind fun r152 =>
 andThen (bif r152.2 != (0 : Int) then ((partref_SameFlush r46.1 Flush.zero).bind fun r160 =>
 (bif !r160 then (some true) else
 (partlaw_sameLists r46.2.1 (Vector.replicate 6 [] : Vector (List Int) 6)).bind fun r169 =>
 some (!r169)).bind fun y165 =>
 (bif y165 then (some true) else
 some (r46.2.2 != r152.2)).bind fun y176 =>
 bif y176 then (some (.inr false)) else
 some (.inl ())) else
 (partref_SameFlush r46.1 ({ Flush.zero with View_ := r152.1 } : Flush)).bind fun r183 =>
 bif !r183 then (some (.inr false)) else
 (partref_Missing a0).bind fun r197 =>
 Let (r46.2.1, r197) fun (l206, l210) =>
 (partlaw_sameLists l206 l210).bind fun r225 =>
 (bif !r225 then (some true) else
 some (r46.2.2 != (0 : Int))).bind fun y230 =>
 bif y230 then (some (.inr false)) else
 some (.inl ())) fun _ =>
 (bif decide (a2 < (0 : Int)) then (some true) else
 some (decide (a2 > (5 : Int)))).bind fun y238 =>
 bif y238 then ((partref_SameFlush r24.1 Flush.zero).bind fun r243 =>
 (bif r243 then (some (r24.2 == (1 : Int))) else
 some false).bind fun y248 =>
 (bif y248 then ((partref_SameFlush r35.1 Flush.zero).bind fun r255 =>
 some r255) else
 some false).bind fun y253 =>
 (bif y253 then (some (r35.2 == (1 : Int))) else
 some false).bind fun y262 =>
 some y262) else
 ((cnt a2).bind fun n275 =>
 bif (((a0.View_.Members >>> n275) % (2 : BitVec 8)).toNat : Int) == ((1 : BitVec 8).toNat : Int) then ((cnt a2).bind fun n279 =>
 Let (a0.Gone ||| ((1 : BitVec 8) <<< n279)) fun p282 =>
 some ({ a0 with Gone := p282 } : Flush)) else
 some a0).bind fun y270 =>
 (partref_SameFlush r35.1 y270).bind fun r286 =>
 (bif !r286 then (some true) else
 some (r35.2 != (0 : Int))).bind fun y291 =>
 bif y291 then (some false) else
 ((bif decide (a3 < (0 : Int)) then (some true) else
 some (decide (a3 > (29 : Int)))).bind fun y307 =>
 bif y307 then (some ((1 : Int), a0)) else
 (cnt a2).bind fun n312 =>
 (bif (((a0.View_.Members >>> n312) % (2 : BitVec 8)).toNat : Int) == ((0 : BitVec 8).toNat : Int) then (some true) else
 (cnt a2).bind fun n318 =>
 some ((((a0.Gone >>> n318) % (2 : BitVec 8)).toNat : Int) == ((1 : BitVec 8).toNat : Int))).bind fun y316 =>
 bif y316 then (some ((11 : Int), a0)) else
 (vat a0.Told a2).bind fun x324 =>
 (slices_Contains_int_int x324 a3).bind fun r328 =>
 bif r328 then (some ((7 : Int), a0)) else
 (vat a0.Told a2).bind fun x333 =>
 (slices_Concat_int_int ([x333, ([a3] : List Int)] : List (List Int))).bind fun r347 =>
 (vat a0.Told a2).bind fun x353 =>
 Let (a0.Told.setIfInBounds a2.toNat r347) fun p361 =>
 some ((0 : Int), ({ a0 with Told := p361 } : Flush))).bind fun (y300, y301) =>
 (bif y300 != (0 : Int) then (some Flush.zero) else
 some y301).bind fun y367 =>
 (partref_SameFlush r24.1 y367).bind fun r375 =>
 (bif r375 then (some (r24.2 == y300)) else
 some false).bind fun y380 =>
 some y380
end Go.Proofs.Ytobikknjaomalaa
