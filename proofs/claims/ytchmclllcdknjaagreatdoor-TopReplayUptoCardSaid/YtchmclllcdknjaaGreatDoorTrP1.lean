/-
  The functions compute their specs; printed by a program.
-/
import Derived.Test.YtchmclllcdknjaaGreatDoorTrSp
import Derived.Test.YtchmclllcdknjaaGreatDoorGoL
import Derived.Test.YtchmclllcdknjaaGreatDoorGoK
import Derived.Test.YtchmclllcdknjaaGreatDoorGoI
import Derived.Test.YtchmclllcdknjaaGreatDoorGoU
import Derived.Test.YtchmclllcdknjaaGreatDoorGoS
import Derived.Test.YtchmclllcdknjaaGreatDoorGoR
import Derived.Test.YtchmclllcdknjaaGreatDoorGoO
import Derived.Test.YtchmclllcdknjaaGreatDoorGoX
import Derived.Test.YtchmclllcdknjaaGreatDoorGoZ
import Derived.Shelf.Strconv.Itoa3
import Derived.Test.YtchmclllcdknjaaGreatDoorProg
namespace Go.Proofs.YtchmclllcdknjaaGreatDoor
open Go.RowKit Enc
set_option linter.unusedVariables false
set_option linter.unusedSimpArgs false
structure FromR where
  v : From
  h1 : Sl
instance : Enc FromR := ⟨fun p => enc p.v.Base ++ (enc p.h1), 2, fun p => by simp only [List.length_append, Enc.len]; rfl, fun p => by simp only [List.all_append, Enc.one, Bool.and_self]⟩
theorem FromR.get_Base {p : FromR} {k : Nat} {ch : List Value} (h : Get (enc p.v.Base) k ch) : Get (enc p) (0 + k) ch := Get.off (Get.left h) (by omega)
theorem FromR.put_Base {p : FromR} {k : Nat} {vs : List Value} {y : Int} (h : Put (enc p.v.Base) k vs (enc y)) : Put (enc p) (0 + k) vs (enc ({ p with v := { p.v with Base := y } } : FromR)) := Put.off (cs' := enc ({ p with v := { p.v with Base := y } } : FromR)) (Put.left h) (by omega)
theorem FromR.get_Late {p : FromR} {k : Nat} {ch : List Value} (h : Get (enc p.h1) k ch) : Get (enc p) (1 + k) ch := Get.off (Get.right (m := 1) (Enc.len _) h) (by omega)
theorem FromR.put_Late {p : FromR} {k : Nat} {vs : List Value} {y : Sl} {l : List Str} (h : Put (enc p.h1) k vs (enc y)) : Put (enc p) (1 + k) vs (enc ({ p with v := { p.v with Late := l }, h1 := y } : FromR)) := Put.off (cs' := enc ({ p with v := { p.v with Late := l }, h1 := y } : FromR)) (Put.right (m := 1) (Enc.len _) h) (by omega)
def FromR.rel (w0 : World) (F : Frz) (L : List Item) (x : FromR) : Prop := Rd w0 F L x.h1 x.v.Late
theorem FromR.mono {w0 : World} {F F' : Frz} {L L' : List Item} {x : FromR} (h : FromR.rel w0 F L x) (hF : FLe F F') (hL : L.Sublist L') : FromR.rel w0 F' L' x :=
  let h1 := h
  h1.mono hF hL
def FromR.row (x : FromR) : LR Str := ⟨x.v.Late, x.h1⟩
theorem FromR.rowAll {w0 : World} {F : Frz} {L : List Item} {rs : List FromR} (h : All LR.rel w0 F L (List.map FromR.row rs)) : All FromR.rel w0 F L rs := fun x hx => h (FromR.row x) (List.mem_map_of_mem hx)
theorem All.monoFrom {w0 : World} {F F' : Frz} {L L' : List Item} {rs : List FromR} (h : All FromR.rel w0 F L rs) (hF : FLe F F') (hL : L.Sublist L') : All FromR.rel w0 F' L' rs := fun x hx => FromR.mono (h x hx) hF hL
structure ToR where
  v : To
  h1 : Sl
instance : Enc ToR := ⟨fun p => enc p.v.Next ++ (enc p.h1), 2, fun p => by simp only [List.length_append, Enc.len]; rfl, fun p => by simp only [List.all_append, Enc.one, Bool.and_self]⟩
theorem ToR.get_Next {p : ToR} {k : Nat} {ch : List Value} (h : Get (enc p.v.Next) k ch) : Get (enc p) (0 + k) ch := Get.off (Get.left h) (by omega)
theorem ToR.put_Next {p : ToR} {k : Nat} {vs : List Value} {y : Int} (h : Put (enc p.v.Next) k vs (enc y)) : Put (enc p) (0 + k) vs (enc ({ p with v := { p.v with Next := y } } : ToR)) := Put.off (cs' := enc ({ p with v := { p.v with Next := y } } : ToR)) (Put.left h) (by omega)
theorem ToR.get_Early {p : ToR} {k : Nat} {ch : List Value} (h : Get (enc p.h1) k ch) : Get (enc p) (1 + k) ch := Get.off (Get.right (m := 1) (Enc.len _) h) (by omega)
theorem ToR.put_Early {p : ToR} {k : Nat} {vs : List Value} {y : Sl} {l : List Parcel} (h : Put (enc p.h1) k vs (enc y)) : Put (enc p) (1 + k) vs (enc ({ p with v := { p.v with Early := l }, h1 := y } : ToR)) := Put.off (cs' := enc ({ p with v := { p.v with Early := l }, h1 := y } : ToR)) (Put.right (m := 1) (Enc.len _) h) (by omega)
def ToR.rel (w0 : World) (F : Frz) (L : List Item) (x : ToR) : Prop := Rd w0 F L x.h1 x.v.Early
theorem ToR.mono {w0 : World} {F F' : Frz} {L L' : List Item} {x : ToR} (h : ToR.rel w0 F L x) (hF : FLe F F') (hL : L.Sublist L') : ToR.rel w0 F' L' x :=
  let h1 := h
  h1.mono hF hL
def ToR.row (x : ToR) : LR Parcel := ⟨x.v.Early, x.h1⟩
theorem ToR.rowAll {w0 : World} {F : Frz} {L : List Item} {rs : List ToR} (h : All LR.rel w0 F L (List.map ToR.row rs)) : All ToR.rel w0 F L rs := fun x hx => h (ToR.row x) (List.mem_map_of_mem hx)
theorem All.monoTo {w0 : World} {F F' : Frz} {L L' : List Item} {rs : List ToR} (h : All ToR.rel w0 F L rs) (hF : FLe F F') (hL : L.Sublist L') : All ToR.rel w0 F' L' rs := fun x hx => ToR.mono (h x hx) hF hL
structure ProcessR where
  v : Procs
  h1 : Sl
  h2 : FromR
  h3 : ToR
  h4 : ToR
instance : Enc ProcessR := ⟨fun p => enc p.v.fallen ++ (enc p.h1 ++ (enc p.h2 ++ (enc p.h3 ++ (enc p.h4)))), 8, fun p => by simp only [List.length_append, Enc.len]; rfl, fun p => by simp only [List.all_append, Enc.one, Bool.and_self]⟩
theorem ProcessR.get_fallen {p : ProcessR} {k : Nat} {ch : List Value} (h : Get (enc p.v.fallen) k ch) : Get (enc p) (0 + k) ch := Get.off (Get.left h) (by omega)
theorem ProcessR.put_fallen {p : ProcessR} {k : Nat} {vs : List Value} {y : Bool} (h : Put (enc p.v.fallen) k vs (enc y)) : Put (enc p) (0 + k) vs (enc ({ p with v := { p.v with fallen := y } } : ProcessR)) := Put.off (cs' := enc ({ p with v := { p.v with fallen := y } } : ProcessR)) (Put.left h) (by omega)
theorem ProcessR.get_log {p : ProcessR} {k : Nat} {ch : List Value} (h : Get (enc p.h1) k ch) : Get (enc p) (1 + k) ch := Get.off (Get.right (m := 1) (Enc.len _) (Get.left h)) (by omega)
theorem ProcessR.put_log {p : ProcessR} {k : Nat} {vs : List Value} {y : Sl} {l : List Saying} (h : Put (enc p.h1) k vs (enc y)) : Put (enc p) (1 + k) vs (enc ({ p with v := { p.v with log := l }, h1 := y } : ProcessR)) := Put.off (cs' := enc ({ p with v := { p.v with log := l }, h1 := y } : ProcessR)) (Put.right (m := 1) (Enc.len _) (Put.left h)) (by omega)
theorem ProcessR.get_from_ {p : ProcessR} {k : Nat} {ch : List Value} (h : Get (enc p.h2) k ch) : Get (enc p) (2 + k) ch := Get.off (Get.right (m := 1) (Enc.len _) (Get.right (m := 1) (Enc.len _) (Get.left h))) (by omega)
theorem ProcessR.put_from_ {p : ProcessR} {k : Nat} {vs : List Value} {y : FromR} {l : From} (h : Put (enc p.h2) k vs (enc y)) : Put (enc p) (2 + k) vs (enc ({ p with v := { p.v with from_ := l }, h2 := y } : ProcessR)) := Put.off (cs' := enc ({ p with v := { p.v with from_ := l }, h2 := y } : ProcessR)) (Put.right (m := 1) (Enc.len _) (Put.right (m := 1) (Enc.len _) (Put.left h))) (by omega)
theorem ProcessR.get_to {p : ProcessR} {k : Nat} {ch : List Value} (h : Get (enc p.h3) k ch) : Get (enc p) (4 + k) ch := Get.off (Get.right (m := 1) (Enc.len _) (Get.right (m := 1) (Enc.len _) (Get.right (m := 2) (Enc.len _) (Get.left h)))) (by omega)
theorem ProcessR.put_to {p : ProcessR} {k : Nat} {vs : List Value} {y : ToR} {l : To} (h : Put (enc p.h3) k vs (enc y)) : Put (enc p) (4 + k) vs (enc ({ p with v := { p.v with to := l }, h3 := y } : ProcessR)) := Put.off (cs' := enc ({ p with v := { p.v with to := l }, h3 := y } : ProcessR)) (Put.right (m := 1) (Enc.len _) (Put.right (m := 1) (Enc.len _) (Put.right (m := 2) (Enc.len _) (Put.left h)))) (by omega)
theorem ProcessR.get_orders {p : ProcessR} {k : Nat} {ch : List Value} (h : Get (enc p.h4) k ch) : Get (enc p) (6 + k) ch := Get.off (Get.right (m := 1) (Enc.len _) (Get.right (m := 1) (Enc.len _) (Get.right (m := 2) (Enc.len _) (Get.right (m := 2) (Enc.len _) h)))) (by omega)
theorem ProcessR.put_orders {p : ProcessR} {k : Nat} {vs : List Value} {y : ToR} {l : To} (h : Put (enc p.h4) k vs (enc y)) : Put (enc p) (6 + k) vs (enc ({ p with v := { p.v with orders := l }, h4 := y } : ProcessR)) := Put.off (cs' := enc ({ p with v := { p.v with orders := l }, h4 := y } : ProcessR)) (Put.right (m := 1) (Enc.len _) (Put.right (m := 1) (Enc.len _) (Put.right (m := 2) (Enc.len _) (Put.right (m := 2) (Enc.len _) h)))) (by omega)
def ProcessR.rel (w0 : World) (F : Frz) (L : List Item) (x : ProcessR) : Prop := Rd w0 F L x.h1 x.v.log ∧ (x.h2.v = x.v.from_ ∧ FromR.rel w0 F L x.h2) ∧ (x.h3.v = x.v.to ∧ ToR.rel w0 F L x.h3) ∧ (x.h4.v = x.v.orders ∧ ToR.rel w0 F L x.h4)
theorem ProcessR.mono {w0 : World} {F F' : Frz} {L L' : List Item} {x : ProcessR} (h : ProcessR.rel w0 F L x) (hF : FLe F F') (hL : L.Sublist L') : ProcessR.rel w0 F' L' x :=
  let ⟨h1, h2, h3, h4⟩ := h
  ⟨h1.mono hF hL, ⟨h2.1, FromR.mono h2.2 hF hL⟩, ⟨h3.1, ToR.mono h3.2 hF hL⟩, ⟨h4.1, ToR.mono h4.2 hF hL⟩⟩
def ProcessR.row (x : ProcessR) : LR Saying := ⟨x.v.log, x.h1⟩
def ProcessR.frel (w0 : World) (F : Frz) (L : List Item) (x : ProcessR) : Prop := (x.h2.v = x.v.from_ ∧ FromR.rel w0 F L x.h2) ∧ (x.h3.v = x.v.to ∧ ToR.rel w0 F L x.h3) ∧ (x.h4.v = x.v.orders ∧ ToR.rel w0 F L x.h4)
theorem All.monoProcessF {w0 : World} {F F' : Frz} {L L' : List Item} {rs : List ProcessR} (h : All ProcessR.frel w0 F L rs) (hF : FLe F F') (hL : L.Sublist L') : All ProcessR.frel w0 F' L' rs := fun x hx =>
  let ⟨h2, h3, h4⟩ := h x hx
  ⟨⟨h2.1, FromR.mono h2.2 hF hL⟩, ⟨h3.1, ToR.mono h3.2 hF hL⟩, ⟨h4.1, ToR.mono h4.2 hF hL⟩⟩
theorem ProcessR.rowAll {w0 : World} {F : Frz} {L : List Item} {rs : List ProcessR} (h : All LR.rel w0 F L (List.map ProcessR.row rs)) (g : All ProcessR.frel w0 F L rs) : All ProcessR.rel w0 F L rs := fun x hx => ⟨h (ProcessR.row x) (List.mem_map_of_mem hx), g x hx⟩
theorem All.monoProcess {w0 : World} {F F' : Frz} {L L' : List Item} {rs : List ProcessR} (h : All ProcessR.rel w0 F L rs) (hF : FLe F F') (hL : L.Sublist L') : All ProcessR.rel w0 F' L' rs := fun x hx => ProcessR.mono (h x hx) hF hL
structure WldR where
  v : Wld
  h1 : Sl
  h2 : Sl
  h3 : Sl
instance : Enc WldR := ⟨fun p => enc p.v.view ++ (enc p.h1 ++ (enc p.h2 ++ (enc p.h3))), 5, fun p => by simp only [List.length_append, Enc.len]; rfl, fun p => by simp only [List.all_append, Enc.one, Bool.and_self]⟩
theorem WldR.get_view {p : WldR} {k : Nat} {ch : List Value} (h : Get (enc p.v.view) k ch) : Get (enc p) (0 + k) ch := Get.off (Get.left h) (by omega)
theorem WldR.put_view {p : WldR} {k : Nat} {vs : List Value} {y : View} (h : Put (enc p.v.view) k vs (enc y)) : Put (enc p) (0 + k) vs (enc ({ p with v := { p.v with view := y } } : WldR)) := Put.off (cs' := enc ({ p with v := { p.v with view := y } } : WldR)) (Put.left h) (by omega)
theorem WldR.get_all {p : WldR} {k : Nat} {ch : List Value} (h : Get (enc p.h1) k ch) : Get (enc p) (2 + k) ch := Get.off (Get.right (m := 2) (Enc.len _) (Get.left h)) (by omega)
theorem WldR.put_all {p : WldR} {k : Nat} {vs : List Value} {y : Sl} {l : List Procs} (h : Put (enc p.h1) k vs (enc y)) : Put (enc p) (2 + k) vs (enc ({ p with v := { p.v with all := l }, h1 := y } : WldR)) := Put.off (cs' := enc ({ p with v := { p.v with all := l }, h1 := y } : WldR)) (Put.right (m := 2) (Enc.len _) (Put.left h)) (by omega)
theorem WldR.get_ordered {p : WldR} {k : Nat} {ch : List Value} (h : Get (enc p.h2) k ch) : Get (enc p) (3 + k) ch := Get.off (Get.right (m := 2) (Enc.len _) (Get.right (m := 1) (Enc.len _) (Get.left h))) (by omega)
theorem WldR.put_ordered {p : WldR} {k : Nat} {vs : List Value} {y : Sl} {l : List Str} (h : Put (enc p.h2) k vs (enc y)) : Put (enc p) (3 + k) vs (enc ({ p with v := { p.v with ordered := l }, h2 := y } : WldR)) := Put.off (cs' := enc ({ p with v := { p.v with ordered := l }, h2 := y } : WldR)) (Put.right (m := 2) (Enc.len _) (Put.right (m := 1) (Enc.len _) (Put.left h))) (by omega)
theorem WldR.get_way {p : WldR} {k : Nat} {ch : List Value} (h : Get (enc p.h3) k ch) : Get (enc p) (4 + k) ch := Get.off (Get.right (m := 2) (Enc.len _) (Get.right (m := 1) (Enc.len _) (Get.right (m := 1) (Enc.len _) h))) (by omega)
theorem WldR.put_way {p : WldR} {k : Nat} {vs : List Value} {y : Sl} {l : List Str} (h : Put (enc p.h3) k vs (enc y)) : Put (enc p) (4 + k) vs (enc ({ p with v := { p.v with way := l }, h3 := y } : WldR)) := Put.off (cs' := enc ({ p with v := { p.v with way := l }, h3 := y } : WldR)) (Put.right (m := 2) (Enc.len _) (Put.right (m := 1) (Enc.len _) (Put.right (m := 1) (Enc.len _) h))) (by omega)
def WldR.rel (w0 : World) (F : Frz) (L : List Item) (x : WldR) : Prop := (∃ rs : List ProcessR, rs.map ProcessR.v = x.v.all ∧ Rd w0 F L x.h1 rs ∧ All ProcessR.rel w0 F L rs) ∧ Rd w0 F L x.h2 x.v.ordered ∧ Rd w0 F L x.h3 x.v.way
theorem WldR.mono {w0 : World} {F F' : Frz} {L L' : List Item} {x : WldR} (h : WldR.rel w0 F L x) (hF : FLe F F') (hL : L.Sublist L') : WldR.rel w0 F' L' x :=
  let ⟨h1, h2, h3⟩ := h
  ⟨(let ⟨rs, a, b, c⟩ := h1; ⟨rs, a, b.mono hF hL, All.monoProcess c hF hL⟩), h2.mono hF hL, h3.mono hF hL⟩
theorem All.monoWld {w0 : World} {F F' : Frz} {L L' : List Item} {rs : List WldR} (h : All WldR.rel w0 F L rs) (hF : FLe F F') (hL : L.Sublist L') : All WldR.rel w0 F' L' rs := fun x hx => WldR.mono (h x hx) hF hL
set_option maxRecDepth 20000 in
theorem eq57 (x y : Vector Int 10) : ∀ w, (Op.equal 57 (.agg (enc x).toArray) (.agg (enc y).toArray)).run Tryz.prog w = .ok (decide (x = y)) w :=
  EqT.top (d := 10000) Tryz.isAgg57 Tryz.sizeOf57 rfl rfl (EqT.array (inf := Tryz.t3) Tryz.isAgg57 Tryz.sizeOf57 rfl Tryz.runUnderlying57 rfl (by kernel_rfl) (EqT.int Tryz.isAgg3 Tryz.runUnderlying3)) x y
set_option maxRecDepth 20000 in
theorem eq62 (x y : Saying) : ∀ w, (Op.equal 62 (.agg (enc x).toArray) (.agg (enc y).toArray)).run Tryz.prog w = .ok (decide (x = y)) w :=
  EqT.top (d := 10000) Tryz.isAgg62 Tryz.sizeOf62 rfl rfl (EqT.struct Tryz.isAgg62 Tryz.sizeOf62 rfl Tryz.runUnderlying62 (by kernel_rfl) (fun x y w => by
  refine Eq.trans (eqField (p := x.From) (q := y.From) rfl (EqT.int Tryz.isAgg3 Tryz.runUnderlying3) rfl ((Saying.get_From (Get.here _)).off rfl) ((Saying.get_From (Get.here _)).off rfl) (eqField (p := x.Text) (q := y.Text) rfl (EqT.str Tryz.isAgg9 Tryz.runUnderlying9) rfl ((Saying.get_Text (Get.here _)).off rfl) ((Saying.get_Text (Get.here _)).off rfl) (by rfl))) ?_
  congr 1
  rw [Bool.eq_iff_iff]; cases x; cases y; simp)) x y
set_option maxRecDepth 20000 in
theorem world_in_sim {a0 : Int} {a1 : Int} {a2 : Int} {r : Bool} (H : world_in a0 a1 a2 = some r) (w0 : World) (F : Frz) (M L : List Item) (hM : M.Sublist L) : Ok Tryz.prog w0 34 [iv a0, iv a1, iv a2] F (L) (Is (.bool r) (L)) := by
 unfold world_in at H
 refine Ok.enter (m := 3) (n := 15) Tryz.func34 rfl rfl rfl (by decide) ?_
 refine Cd.env (e' := [(0, iv a0), (1, iv a1), (2, iv a2)]) rfl ?_
 refine sr0 ?_
 refine Lst.r (Ev.assign rfl) ?_
 refine nsr ?_
 refine mv0 rfl ?_
 refine mv0 rfl ?_
 refine Lst.r (Ev.geq rfl rfl) ?_
 refine mv0 rfl ?_
 obtain ⟨o1, H, HKo1⟩ := bind_some H
 refine Lst.join (σ := Bool) 4 (fun y2 => [(14, .bool y2)]) (fun y2 => L) (fun _ y2 => y2 = o1) ?_ ?_
 ·rcases (Bool.eq_false_or_eq_true (decide (a0 ≥ a1))).symm with hb3 | hb3
  ·replace H := ite_f hb3 H
   refine Lst.skip rfl rfl rfl hb3 rfl (by decide) ?_
   refine Lst.skip rfl rfl rfl hb3 rfl (by decide) ?_
   refine Lst.skip rfl rfl rfl hb3 rfl (by decide) ?_
   refine Lst.r (Ev.pickF rfl hb3 rfl) ?_
   refine Lst.nil ?_
   exact At.meet false fl ⟨rfl, trivial⟩ rfl (some_inj H)
  replace H := ite_t hb3 H
  refine Lst.rG hb3 (Ev.move rfl) ?_
  refine Lst.rG hb3 (Ev.move rfl) ?_
  refine Lst.rG hb3 (Ev.leq rfl rfl) ?_
  refine Lst.r (Ev.pickT rfl hb3 rfl) ?_
  refine Lst.nil ?_
  exact At.meet (decide (a0 ≤ a2)) fl ⟨rfl, trivial⟩ rfl (some_inj H)
 rintro F4 y2 hF5 hy
 subst hy
 refine Lst.as (e' := [(14, .bool y2)]) (L' := L) ⟨rfl, trivial⟩ rfl ?_
 replace H := HKo1
 refine Lst.r (Ev.assign rfl) ?_
 refine nt0 ?_
 obtain rfl := some_inj H
 refine Cd.ret ?_
 exact At.ret1 rfl (Res.tmp rfl) hF5 (.refl _) ⟨rfl, rfl⟩
set_option maxRecDepth 20000 in
theorem world_New_sim {a0 : Int} {r : Wld × Int} (H : world_New a0 = some r) (w0 : World) (F : Frz) (M L : List Item) (hM : M.Sublist L) : Ok Tryz.prog w0 9 [iv a0] F (L) (fun Fx L' v => ∃ (b1 : Nat) (s2 : Sl) (rs3 : List ProcessR) (s8 : Sl) (s10 : Sl), v = .tuple #[pv b1 0, iv r.2] ∧ L' = (.rows (α := Saying) 62 (List.map ProcessR.row rs3)) :: (.own s2 100 8 (encs rs3)) :: (.own s8 9 1 (encs r.1.ordered)) :: (.own s10 9 1 (encs r.1.way)) :: (.blk b1 (enc (WldR.mk r.1 s2 s8 s10)) 95) :: L ∧ rs3.map ProcessR.v = r.1.all ∧ All ProcessR.frel w0 Fx [] rs3) := by
 unfold world_New at H
 refine Ok.enter (m := 1) (n := 15) Tryz.func9 rfl rfl rfl (by decide) ?_
 refine Cd.env (e' := [(0, iv a0)]) rfl ?_
 refine sr0 ?_
 refine Lst.r (Ev.assign rfl) ?_
 refine Lst.r (Ev.assign rfl) ?_
 refine nt0 ?_
 refine Cd.seq ?_
 refine sr0 ?_
 refine mv0 rfl ?_
 obtain ⟨r1, h2, H⟩ := bind_some H
 refine Lst.call1 rfl rfl (by decide) (vs := [iv a0, iv (1 : Int), iv (6 : Int)]) ⟨rfl, rfl, rfl, trivial⟩ Tryz.call34 (world_in_sim h2 w0 _ M _ hM) ?_
 refine Lst.r (Ev.not rfl) ?_
 refine nt0 ?_
 rcases Bool.eq_false_or_eq_true (!r1) with hb5 | hb5
 ·replace H := ite_t hb5 H
  cases H
 replace H := ite_f hb5 H
 refine Cd.condF rfl hb5 ?_
 refine Cd.skip ?_
 refine At.then ?_
 refine Cd.seq ?_
 obtain ⟨n6, h7, H⟩ := bind_some H
 obtain ⟨n9, h10, H⟩ := bind_some H
 obtain ⟨o23, h24, H⟩ := Let_some H
 refine Cd.headMeet (σ := Sl × (List Procs) × (List ProcessR)) 6 (fun (s18, l19, rs20) => [(10, .agg (enc ({ View.zero with Members := ((1 : BitVec 8) <<< n6) - (1 : BitVec 8) } : View)).toArray), (12, Sl.v s18)]) (fun (s18, l19, rs20) => (.rows (α := Saying) 62 (List.map ProcessR.row rs20)) :: (.own s18 100 8 (encs rs20)) :: L) (fun Fx (s18, l19, rs20) => l19 = o23 ∧ rs20.map ProcessR.v = l19 ∧ All ProcessR.frel w0 Fx [] rs20) (by kernel_rfl) (by kernel_rfl) (behind_sink (by kernel_rfl) (by kernel_rfl) (by kernel_rfl)) (by kernel_rfl) (fun hsel hlt => ?_) ?_
 ·refine HdJ.keep (fun w => St w0 F (L) w) (fun w h => trivial) ?_
  refine HdJ.ts hsel hlt 0 (.refl _) rfl (Ev.move rfl) ?_
  refine HdJ.ts hsel hlt 1 (.refl _) rfl (Ev.shlU8 (i := (1 : BitVec 8)) (m := n6) rfl (congrArg some (congrArg (Value.int .i64) (cnt_some h7)))) ?_
  refine HdJ.ts hsel hlt 2 (.refl _) rfl (Ev.subU8 (i := (1 : BitVec 8) <<< n6) (j := (1 : BitVec 8)) rfl rfl) ?_
  refine HdJ.ts hsel hlt 3 (.refl _) rfl (Ev.build (v := .agg (enc ({ View.zero with Members := ((1 : BitVec 8) <<< n6) - (1 : BitVec 8) } : View)).toArray) (pv := [(1, .int .u8 (((1 : BitVec 8) <<< n6) - (1 : BitVec 8)).toNat)]) ⟨rfl, rfl, trivial⟩ (fun w => by kernel_rfl)) ?_
  refine HdJ.ts hsel hlt 4 (.refl _) rfl (Ev.move rfl) ?_
  refine HdJ.o1 5 (fun inv => ?_)
  have g26 := mkLen_some h10
  have hm28 : (List.replicate n9 ((ProcessR.mk Procs.zero Sl.nil (FromR.mk From.zero Sl.nil) (ToR.mk To.zero Sl.nil) (ToR.mk To.zero Sl.nil)) : ProcessR)).map ProcessR.v = (List.replicate n9 Procs.zero) := map_rep _ _
  have ha29 : All ProcessR.frel w0 F [] (List.replicate n9 ((ProcessR.mk Procs.zero Sl.nil (FromR.mk From.zero Sl.nil) (ToR.mk To.zero Sl.nil) (ToR.mk To.zero Sl.nil)) : ProcessR)) := All.rep ⟨⟨rfl, Rd.nil⟩, ⟨rfl, Rd.nil⟩, ⟨rfl, Rd.nil⟩⟩
  refine Lst.make (α := ProcessR) (z0 := ((ProcessR.mk Procs.zero Sl.nil (FromR.mk From.zero Sl.nil) (ToR.mk To.zero Sl.nil) (ToR.mk To.zero Sl.nil)) : ProcessR)) (k := n9) rfl rfl (by decide) (congrArg some (congrArg (Value.int .i64) g26.1)) (congrArg some (congrArg (Value.int .i64) g26.1)) Tryz.runUnderlying93 Tryz.typeInfo100 rfl rfl rfl rfl rfl g26.2 rfl (fun s27 => ?_)
  refine Lst.rowsNil Saying 62 n9 ?_
  refine Lst.its (L' := (.rows (α := Saying) 62 (List.map ProcessR.row (List.replicate n9 ((ProcessR.mk Procs.zero Sl.nil (FromR.mk From.zero Sl.nil) (ToR.mk To.zero Sl.nil) (ToR.mk To.zero Sl.nil)) : ProcessR)))) :: (.own s27 100 8 (encs (List.replicate n9 ((ProcessR.mk Procs.zero Sl.nil (FromR.mk From.zero Sl.nil) (ToR.mk To.zero Sl.nil) (ToR.mk To.zero Sl.nil)) : ProcessR)))) :: L) (by rw [List.map_replicate]; try rfl) ?_
  refine hds inv (sc1 (sc1 (.refl _))) ?_
  refine HdJ.done (by kernel_rfl) ?_
  exact At.meetN (s27, (List.replicate n9 Procs.zero), (List.replicate n9 ((ProcessR.mk Procs.zero Sl.nil (FromR.mk From.zero Sl.nil) (ToR.mk To.zero Sl.nil) (ToR.mk To.zero Sl.nil)) : ProcessR))) fl ⟨rfl, rfl, trivial⟩ rfl ⟨h24, hm28, (All.monoProcessF ha29 fl (List.nil_sublist _))⟩
 rintro F30 ⟨s18, l19, rs20⟩ hF31 ⟨hy, fm21, fa22⟩
 subst hy
 refine Lst.as (e' := [(10, .agg (enc ({ View.zero with Members := ((1 : BitVec 8) <<< n6) - (1 : BitVec 8) } : View)).toArray), (12, Sl.v s18)]) (L' := (.rows (α := Saying) 62 (List.map ProcessR.row rs20)) :: (.own s18 100 8 (encs rs20)) :: L) ⟨rfl, rfl, trivial⟩ rfl ?_
 refine Lst.r (Ev.build (v := .agg (enc (WldR.mk ({ Wld.zero with view := ({ View.zero with Members := ((1 : BitVec 8) <<< n6) - (1 : BitVec 8) } : View), all := l19 } : Wld) s18 Sl.nil Sl.nil)).toArray) (pv := [(0, .agg (enc ({ View.zero with Members := ((1 : BitVec 8) <<< n6) - (1 : BitVec 8) } : View)).toArray), (1, Sl.v s18)]) ⟨rfl, rfl, ⟨rfl, rfl, trivial⟩⟩ (run_buildStruct (places := #[(0, 2), (2, 1), (3, 1), (4, 1)]) Tryz.zeroValue95 (zs := enc (WldR.mk Wld.zero Sl.nil Sl.nil Sl.nil)) rfl Tryz.runUnderlying95 (fun w => by kernel_rfl) (fill_cons (cs := enc (WldR.mk Wld.zero Sl.nil Sl.nil Sl.nil)) (cs' := enc (WldR.mk ({ Wld.zero with view := ({ View.zero with Members := ((1 : BitVec 8) <<< n6) - (1 : BitVec 8) } : View) } : Wld) Sl.nil Sl.nil Sl.nil)) (vs := enc ({ View.zero with Members := ((1 : BitVec 8) <<< n6) - (1 : BitVec 8) } : View)) rfl rfl (Enc.len _) ((WldR.put_view (p := (WldR.mk Wld.zero Sl.nil Sl.nil Sl.nil)) (y := ({ View.zero with Members := ((1 : BitVec 8) <<< n6) - (1 : BitVec 8) } : View)) (Put.here ((Enc.len _).trans (Enc.len _).symm))).off rfl) (fill_cons (cs := enc (WldR.mk ({ Wld.zero with view := ({ View.zero with Members := ((1 : BitVec 8) <<< n6) - (1 : BitVec 8) } : View) } : Wld) Sl.nil Sl.nil Sl.nil)) (cs' := enc (WldR.mk ({ Wld.zero with view := ({ View.zero with Members := ((1 : BitVec 8) <<< n6) - (1 : BitVec 8) } : View), all := l19 } : Wld) s18 Sl.nil Sl.nil)) (vs := [Sl.v s18]) rfl rfl rfl ((WldR.put_all (p := (WldR.mk ({ Wld.zero with view := ({ View.zero with Members := ((1 : BitVec 8) <<< n6) - (1 : BitVec 8) } : View) } : Wld) Sl.nil Sl.nil Sl.nil)) (y := s18) (Put.here (vs := [Sl.v s18]) rfl)).off rfl) fill_nil)))) ?_
 refine Lst.box rfl rfl (by decide) rfl (cs := enc (WldR.mk ({ Wld.zero with view := ({ View.zero with Members := ((1 : BitVec 8) <<< n6) - (1 : BitVec 8) } : View), all := l19 } : Wld) s18 Sl.nil Sl.nil)) rfl (fun b32 => ?_)
 refine Lst.r (Ev.assign rfl) ?_
 refine Lst.r (Ev.assign rfl) ?_
 refine nt0 ?_
 obtain rfl := some_inj H
 refine Cd.ret ?_
 refine At.addNil 9 1 ?_
 refine At.addNil 9 1 ?_
 refine At.front (i := 1) rfl rfl ?_
 refine At.front (i := 4) rfl rfl ?_
 refine At.front (i := 4) rfl (L' := (.rows (α := Saying) 62 (List.map ProcessR.row rs20)) :: (.own s18 100 8 (encs rs20)) :: (.own Sl.nil 9 1 (encs ([] : List Str))) :: (.own Sl.nil 9 1 (encs ([] : List Str))) :: (.blk b32 (enc (WldR.mk ({ Wld.zero with view := ({ View.zero with Members := ((1 : BitVec 8) <<< n6) - (1 : BitVec 8) } : View), all := l19, ordered := ([] : List Str), way := ([] : List Str) } : Wld) s18 Sl.nil Sl.nil)) 95) :: L) rfl ?_
 exact At.ret2 rfl (Res.tmp rfl) (Res.tmp rfl) hF31 (sk1 (sk1 (sk1 (sk1 (sk1 (.refl _)))))) ⟨b32, s18, rs20, Sl.nil, Sl.nil, rfl, rfl, fm21, (All.monoProcessF fa22 fl (List.nil_sublist _))⟩
def laysItoa_ren : Go.Shelf.Ren := ⟨fun | 171 => 55 | 243 => 109 | 246 => 167 | 283 => 210 | 284 => 211 | 285 => 212 | 286 => 213 | 129 => 249 | 317 => 248 | 318 => 250 | 319 => 251 | 320 => 252 | 337 => 280 | 338 => 281 | n => n, fun | 3 => 3 | 9 => 9 | 2 => 2 | 4 => 4 | 171 => 285 | 0 => 0 | 53 => 107 | 37 => 183 | 5 => 5 | 173 => 288 | 212 => 322 | 51 => 110 | 20 => 20 | 213 => 323 | 46 => 159 | 232 => 363 | 233 => 364 | n => n, fun | 17 => 1 | 18 => 6 | 19 => 7 | n => n⟩
theorem laysItoa : Go.Proofs.LaysM.n171 Tryz.prog laysItoa_ren := {
 mixed := by kernel_rfl
 f129 := Tryz.func249.trans (congrArg some (by kernel_rfl))
 f171 := Tryz.func55.trans (congrArg some (by kernel_rfl))
 f243 := Tryz.func109.trans (congrArg some (by kernel_rfl))
 f246 := Tryz.func167.trans (congrArg some (by kernel_rfl))
 f283 := Tryz.func210.trans (congrArg some (by kernel_rfl))
 f284 := Tryz.func211.trans (congrArg some (by kernel_rfl))
 f285 := Tryz.func212.trans (congrArg some (by kernel_rfl))
 f286 := Tryz.func213.trans (congrArg some (by kernel_rfl))
 f317 := Tryz.func248.trans (congrArg some (by kernel_rfl))
 f318 := Tryz.func250.trans (congrArg some (by kernel_rfl))
 f319 := Tryz.func251.trans (congrArg some (by kernel_rfl))
 f320 := Tryz.func252.trans (congrArg some (by kernel_rfl))
 f337 := Tryz.func280.trans (congrArg some (by kernel_rfl))
 f338 := Tryz.func281.trans (congrArg some (by kernel_rfl))
 t0 := Tryz.underlying0
 a0 := Tryz.isAgg0
 z0 := Tryz.sizeOf0
 v0 := Tryz.zeroValue0
 t2 := Tryz.underlying2
 a2 := Tryz.isAgg2
 z2 := Tryz.sizeOf2
 v2 := Tryz.zeroValue2
 t3 := Tryz.underlying3
 a3 := Tryz.isAgg3
 z3 := Tryz.sizeOf3
 v3 := Tryz.zeroValue3
 t4 := Tryz.underlying4
 a4 := Tryz.isAgg4
 z4 := Tryz.sizeOf4
 v4 := Tryz.zeroValue4
 t5 := Tryz.underlying5
 a5 := Tryz.isAgg5
 z5 := Tryz.sizeOf5
 v5 := Tryz.zeroValue5
 t9 := Tryz.underlying9
 a9 := Tryz.isAgg9
 z9 := Tryz.sizeOf9
 v9 := Tryz.zeroValue9
 t20 := Tryz.underlying20
 a20 := Tryz.isAgg20
 z20 := Tryz.sizeOf20
 v20 := Tryz.zeroValue20
 t37 := Tryz.underlying183
 a37 := Tryz.isAgg183
 z37 := Tryz.sizeOf183
 v37 := Tryz.zeroValue183
 t46 := Tryz.underlying159
 a46 := Tryz.isAgg159
 z46 := Tryz.sizeOf159
 v46 := Tryz.zeroValue159
 t51 := Tryz.underlying110
 a51 := Tryz.isAgg110
 z51 := Tryz.sizeOf110
 v51 := Tryz.zeroValue110
 t53 := Tryz.underlying107
 a53 := Tryz.isAgg107
 z53 := Tryz.sizeOf107
 v53 := Tryz.zeroValue107
 t171 := Tryz.underlying285
 a171 := Tryz.isAgg285
 z171 := Tryz.sizeOf285
 v171 := Tryz.zeroValue285
 t173 := Tryz.underlying288
 a173 := Tryz.isAgg288
 z173 := Tryz.sizeOf288
 v173 := Tryz.zeroValue288
 t212 := Tryz.underlying322
 a212 := Tryz.isAgg322
 z212 := Tryz.sizeOf322
 v212 := Tryz.zeroValue322
 t213 := Tryz.underlying323
 a213 := Tryz.isAgg323
 z213 := Tryz.sizeOf323
 t232 := Tryz.underlying363
 a232 := Tryz.isAgg363
 z232 := Tryz.sizeOf363
 v232 := Tryz.zeroValue363
 t233 := Tryz.underlying364
 a233 := Tryz.isAgg364
 z233 := Tryz.sizeOf364
 v233 := Tryz.zeroValue364
 g17 := by kernel_rfl
 g18 := by kernel_rfl
 g19 := by kernel_rfl
 i0 := by kernel_rfl
 i2 := by kernel_rfl
 i3 := by kernel_rfl
 i4 := by kernel_rfl
 i5 := by kernel_rfl
 i9 := by kernel_rfl
 i20 := by kernel_rfl
 i37 := by kernel_rfl
 i46 := by kernel_rfl
 i51 := by kernel_rfl
 i53 := by kernel_rfl
 i171 := by kernel_rfl
 i173 := by kernel_rfl
 i212 := by kernel_rfl
 i232 := by kernel_rfl
 i233 := by kernel_rfl
 m17 := by kernel_rfl
 m18 := by kernel_rfl
 m19 := by kernel_rfl }
theorem strconv_Itoa_sim {a0 : Int} {r : Str} (H : strconv_Itoa a0 = some r) (w0 : World) (F : Frz) (M L : List Item) (hM : M.Sublist L) (hT : Tab Tryz.prog w0) : Ok Tryz.prog w0 55 [iv a0] F L (Is (Str.v r) L) :=
  Ok.itoa H hT (show Tryz.prog.globalNamed "internal/strconv.uint64pow10" = some 1 by kernel_rfl) fun n h0 h1 w ht => Any.strconv_Itoa laysItoa n h0 h1 w ht
set_option maxRecDepth 20000 in
theorem world_World_known_sim {a0 : Wld} {a1 : Int} {b_a0 : Nat} {s_a0_1 : Sl} {rs_a0_1 : List ProcessR} {s_a0_2 : Sl} {s_a0_3 : Sl} {r : Int} (H : world_World_known a0 a1 = some r) (w0 : World) (F : Frz) (M L : List Item) (hM : M.Sublist L) (hm_a0_1 : rs_a0_1.map ProcessR.v = a0.all) (ha_a0_1 : All ProcessR.frel w0 F [] rs_a0_1) : Ok Tryz.prog w0 43 [pv b_a0 0, iv a1] F ((.rows (α := Saying) 62 (List.map ProcessR.row rs_a0_1)) :: (.own s_a0_1 100 8 (encs rs_a0_1)) :: (.own s_a0_2 9 1 (encs a0.ordered)) :: (.own s_a0_3 9 1 (encs a0.way)) :: (.blk b_a0 (enc (WldR.mk a0 s_a0_1 s_a0_2 s_a0_3)) 95) :: L) (Is (iv r) ((.rows (α := Saying) 62 (List.map ProcessR.row rs_a0_1)) :: (.own s_a0_1 100 8 (encs rs_a0_1)) :: (.own s_a0_2 9 1 (encs a0.ordered)) :: (.own s_a0_3 9 1 (encs a0.way)) :: (.blk b_a0 (enc (WldR.mk a0 s_a0_1 s_a0_2 s_a0_3)) 95) :: L)) := by
 unfold world_World_known at H
 refine Ok.enter (m := 2) (n := 14) Tryz.func43 rfl rfl rfl (by decide) ?_
 refine Cd.env (e' := [(0, pv b_a0 0), (1, iv a1)]) rfl ?_
 refine sr0 ?_
 refine Lst.r (Ev.assign rfl) ?_
 refine nt0 ?_
 refine Cd.seq ?_
 refine sr0 ?_
 refine mv0 rfl ?_
 refine mv0 rfl ?_
 refine Lst.r (Ev.nilCheck rfl) ?_
 refine Lst.r (Ev.fieldAddr (off' := 2) rfl Tryz.runUnderlying95 rfl Tryz.sizeOf93 rfl rfl) ?_
 refine Lst.r (Ev.load (i := 4) rfl rfl Tryz.isAgg93 (v := Sl.v s_a0_1) ((WldR.get_all gh0).off (by rfl))) ?_
 refine Lst.r (Ev.lenM (map_len hm_a0_1) (Ev.lenS (α := ProcessR) (xs := rs_a0_1) (by decide) rfl rfl Tryz.runUnderlying93 (rdo 1 rfl rfl rfl))) ?_
 refine Lst.r (Ev.sub rfl rfl) ?_
 obtain ⟨r7, h8, H⟩ := bind_some H
 refine Lst.call1 rfl rfl (by decide) (vs := [iv a1, iv (0 : Int), iv (w64 ((a0.all.length : Int) - (1 : Int)))]) ⟨rfl, rfl, rfl, trivial⟩ Tryz.call34 (world_in_sim h8 w0 _ M _ (sc4 (sc1 hM))) ?_
 refine Lst.r (Ev.not rfl) ?_
 refine nt0 ?_
 rcases Bool.eq_false_or_eq_true (!r7) with hb11 | hb11
 ·replace H := ite_t hb11 H
  refine Cd.condT rfl hb11 ?_
  refine sr0 ?_
  refine Lst.r (Ev.assign rfl) ?_
  refine nt0 ?_
  obtain rfl := some_inj H
  refine Cd.ret ?_
  refine At.then_ret ?_
  exact At.ret1 rfl (Res.tmp rfl) fl (sk1 (sk1 (sk1 (sk1 (sk1 (.refl _)))))) ⟨rfl, rfl⟩
 replace H := ite_f hb11 H
 refine Cd.condF rfl hb11 ?_
 refine Cd.skip ?_
 refine At.then ?_
 refine sr0 ?_
 refine Lst.r (Ev.assign rfl) ?_
 refine nt0 ?_
 obtain rfl := some_inj H
 refine Cd.ret ?_
 exact At.ret1 rfl (Res.tmp rfl) fl (sk1 (sk1 (sk1 (sk1 (sk1 (.refl _)))))) ⟨rfl, rfl⟩
set_option maxRecDepth 20000 in
theorem world_World_active_sim {a0 : Wld} {a1 : Int} {b_a0 : Nat} {s_a0_1 : Sl} {rs_a0_1 : List ProcessR} {s_a0_2 : Sl} {s_a0_3 : Sl} {r : Bool} (H : world_World_active a0 a1 = some r) (w0 : World) (F : Frz) (M L : List Item) (hM : M.Sublist L) (hm_a0_1 : rs_a0_1.map ProcessR.v = a0.all) (ha_a0_1 : All ProcessR.frel w0 F [] rs_a0_1) : Ok Tryz.prog w0 65 [pv b_a0 0, iv a1] F ((.rows (α := Saying) 62 (List.map ProcessR.row rs_a0_1)) :: (.own s_a0_1 100 8 (encs rs_a0_1)) :: (.own s_a0_2 9 1 (encs a0.ordered)) :: (.own s_a0_3 9 1 (encs a0.way)) :: (.blk b_a0 (enc (WldR.mk a0 s_a0_1 s_a0_2 s_a0_3)) 95) :: L) (Is (.bool r) ((.rows (α := Saying) 62 (List.map ProcessR.row rs_a0_1)) :: (.own s_a0_1 100 8 (encs rs_a0_1)) :: (.own s_a0_2 9 1 (encs a0.ordered)) :: (.own s_a0_3 9 1 (encs a0.way)) :: (.blk b_a0 (enc (WldR.mk a0 s_a0_1 s_a0_2 s_a0_3)) 95) :: L)) := by
 unfold world_World_active at H
 refine Ok.enter (m := 2) (n := 35) Tryz.func65 rfl rfl rfl (by decide) ?_
 refine Cd.env (e' := [(0, pv b_a0 0), (1, iv a1)]) rfl ?_
 refine sr0 ?_
 refine Lst.r (Ev.assign rfl) ?_
 refine nsr ?_
 refine mv0 rfl ?_
 refine mv0 rfl ?_
 refine Lst.r (Ev.nilCheck rfl) ?_
 refine Lst.r (Ev.fieldAddr (off' := 2) rfl Tryz.runUnderlying95 rfl Tryz.sizeOf93 rfl rfl) ?_
 refine Lst.r (Ev.load (i := 4) rfl rfl Tryz.isAgg93 (v := Sl.v s_a0_1) ((WldR.get_all gh0).off (by rfl))) ?_
 refine Lst.r (Ev.lenM (map_len hm_a0_1) (Ev.lenS (α := ProcessR) (xs := rs_a0_1) (by decide) rfl rfl Tryz.runUnderlying93 (rdo 1 rfl rfl rfl))) ?_
 refine Lst.r (Ev.sub rfl rfl) ?_
 obtain ⟨r7, h8, H⟩ := bind_some H
 refine Lst.call1 rfl rfl (by decide) (vs := [iv a1, iv (0 : Int), iv (w64 ((a0.all.length : Int) - (1 : Int)))]) ⟨rfl, rfl, rfl, trivial⟩ Tryz.call34 (world_in_sim h8 w0 _ M _ (sc4 (sc1 hM))) ?_
 refine mv0 rfl ?_
 obtain ⟨o11, H, HKo11⟩ := bind_some H
 refine Lst.join (σ := Bool) 10 (fun y12 => [(0, pv b_a0 0), (1, iv a1), (23, .bool y12)]) (fun y12 => (.rows (α := Saying) 62 (List.map ProcessR.row rs_a0_1)) :: (.own s_a0_1 100 8 (encs rs_a0_1)) :: (.own s_a0_2 9 1 (encs a0.ordered)) :: (.own s_a0_3 9 1 (encs a0.way)) :: (.blk b_a0 (enc (WldR.mk a0 s_a0_1 s_a0_2 s_a0_3)) 95) :: L) (fun _ y12 => y12 = o11) ?_ ?_
 ·rcases (Bool.eq_false_or_eq_true r7).symm with hb13 | hb13
  ·replace H := ite_f hb13 H
   refine Lst.skip rfl rfl rfl hb13 rfl (by decide) ?_
   refine Lst.skip rfl rfl rfl hb13 rfl (by decide) ?_
   refine Lst.skip rfl rfl rfl hb13 rfl (by decide) ?_
   refine Lst.skip rfl rfl rfl hb13 rfl (by decide) ?_
   refine Lst.skip rfl rfl rfl hb13 rfl (by decide) ?_
   refine Lst.skip rfl rfl rfl hb13 rfl (by decide) ?_
   refine Lst.skip rfl rfl rfl hb13 rfl (by decide) ?_
   refine Lst.skip rfl rfl rfl hb13 rfl (by decide) ?_
   refine Lst.skip rfl rfl rfl hb13 rfl (by decide) ?_
   refine Lst.r (Ev.pickF rfl hb13 rfl) ?_
   refine Lst.nil ?_
   exact At.meet false fl ⟨rfl, rfl, rfl, trivial⟩ rfl (some_inj H)
  replace H := ite_t hb13 H
  refine Lst.rG hb13 (Ev.move rfl) ?_
  refine Lst.rG hb13 (Ev.nilCheck rfl) ?_
  refine Lst.rG hb13 (Ev.fieldAddr (off' := 0) rfl Tryz.runUnderlying95 rfl Tryz.sizeOf34 rfl rfl) ?_
  refine Lst.rG hb13 (Ev.fieldAddr (off' := 1) rfl Tryz.runUnderlying34 rfl Tryz.sizeOf5 rfl rfl) ?_
  refine Lst.rG hb13 (Ev.load (i := 4) rfl rfl Tryz.isAgg5 (v := .int .u8 a0.view.Members.toNat) ((WldR.get_view (View.get_Members gh0)).off (by rfl))) ?_
  refine Lst.rG hb13 (Ev.move rfl) ?_
  obtain ⟨n14, h15, H⟩ := bind_some H
  refine Lst.rG hb13 (Ev.shrU8 (i := a0.view.Members) (m := n14) rfl (congrArg some (congrArg (Value.int .i64) (cnt_some h15)))) ?_
  refine Lst.rG hb13 (Ev.andU8 (i := a0.view.Members >>> n14) (j := (1 : BitVec 8)) rfl rfl) ?_
  refine Lst.rG hb13 (Ev.eql rfl rfl) ?_
  refine Lst.r (Ev.pickT rfl hb13 rfl) ?_
  refine Lst.nil ?_
  exact At.meet ((((a0.view.Members >>> n14) &&& (1 : BitVec 8)).toNat : Int) == ((1 : BitVec 8).toNat : Int)) fl ⟨rfl, rfl, rfl, trivial⟩ rfl (some_inj H)
 rintro F17 y12 hF18 hy
 subst hy
 refine Lst.as (e' := [(0, pv b_a0 0), (1, iv a1), (23, .bool y12)]) (L' := (.rows (α := Saying) 62 (List.map ProcessR.row rs_a0_1)) :: (.own s_a0_1 100 8 (encs rs_a0_1)) :: (.own s_a0_2 9 1 (encs a0.ordered)) :: (.own s_a0_3 9 1 (encs a0.way)) :: (.blk b_a0 (enc (WldR.mk a0 s_a0_1 s_a0_2 s_a0_3)) 95) :: L) ⟨rfl, rfl, rfl, trivial⟩ rfl ?_
 replace H := HKo11
 refine mv0 rfl ?_
 obtain ⟨o19, H, HKo19⟩ := bind_some H
 refine Lst.join (σ := Bool) 10 (fun y20 => [(34, .bool y20)]) (fun y20 => (.rows (α := Saying) 62 (List.map ProcessR.row rs_a0_1)) :: (.own s_a0_1 100 8 (encs rs_a0_1)) :: (.own s_a0_2 9 1 (encs a0.ordered)) :: (.own s_a0_3 9 1 (encs a0.way)) :: (.blk b_a0 (enc (WldR.mk a0 s_a0_1 s_a0_2 s_a0_3)) 95) :: L) (fun _ y20 => y20 = o19) ?_ ?_
 ·rcases (Bool.eq_false_or_eq_true y12).symm with hb21 | hb21
  ·replace H := ite_f hb21 H
   refine Lst.skip rfl rfl rfl hb21 rfl (by decide) ?_
   refine Lst.skip rfl rfl rfl hb21 rfl (by decide) ?_
   refine Lst.skip rfl rfl rfl hb21 rfl (by decide) ?_
   refine Lst.skip rfl rfl rfl hb21 rfl (by decide) ?_
   refine Lst.skip rfl rfl rfl hb21 rfl (by decide) ?_
   refine Lst.skip rfl rfl rfl hb21 rfl (by decide) ?_
   refine Lst.skip rfl rfl rfl hb21 rfl (by decide) ?_
   refine Lst.skip rfl rfl rfl hb21 rfl (by decide) ?_
   refine Lst.skip rfl rfl rfl hb21 rfl (by decide) ?_
   refine Lst.r (Ev.pickF rfl hb21 rfl) ?_
   refine Lst.nil ?_
   exact At.meet false fl ⟨rfl, trivial⟩ rfl (some_inj H)
  replace H := ite_t hb21 H
  refine Lst.rG hb21 (Ev.move rfl) ?_
  refine Lst.rG hb21 (Ev.nilCheck rfl) ?_
  refine Lst.rG hb21 (Ev.fieldAddr (off' := 2) rfl Tryz.runUnderlying95 rfl Tryz.sizeOf93 rfl rfl) ?_
  refine Lst.rG hb21 (Ev.load (i := 4) rfl rfl Tryz.isAgg93 (v := Sl.v s_a0_1) ((WldR.get_all gh0).off (by rfl))) ?_
  refine Lst.rG hb21 (Ev.move rfl) ?_
  obtain ⟨x22, h23, H⟩ := bind_some H
  have g24 := lat_some h23
  obtain ⟨⟨r25v, r25h1, ⟨r25_2v, r25_2h1⟩, ⟨r25_3v, r25_3h1⟩, ⟨r25_4v, r25_4h1⟩⟩, r25g, r25e, r25m⟩ := map_get hm_a0_1 g24.2.2
  obtain rfl : x22 = r25v := r25e.symm
  have r25q : ProcessR.frel w0 _ _ (ProcessR.mk x22 r25h1 (FromR.mk r25_2v r25_2h1) (ToR.mk r25_3v r25_3h1) (ToR.mk r25_4v r25_4h1)) := ha_a0_1 _ r25m
  obtain ⟨r25_i2, r25_i3, r25_i4⟩ := r25q
  obtain ⟨r25_2e, r25_2q⟩ := r25_i2
  obtain rfl : r25_2v = x22.from_ := r25_2e
  have r25_2_f1 : Rd w0 _ _ _ _ := r25_2q
  obtain ⟨r25_3e, r25_3q⟩ := r25_i3
  obtain rfl : r25_3v = x22.to := r25_3e
  have r25_3_f1 : Rd w0 _ _ _ _ := r25_3q
  obtain ⟨r25_4e, r25_4q⟩ := r25_i4
  obtain rfl : r25_4v = x22.orders := r25_4e
  have r25_4_f1 : Rd w0 _ _ _ _ := r25_4q
  have r25wg := map_at ProcessR.row r25g
  refine Lst.rG hb21 (Ev.indexS (α := ProcessR) (xs := rs_a0_1) rfl rfl Tryz.runUnderlying93 Tryz.sizeOf100 rfl (by decide) (rdo 1 rfl rfl rfl) g24.1 (by have := map_len hm_a0_1; omega)) ?_
  refine Lst.rG hb21 (Ev.fieldS (α := ProcessR) (f' := a1.toNat * 8 + 0) rfl (rdo 1 rfl rfl rfl) ((Get.elemN (s := 8) rfl r25g gh0).off (by omega)) rfl Tryz.runUnderlying100 rfl Tryz.sizeOf4 rfl rfl rfl) ?_
  refine Lst.rG hb21 (Ev.loadS (α := ProcessR) rfl (rdo 1 rfl rfl rfl) Tryz.isAgg4 (v := .bool x22.fallen) ((Get.elemN (s := 8) rfl r25g (ProcessR.get_fallen gh0)).off (by omega))) ?_
  refine Lst.rG hb21 (Ev.not rfl) ?_
  refine Lst.r (Ev.pickT rfl hb21 rfl) ?_
  refine Lst.nil ?_
  exact At.meet (!x22.fallen) fl ⟨rfl, trivial⟩ rfl (some_inj H)
 rintro F26 y20 hF27 hy
 subst hy
 refine Lst.as (e' := [(34, .bool y20)]) (L' := (.rows (α := Saying) 62 (List.map ProcessR.row rs_a0_1)) :: (.own s_a0_1 100 8 (encs rs_a0_1)) :: (.own s_a0_2 9 1 (encs a0.ordered)) :: (.own s_a0_3 9 1 (encs a0.way)) :: (.blk b_a0 (enc (WldR.mk a0 s_a0_1 s_a0_2 s_a0_3)) 95) :: L) ⟨rfl, trivial⟩ rfl ?_
 replace H := HKo19
 refine Lst.r (Ev.assign rfl) ?_
 refine nt0 ?_
 obtain rfl := some_inj H
 refine Cd.ret ?_
 exact At.ret1 rfl (Res.tmp rfl) (FLe.trans hF18 hF27) (sk1 (sk1 (sk1 (sk1 (sk1 (.refl _)))))) ⟨rfl, rfl⟩
set_option maxRecDepth 20000 in
theorem world_World_working_sim {a0 : Wld} {a1 : Int} {b_a0 : Nat} {s_a0_1 : Sl} {rs_a0_1 : List ProcessR} {s_a0_2 : Sl} {s_a0_3 : Sl} {r : Int} (H : world_World_working a0 a1 = some r) (w0 : World) (F : Frz) (M L : List Item) (hM : M.Sublist L) (hm_a0_1 : rs_a0_1.map ProcessR.v = a0.all) (ha_a0_1 : All ProcessR.frel w0 F [] rs_a0_1) : Ok Tryz.prog w0 59 [pv b_a0 0, iv a1] F ((.rows (α := Saying) 62 (List.map ProcessR.row rs_a0_1)) :: (.own s_a0_1 100 8 (encs rs_a0_1)) :: (.own s_a0_2 9 1 (encs a0.ordered)) :: (.own s_a0_3 9 1 (encs a0.way)) :: (.blk b_a0 (enc (WldR.mk a0 s_a0_1 s_a0_2 s_a0_3)) 95) :: L) (Is (iv r) ((.rows (α := Saying) 62 (List.map ProcessR.row rs_a0_1)) :: (.own s_a0_1 100 8 (encs rs_a0_1)) :: (.own s_a0_2 9 1 (encs a0.ordered)) :: (.own s_a0_3 9 1 (encs a0.way)) :: (.blk b_a0 (enc (WldR.mk a0 s_a0_1 s_a0_2 s_a0_3)) 95) :: L)) := by
 unfold world_World_working at H
 refine Ok.enter (m := 2) (n := 16) Tryz.func59 rfl rfl rfl (by decide) ?_
 refine Cd.env (e' := [(0, pv b_a0 0), (1, iv a1)]) rfl ?_
 refine sr0 ?_
 refine Lst.r (Ev.assign rfl) ?_
 refine nt0 ?_
 refine Cd.seq ?_
 refine sr0 ?_
 refine mv0 rfl ?_
 refine mv0 rfl ?_
 obtain ⟨r6, h7, H⟩ := bind_some H
 refine Lst.call1 rfl rfl (by decide) (vs := [pv b_a0 0, iv a1]) ⟨rfl, rfl, trivial⟩ Tryz.call43 (world_World_known_sim h7 w0 _ M _ hM hm_a0_1 (All.monoProcessF ha_a0_1 fl (List.nil_sublist _))) ?_
 refine Lst.r (Ev.assign rfl) ?_
 refine nsr ?_
 refine mv0 rfl ?_
 refine Lst.r (Ev.neq rfl rfl) ?_
 refine nt0 ?_
 rcases Bool.eq_false_or_eq_true (r6 != (0 : Int)) with hb10 | hb10
 ·replace H := ite_t hb10 H
  refine Cd.condT rfl hb10 ?_
  refine sr0 ?_
  refine mv0 rfl ?_
  refine Lst.r (Ev.assign rfl) ?_
  refine nt0 ?_
  obtain rfl := some_inj H
  refine Cd.ret ?_
  refine At.then_ret ?_
  exact At.ret1 rfl (Res.tmp rfl) fl (sk1 (sk1 (sk1 (sk1 (sk1 (.refl _)))))) ⟨rfl, rfl⟩
 replace H := ite_f hb10 H
 refine Cd.condF rfl hb10 ?_
 refine Cd.skip ?_
 refine At.then ?_
 refine Cd.seq ?_
 refine sr0 ?_
 refine mv0 rfl ?_
 refine mv0 rfl ?_
 obtain ⟨r11, h12, H⟩ := bind_some H
 refine Lst.call1 rfl rfl (by decide) (vs := [pv b_a0 0, iv a1]) ⟨rfl, rfl, trivial⟩ Tryz.call65 (world_World_active_sim h12 w0 _ M _ hM hm_a0_1 (All.monoProcessF ha_a0_1 fl (List.nil_sublist _))) ?_
 refine Lst.r (Ev.not rfl) ?_
 refine nt0 ?_
 rcases Bool.eq_false_or_eq_true (!r11) with hb15 | hb15
 ·replace H := ite_t hb15 H
  refine Cd.condT rfl hb15 ?_
  refine sr0 ?_
  refine Lst.r (Ev.assign rfl) ?_
  refine nt0 ?_
  obtain rfl := some_inj H
  refine Cd.ret ?_
  refine At.then_ret ?_
  exact At.ret1 rfl (Res.tmp rfl) fl (sk1 (sk1 (sk1 (sk1 (sk1 (.refl _)))))) ⟨rfl, rfl⟩
 replace H := ite_f hb15 H
 refine Cd.condF rfl hb15 ?_
 refine Cd.skip ?_
 refine At.then ?_
 refine sr0 ?_
 refine Lst.r (Ev.assign rfl) ?_
 refine nt0 ?_
 obtain rfl := some_inj H
 refine Cd.ret ?_
 exact At.ret1 rfl (Res.tmp rfl) fl (sk1 (sk1 (sk1 (sk1 (sk1 (.refl _)))))) ⟨rfl, rfl⟩
set_option maxRecDepth 20000 in
theorem lane_in_sim {a0 : Int} {a1 : Int} {a2 : Int} {r : Bool} (H : lane_in a0 a1 a2 = some r) (w0 : World) (F : Frz) (M L : List Item) (hM : M.Sublist L) : Ok Tryz.prog w0 168 [iv a0, iv a1, iv a2] F (L) (Is (.bool r) (L)) := by
 unfold lane_in at H
 refine Ok.enter (m := 3) (n := 15) Tryz.func168 rfl rfl rfl (by decide) ?_
 refine Cd.env (e' := [(0, iv a0), (1, iv a1), (2, iv a2)]) rfl ?_
 refine sr0 ?_
 refine Lst.r (Ev.assign rfl) ?_
 refine nsr ?_
 refine mv0 rfl ?_
 refine mv0 rfl ?_
 refine Lst.r (Ev.geq rfl rfl) ?_
 refine mv0 rfl ?_
 obtain ⟨o1, H, HKo1⟩ := bind_some H
 refine Lst.join (σ := Bool) 4 (fun y2 => [(14, .bool y2)]) (fun y2 => L) (fun _ y2 => y2 = o1) ?_ ?_
 ·rcases (Bool.eq_false_or_eq_true (decide (a0 ≥ a1))).symm with hb3 | hb3
  ·replace H := ite_f hb3 H
   refine Lst.skip rfl rfl rfl hb3 rfl (by decide) ?_
   refine Lst.skip rfl rfl rfl hb3 rfl (by decide) ?_
   refine Lst.skip rfl rfl rfl hb3 rfl (by decide) ?_
   refine Lst.r (Ev.pickF rfl hb3 rfl) ?_
   refine Lst.nil ?_
   exact At.meet false fl ⟨rfl, trivial⟩ rfl (some_inj H)
  replace H := ite_t hb3 H
  refine Lst.rG hb3 (Ev.move rfl) ?_
  refine Lst.rG hb3 (Ev.move rfl) ?_
  refine Lst.rG hb3 (Ev.leq rfl rfl) ?_
  refine Lst.r (Ev.pickT rfl hb3 rfl) ?_
  refine Lst.nil ?_
  exact At.meet (decide (a0 ≤ a2)) fl ⟨rfl, trivial⟩ rfl (some_inj H)
 rintro F4 y2 hF5 hy
 subst hy
 refine Lst.as (e' := [(14, .bool y2)]) (L' := L) ⟨rfl, trivial⟩ rfl ?_
 replace H := HKo1
 refine Lst.r (Ev.assign rfl) ?_
 refine nt0 ?_
 obtain rfl := some_inj H
 refine Cd.ret ?_
 exact At.ret1 rfl (Res.tmp rfl) hF5 (.refl _) ⟨rfl, rfl⟩
set_option maxRecDepth 20000 in
theorem lane_long_sim {a0 : Str} {r : Bool} (H : lane_long a0 = some r) (w0 : World) (F : Frz) (M L : List Item) (hM : M.Sublist L) : Ok Tryz.prog w0 112 [Str.v a0] F (L) (Is (.bool r) (L)) := by
 unfold lane_long at H
 refine Ok.enter (m := 1) (n := 6) Tryz.func112 rfl rfl rfl (by decide) ?_
 refine Cd.env (e' := [(0, Str.v a0)]) rfl ?_
 refine sr0 ?_
 refine Lst.r (Ev.assign rfl) ?_
 refine nsr ?_
 refine mv0 rfl ?_
 refine Lst.r (Ev.lenStr rfl rfl Tryz.runUnderlying9) ?_
 refine Lst.r (Ev.gtr rfl rfl) ?_
 refine Lst.r (Ev.assign rfl) ?_
 refine nt0 ?_
 obtain rfl := some_inj H
 refine Cd.ret ?_
 exact At.ret1 rfl (Res.tmp rfl) fl (.refl _) ⟨rfl, rfl⟩
set_option maxRecDepth 20000 in
theorem slices_IndexFunc_string_string_lane_long_sim {a0 : List Str} {s_a0 : Sl} {r : Int} (H : slices_IndexFunc_string_string_lane_long a0 = some r) (w0 : World) (F : Frz) (M L : List Item) (hM : M.Sublist L) (hs_a0 : Rd w0 F M s_a0 a0) : Ok Tryz.prog w0 143 [Sl.v s_a0, .func (.func 112) #[] #[]] F (L) (Is (iv r) (L)) := by
 unfold slices_IndexFunc_string_string_lane_long at H
 refine Ok.enter (m := 2) (n := 19) Tryz.func143 rfl rfl rfl (by decide) ?_
 refine Cd.env (e' := [(0, Sl.v s_a0), (1, .func (.func 112) #[] #[])]) rfl ?_
 refine sr0 ?_
 refine Lst.r (Ev.assign rfl) ?_
 refine nt0 ?_
 refine Cd.seq ?_
 refine sr0 ?_
 refine mv0 rfl ?_
 refine Lst.r (Ev.lenS (α := Str) (xs := a0) (by decide) rfl rfl Tryz.runUnderlying43 (hs_a0.mono fl hM)) ?_
 refine mv0 rfl ?_
 refine nt0 ?_
 refine Cd.block ?_
 refine Cd.bound (Rd.le (α := Str) (xs := a0) (by decide) (hs_a0.mono fl hM)) (fun hN12 => ?_)
 obtain ⟨ol1, H, HKl1⟩ := andThen_some H
 refine Cd.loop (σ := Nat × Nat × Unit) (fun (i1, k1, _u) => [(0, Sl.v s_a0), (1, .func (.func 112) #[] #[]), (7, iv (a0.length : Int)), (8, iv (i1 : Int))]) (fun (i1, k1, _u) => L) (fun _ => (fun (i1, k1, _u) => rangeM (slices_IndexFunc_string_string_lane_long_B0 a0) k1 i1 () = some ol1 ∧ i1 + k1 = a0.length)) (fun (i1, k1, _u) => k1) (0, a0.length, ()) ⟨rfl, rfl, rfl, rfl, trivial⟩ rfl ⟨H, by omega⟩ ?_
 rintro F2 ⟨i1, k1, _u⟩ hF3 ⟨H, hik1⟩
 refine Cd.as (e' := [(0, Sl.v s_a0), (1, .func (.func 112) #[] #[]), (7, iv (a0.length : Int)), (8, iv (i1 : Int))]) (L' := L) ⟨rfl, rfl, rfl, rfl, trivial⟩ rfl ?_
 rcases k1 with _ | k1
 ·have hc1 : decide ((i1 : Int) < (a0.length : Int)) = false := decide_eq_false (by omega)
  replace H := rangeM_end H
  refine sr0 ?_
  refine Lst.r (Ev.lss rfl rfl) ?_
  refine nt0 ?_
  refine Cd.seq ?_
  refine Cd.condF rfl hc1 ?_
  refine Cd.exit ?_
  refine At.then_exit ?_
  refine At.then_exit ?_
  refine At.in_exit ?_
  subst H
  replace H := HKl1
  refine At.then ?_
  refine sr0 ?_
  refine Lst.r (Ev.assign rfl) ?_
  refine nt0 ?_
  obtain rfl := some_inj H
  refine Cd.ret ?_
  exact At.ret1 rfl (Res.tmp rfl) hF3 (.refl _) ⟨rfl, rfl⟩
 have hc1 : decide ((i1 : Int) < (a0.length : Int)) = true := decide_eq_true (by omega)
 obtain ⟨c1, H, hgo1, hbrk1, hret1⟩ := rangeM_go H
 unfold slices_IndexFunc_string_string_lane_long_B0 at H
 try dsimp only at H
 refine sr0 ?_
 refine Lst.r (Ev.lss rfl rfl) ?_
 refine nt0 ?_
 refine Cd.seq ?_
 refine Cd.condT rfl hc1 ?_
 refine Cd.skip ?_
 refine At.then ?_
 refine Cd.seq ?_
 refine Cd.block ?_
 refine sr0 ?_
 refine mv0 rfl ?_
 refine Lst.r (Ev.assign rfl) ?_
 refine nsr ?_
 refine mv0 rfl ?_
 refine mv0 rfl ?_
 refine mv0 rfl ?_
 obtain ⟨x4, h5, H⟩ := bind_some H
 have g6 := lat_some h5
 refine Lst.r (Ev.indexS (α := Str) (xs := a0) rfl rfl Tryz.runUnderlying43 Tryz.sizeOf9 rfl (by decide) (hs_a0.mono hF3 hM) g6.1 g6.2.1) ?_
 refine Lst.r (Ev.loadS (α := Str) rfl (hs_a0.mono hF3 hM) Tryz.isAgg9 (v := Str.v x4) ((Get.elemN (s := 1) (x := x4) rfl g6.2.2 gh0).off (by omega))) ?_
 obtain ⟨r7, h8, H⟩ := bind_some H
 refine Lst.callV1 rfl rfl (by decide) (vs := [Str.v x4]) (cs := []) rfl ⟨rfl, trivial⟩ Tryz.call112 (lane_long_sim h8 w0 _ M _ hM) ?_
 refine nt0 ?_
 rcases Bool.eq_false_or_eq_true r7 with hb11 | hb11
 ·replace H := ite_t hb11 H
  refine Cd.condT rfl hb11 ?_
  refine sr0 ?_
  refine mv0 rfl ?_
  refine Lst.r (Ev.assign rfl) ?_
  refine nt0 ?_
  have H := hret1 _ (some_inj H).symm
  subst H
  replace H := HKl1
  obtain rfl := some_inj H
  refine Cd.ret ?_
  refine At.in_ret ?_
  refine At.then_ret ?_
  refine At.then_ret ?_
  refine At.in_ret ?_
  refine At.then_ret ?_
  exact At.ret1 rfl (Res.tmp rfl) hF3 (.refl _) ⟨rfl, rfl⟩
 replace H := ite_f hb11 H
 refine Cd.condF rfl hb11 ?_
 refine Cd.skip ?_
 refine At.in_normal ?_
 refine At.then ?_
 refine Cd.region ?_
 refine Lst.r (Ev.incr (by omega) rfl rfl) ?_
 refine mv0 rfl ?_
 refine Lst.nil ?_
 exact At.meet (i1 + 1, k1, ()) hF3 ⟨rfl, rfl, rfl, rfl, trivial⟩ rfl ⟨⟨hgo1 _ (some_inj H).symm, by omega⟩, Nat.lt_succ_self _⟩
set_option maxRecDepth 20000 in
theorem slices_ContainsFunc_string_string_lane_long_sim {a0 : List Str} {s_a0 : Sl} {r : Bool} (H : slices_ContainsFunc_string_string_lane_long a0 = some r) (w0 : World) (F : Frz) (M L : List Item) (hM : M.Sublist L) (hs_a0 : Rd w0 F M s_a0 a0) : Ok Tryz.prog w0 169 [Sl.v s_a0, .func (.func 112) #[] #[]] F (L) (Is (.bool r) (L)) := by
 unfold slices_ContainsFunc_string_string_lane_long at H
 refine Ok.enter (m := 2) (n := 9) Tryz.func169 rfl rfl rfl (by decide) ?_
 refine Cd.env (e' := [(0, Sl.v s_a0), (1, .func (.func 112) #[] #[])]) rfl ?_
 refine sr0 ?_
 refine Lst.r (Ev.assign rfl) ?_
 refine nsr ?_
 refine mv0 rfl ?_
 refine mv0 rfl ?_
 obtain ⟨r1, h2, H⟩ := bind_some H
 refine Lst.call1 rfl rfl (by decide) (vs := [Sl.v s_a0, .func (.func 112) #[] #[]]) ⟨rfl, rfl, trivial⟩ Tryz.call143 (slices_IndexFunc_string_string_lane_long_sim h2 w0 _ M _ hM (hs_a0.mono fl (.refl _))) ?_
 refine Lst.r (Ev.geq rfl rfl) ?_
 refine Lst.r (Ev.assign rfl) ?_
 refine nt0 ?_
 obtain rfl := some_inj H
 refine Cd.ret ?_
 exact At.ret1 rfl (Res.tmp rfl) fl (.refl _) ⟨rfl, rfl⟩
set_option maxRecDepth 20000 in
theorem lane_CheckFrom_sim {a0 : From} {s_a0_1 : Sl} {r : Int} (H : lane_CheckFrom a0 = some r) (w0 : World) (F : Frz) (M L : List Item) (hM : M.Sublist L) (hs_a0_1 : Rd w0 F M s_a0_1 a0.Late) : Ok Tryz.prog w0 111 [.agg (enc (FromR.mk a0 s_a0_1)).toArray] F (L) (Is (iv r) (L)) := by
 unfold lane_CheckFrom at H
 refine Ok.enter (m := 1) (n := 18) Tryz.func111 rfl rfl rfl (by decide) ?_
 refine Cd.env (e' := [(0, .agg (enc (FromR.mk a0 s_a0_1)).toArray)]) rfl ?_
 refine sr0 ?_
 refine Lst.box rfl rfl (by decide) rfl (cs := enc (FromR.mk a0 s_a0_1)) rfl (fun b1 => ?_)
 refine Lst.r (Ev.assign rfl) ?_
 refine nt0 ?_
 refine Cd.seq ?_
 refine Cd.block ?_
 refine sr0 ?_
 refine Lst.r (Ev.fieldAddr (off' := 0) rfl Tryz.runUnderlying45 rfl Tryz.sizeOf3 rfl rfl) ?_
 refine Lst.r (Ev.load (i := 0) rfl rfl Tryz.isAgg3 (v := iv a0.Base) ((FromR.get_Base gh0).off (by rfl))) ?_
 obtain ⟨r3, h4, H⟩ := bind_some H
 refine Lst.call1 rfl rfl (by decide) (vs := [iv a0.Base, iv (0 : Int), iv (16777215 : Int)]) ⟨rfl, rfl, rfl, trivial⟩ Tryz.call168 (lane_in_sim h4 w0 _ M _ (sc1 hM)) ?_
 refine Lst.r (Ev.not rfl) ?_
 refine mv0 rfl ?_
 obtain ⟨o7, H, HKo7⟩ := bind_some H
 refine Lst.join (σ := Bool) 5 (fun y8 => [(1, pv b1 0), (13, .bool y8)]) (fun y8 => (.blk b1 (enc (FromR.mk a0 s_a0_1)) 45) :: L) (fun _ y8 => y8 = o7) ?_ ?_
 ·rcases Bool.eq_false_or_eq_true (!r3) with hb9 | hb9
  ·replace H := ite_t hb9 H
   refine Lst.skip rfl rfl rfl hb9 rfl (by decide) ?_
   refine Lst.skip rfl rfl rfl hb9 rfl (by decide) ?_
   refine Lst.skip rfl rfl rfl hb9 rfl (by decide) ?_
   refine Lst.skip rfl rfl rfl hb9 rfl (by decide) ?_
   refine Lst.r (Ev.pickT rfl hb9 rfl) ?_
   refine Lst.nil ?_
   exact At.meet true fl ⟨rfl, rfl, trivial⟩ rfl (some_inj H)
  replace H := ite_f hb9 H
  refine Lst.rG hb9 (Ev.fieldAddr (off' := 1) rfl Tryz.runUnderlying45 rfl Tryz.sizeOf43 rfl rfl) ?_
  refine Lst.rG hb9 (Ev.load (i := 0) rfl rfl Tryz.isAgg43 (v := Sl.v s_a0_1) ((FromR.get_Late gh0).off (by rfl))) ?_
  refine Lst.rG hb9 (Ev.lenS (α := Str) (xs := a0.Late) (by decide) rfl rfl Tryz.runUnderlying43 (hs_a0_1.mono fl (sc1 hM))) ?_
  refine Lst.rG hb9 (Ev.gtr rfl rfl) ?_
  refine Lst.r (Ev.pickF rfl hb9 rfl) ?_
  refine Lst.nil ?_
  exact At.meet (decide ((a0.Late.length : Int) > (16 : Int))) fl ⟨rfl, rfl, trivial⟩ rfl (some_inj H)
 rintro F10 y8 hF11 hy
 subst hy
 refine Lst.as (e' := [(1, pv b1 0), (13, .bool y8)]) (L' := (.blk b1 (enc (FromR.mk a0 s_a0_1)) 45) :: L) ⟨rfl, rfl, trivial⟩ rfl ?_
 replace H := HKo7
 refine Lst.r (Ev.assign rfl) ?_
 refine nt0 ?_
 rcases Bool.eq_false_or_eq_true y8 with hb12 | hb12
 ·replace H := ite_t hb12 H
  refine Cd.condT rfl hb12 ?_
  refine sr0 ?_
  refine Lst.r (Ev.assign rfl) ?_
  refine nt0 ?_
  obtain rfl := some_inj H
  refine Cd.ret ?_
  refine At.in_ret ?_
  refine At.then_ret ?_
  exact At.ret1 rfl (Res.tmp rfl) hF11 (sc1 (.refl _)) ⟨rfl, rfl⟩
 replace H := ite_f hb12 H
 refine Cd.condF rfl hb12 ?_
 refine sr0 ?_
 refine Lst.r (Ev.fieldAddr (off' := 1) rfl Tryz.runUnderlying45 rfl Tryz.sizeOf43 rfl rfl) ?_
 refine Lst.r (Ev.load (i := 0) rfl rfl Tryz.isAgg43 (v := Sl.v s_a0_1) ((FromR.get_Late gh0).off (by rfl))) ?_
 obtain ⟨r13, h14, H⟩ := bind_some H
 refine Lst.call1 rfl rfl (by decide) (vs := [Sl.v s_a0_1, .func (.func 112) #[] #[]]) ⟨rfl, rfl, trivial⟩ Tryz.call169 (slices_ContainsFunc_string_string_lane_long_sim h14 w0 _ M _ (sc1 hM) (hs_a0_1.mono hF11 (.refl _))) ?_
 refine Lst.r (Ev.assign rfl) ?_
 refine nt0 ?_
 rcases Bool.eq_false_or_eq_true r13 with hb17 | hb17
 ·replace H := ite_t hb17 H
  refine Cd.condT rfl hb17 ?_
  refine sr0 ?_
  refine Lst.r (Ev.assign rfl) ?_
  refine nt0 ?_
  obtain rfl := some_inj H
  refine Cd.ret ?_
  refine At.in_ret ?_
  refine At.then_ret ?_
  exact At.ret1 rfl (Res.tmp rfl) hF11 (sc1 (.refl _)) ⟨rfl, rfl⟩
 replace H := ite_f hb17 H
 refine Cd.condF rfl hb17 ?_
 refine Cd.skip ?_
 refine At.in_normal ?_
 refine At.then ?_
 refine sr0 ?_
 refine Lst.r (Ev.assign rfl) ?_
 refine nt0 ?_
 obtain rfl := some_inj H
 refine Cd.ret ?_
 exact At.ret1 rfl (Res.tmp rfl) hF11 (sc1 (.refl _)) ⟨rfl, rfl⟩
set_option maxRecDepth 20000 in
theorem slices_Clone_string_string_sim {a0 : List Str} {s_a0 : Sl} {r : (List Str)} (H : slices_Clone_string_string a0 = some r) (w0 : World) (F : Frz) (M L : List Item) (hM : M.Sublist L) (hs_a0 : Rd w0 F M s_a0 a0) : Ok Tryz.prog w0 45 [Sl.v s_a0] F (L) (fun _ L' v => ∃ (s1 : Sl), v = Sl.v s1 ∧ L' = (.own s1 9 1 (encs r)) :: L) := by
 unfold slices_Clone_string_string at H
 refine Ok.enter (m := 1) (n := 8) Tryz.func45 rfl rfl rfl (by decide) ?_
 refine Cd.env (e' := [(0, Sl.v s_a0)]) rfl ?_
 refine sr0 ?_
 refine Lst.addNil 9 1 ?_
 refine Lst.r (Ev.assign rfl) ?_
 refine nt0 ?_
 refine Cd.seq ?_
 refine sr0 ?_
 refine mv0 rfl ?_
 refine Lst.r (Ev.eqlNil rfl Tryz.runUnderlying43) ?_
 refine nt0 ?_
 rcases Bool.eq_false_or_eq_true ((Sl.a s_a0).isNone) with hb2 | hb2
 ·refine Cd.bound (Rd.isNil (α := Str) (by decide) (hs_a0.mono fl (sc1 hM)) hb2) (fun hx9 => ?_)
  rw [clone_nil hx9] at H
  refine Cd.condT rfl hb2 ?_
  refine sr0 ?_
  refine Lst.addNil 9 1 ?_
  refine Lst.r (Ev.assign rfl) ?_
  refine nt0 ?_
  obtain rfl := some_inj H
  refine Cd.ret ?_
  refine At.then_ret ?_
  exact At.ret1 rfl (Res.tmp rfl) fl (sk1 (sc1 (.refl _))) ⟨Sl.nil, rfl, rfl⟩
 refine Cd.condF rfl hb2 ?_
 refine Cd.skip ?_
 refine At.then ?_
 refine sr0 ?_
 refine Lst.buildSlice0 rfl rfl (by decide) Tryz.runUnderlying43 Tryz.sizeOf9 (fun s3 => ?_)
 refine Lst.its (L' := (.own s3 9 1 (encs ([] : List Str))) :: (.own Sl.nil 9 1 (encs ([] : List Str))) :: L) rfl ?_
 refine mv0 rfl ?_
 obtain ⟨u5, h6, H⟩ := bind_some H
 refine Lst.append (i := 0) (α := Str) (xs := ([] : List Str)) (ys := a0) rfl rfl (by decide) rfl rfl Tryz.runUnderlying43 Tryz.typeInfo9 rfl rfl rfl rfl rfl rfl (hs_a0.mono fl (sc2 hM)) rfl (room_some h6) rfl (fun s7 => ?_)
 refine Lst.its (L' := (.own s7 9 1 (encs (([] : List Str) ++ a0))) :: (.own Sl.nil 9 1 (encs ([] : List Str))) :: L) rfl ?_
 refine Lst.r (Ev.assign rfl) ?_
 refine nt0 ?_
 obtain rfl := some_inj H
 refine Cd.ret ?_
 exact At.ret1 rfl (Res.tmp rfl) fl (sk1 (sc1 (.refl _))) ⟨s7, rfl, rfl⟩
set_option maxRecDepth 20000 in
theorem lane_Put_sim {a0 : From} {a1 : Str} {s_a0_1 : Sl} {r : From × Int} (H : lane_Put a0 a1 = some r) (w0 : World) (F : Frz) (M L : List Item) (hM : M.Sublist L) (hs_a0_1 : Rd w0 F M s_a0_1 a0.Late) : Ok Tryz.prog w0 60 [.agg (enc (FromR.mk a0 s_a0_1)).toArray, Str.v a1] F (L) (fun _ L' v => ∃ (s1 : Sl), v = .tuple #[.agg (enc (FromR.mk r.1 s1)).toArray, iv r.2] ∧ L' = (.own s1 9 1 (encs r.1.Late)) :: L) := by
 unfold lane_Put at H
 refine Ok.enter (m := 2) (n := 41) Tryz.func60 rfl rfl rfl (by decide) ?_
 refine Cd.env (e' := [(0, .agg (enc (FromR.mk a0 s_a0_1)).toArray), (1, Str.v a1)]) rfl ?_
 refine sr0 ?_
 refine Lst.box rfl rfl (by decide) rfl (cs := enc (FromR.mk a0 s_a0_1)) rfl (fun b1 => ?_)
 refine Lst.addNil 9 1 ?_
 refine Lst.alloc (cs := enc (FromR.mk ({ From.zero with Late := ([] : List Str) } : From) Sl.nil)) rfl rfl (by decide) Tryz.zeroValue45 rfl (fun b4 => ?_)
 refine Lst.r (Ev.assign rfl) ?_
 refine nt0 ?_
 refine Cd.seq ?_
 refine sr0 ?_
 refine Lst.r (Ev.loadA (i := 2) rfl rfl Tryz.isAgg45 Tryz.sizeOf45 (ch := enc (FromR.mk a0 s_a0_1)) (Enc.len _) gh0) ?_
 obtain ⟨r6, h7, H⟩ := bind_some H
 refine Lst.call1 rfl rfl (by decide) (vs := [.agg (enc (FromR.mk a0 s_a0_1)).toArray]) ⟨rfl, trivial⟩ Tryz.call111 (lane_CheckFrom_sim h7 w0 _ M _ (sc2 (sc1 hM)) (hs_a0_1.mono fl (.refl _))) ?_
 refine Lst.r (Ev.assign rfl) ?_
 refine nsr ?_
 refine mv0 rfl ?_
 refine Lst.r (Ev.neq rfl rfl) ?_
 refine nt0 ?_
 rcases Bool.eq_false_or_eq_true (r6 != (0 : Int)) with hb10 | hb10
 ·replace H := ite_t hb10 H
  refine Cd.condT rfl hb10 ?_
  refine sr0 ?_
  refine Lst.r (Ev.build (v := .agg (enc (FromR.mk From.zero Sl.nil)).toArray) (pv := []) trivial (fun w => by kernel_rfl)) ?_
  refine mv0 rfl ?_
  refine Lst.store (i := 0) rfl rfl rfl rfl rfl Tryz.sizeOf45 (vs := enc (FromR.mk From.zero Sl.nil)) rfl (Enc.len _) (Enc.one _) (cs' := enc (FromR.mk From.zero Sl.nil)) (Put.here ((Enc.len _).trans (Enc.len _).symm)) (L' := (.blk b4 (enc (FromR.mk From.zero Sl.nil)) 45) :: (.own Sl.nil 9 1 (encs ([] : List Str))) :: (.blk b1 (enc (FromR.mk a0 s_a0_1)) 45) :: L) rfl ?_
  refine Lst.r (Ev.assign rfl) ?_
  refine nt0 ?_
  obtain rfl := some_inj H
  refine Cd.ret ?_
  refine At.then_ret ?_
  refine At.addNil 9 1 ?_
  exact At.ret2 rfl (Res.cellA (i := 1) rfl rfl Tryz.isAgg45 Tryz.sizeOf45 (Enc.len _)) (Res.tmp rfl) fl (sk1 (sc1 (sc1 (sc1 (.refl _))))) ⟨Sl.nil, rfl, rfl⟩
 replace H := ite_f hb10 H
 refine Cd.condF rfl hb10 ?_
 refine Cd.skip ?_
 refine At.then ?_
 refine Cd.seq ?_
 refine Cd.block ?_
 refine sr0 ?_
 refine mv0 rfl ?_
 obtain ⟨r12, h13, H⟩ := bind_some H
 refine Lst.call1 rfl rfl (by decide) (vs := [Str.v a1]) ⟨rfl, trivial⟩ Tryz.call112 (lane_long_sim h13 w0 _ M _ (sc2 (sc1 hM))) ?_
 refine Lst.r (Ev.assign rfl) ?_
 refine nt0 ?_
 rcases Bool.eq_false_or_eq_true r12 with hb16 | hb16
 ·replace H := ite_t hb16 H
  refine Cd.condT rfl hb16 ?_
  refine sr0 ?_
  refine Lst.r (Ev.build (v := .agg (enc (FromR.mk From.zero Sl.nil)).toArray) (pv := []) trivial (fun w => by kernel_rfl)) ?_
  refine Lst.store (i := 0) rfl rfl rfl rfl rfl Tryz.sizeOf45 (vs := enc (FromR.mk From.zero Sl.nil)) rfl (Enc.len _) (Enc.one _) (cs' := enc (FromR.mk From.zero Sl.nil)) (Put.here ((Enc.len _).trans (Enc.len _).symm)) (L' := (.blk b4 (enc (FromR.mk From.zero Sl.nil)) 45) :: (.own Sl.nil 9 1 (encs ([] : List Str))) :: (.blk b1 (enc (FromR.mk a0 s_a0_1)) 45) :: L) rfl ?_
  refine Lst.r (Ev.assign rfl) ?_
  refine nt0 ?_
  obtain rfl := some_inj H
  refine Cd.ret ?_
  refine At.in_ret ?_
  refine At.then_ret ?_
  refine At.addNil 9 1 ?_
  exact At.ret2 rfl (Res.cellA (i := 1) rfl rfl Tryz.isAgg45 Tryz.sizeOf45 (Enc.len _)) (Res.tmp rfl) fl (sk1 (sc1 (sc1 (sc1 (.refl _))))) ⟨Sl.nil, rfl, rfl⟩
 replace H := ite_f hb16 H
 refine Cd.condF rfl hb16 ?_
 refine sr0 ?_
 refine Lst.r (Ev.fieldAddr (off' := 1) rfl Tryz.runUnderlying45 rfl Tryz.sizeOf43 rfl rfl) ?_
 refine Lst.r (Ev.load (i := 2) rfl rfl Tryz.isAgg43 (v := Sl.v s_a0_1) ((FromR.get_Late gh0).off (by rfl))) ?_
 refine Lst.r (Ev.lenS (α := Str) (xs := a0.Late) (by decide) rfl rfl Tryz.runUnderlying43 (hs_a0_1.mono fl (sc2 (sc1 hM)))) ?_
 refine Lst.r (Ev.eql rfl rfl) ?_
 refine mv0 rfl ?_
 obtain ⟨o18, H, HKo18⟩ := bind_some H
 refine Lst.join (σ := Bool) 8 (fun y19 => [(1, Str.v a1), (2, pv b1 0), (4, pv b4 0), (30, .bool y19)]) (fun y19 => (.blk b4 (enc (FromR.mk ({ From.zero with Late := ([] : List Str) } : From) Sl.nil)) 45) :: (.own Sl.nil 9 1 (encs ([] : List Str))) :: (.blk b1 (enc (FromR.mk a0 s_a0_1)) 45) :: L) (fun _ y19 => y19 = o18) ?_ ?_
 ·rcases Bool.eq_false_or_eq_true ((a0.Late.length : Int) == (16 : Int)) with hb20 | hb20
  ·replace H := ite_t hb20 H
   refine Lst.skip rfl rfl rfl hb20 rfl (by decide) ?_
   refine Lst.skip rfl rfl rfl hb20 rfl (by decide) ?_
   refine Lst.skip rfl rfl rfl hb20 rfl (by decide) ?_
   refine Lst.skip rfl rfl rfl hb20 rfl (by decide) ?_
   refine Lst.skip rfl rfl rfl hb20 rfl (by decide) ?_
   refine Lst.skip rfl rfl rfl hb20 rfl (by decide) ?_
   refine Lst.skip rfl rfl rfl hb20 rfl (by decide) ?_
   refine Lst.r (Ev.pickT rfl hb20 rfl) ?_
   refine Lst.nil ?_
   exact At.meet true fl ⟨rfl, rfl, rfl, rfl, trivial⟩ rfl (some_inj H)
  replace H := ite_f hb20 H
  refine Lst.rG hb20 (Ev.fieldAddr (off' := 0) rfl Tryz.runUnderlying45 rfl Tryz.sizeOf3 rfl rfl) ?_
  refine Lst.rG hb20 (Ev.load (i := 2) rfl rfl Tryz.isAgg3 (v := iv a0.Base) ((FromR.get_Base gh0).off (by rfl))) ?_
  refine Lst.rG hb20 (Ev.fieldAddr (off' := 1) rfl Tryz.runUnderlying45 rfl Tryz.sizeOf43 rfl rfl) ?_
  refine Lst.rG hb20 (Ev.load (i := 2) rfl rfl Tryz.isAgg43 (v := Sl.v s_a0_1) ((FromR.get_Late gh0).off (by rfl))) ?_
  refine Lst.rG hb20 (Ev.lenS (α := Str) (xs := a0.Late) (by decide) rfl rfl Tryz.runUnderlying43 (hs_a0_1.mono fl (sc2 (sc1 hM)))) ?_
  refine Lst.rG hb20 (Ev.add rfl rfl) ?_
  refine Lst.rG hb20 (Ev.geq rfl rfl) ?_
  refine Lst.r (Ev.pickF rfl hb20 rfl) ?_
  refine Lst.nil ?_
  exact At.meet (decide ((w64 (a0.Base + (a0.Late.length : Int))) ≥ (16777215 : Int))) fl ⟨rfl, rfl, rfl, rfl, trivial⟩ rfl (some_inj H)
 rintro F21 y19 hF22 hy
 subst hy
 refine Lst.as (e' := [(1, Str.v a1), (2, pv b1 0), (4, pv b4 0), (30, .bool y19)]) (L' := (.blk b4 (enc (FromR.mk ({ From.zero with Late := ([] : List Str) } : From) Sl.nil)) 45) :: (.own Sl.nil 9 1 (encs ([] : List Str))) :: (.blk b1 (enc (FromR.mk a0 s_a0_1)) 45) :: L) ⟨rfl, rfl, rfl, rfl, trivial⟩ rfl ?_
 replace H := HKo18
 refine Lst.r (Ev.assign rfl) ?_
 refine nt0 ?_
 rcases Bool.eq_false_or_eq_true y19 with hb23 | hb23
 ·replace H := ite_t hb23 H
  refine Cd.condT rfl hb23 ?_
  refine sr0 ?_
  refine Lst.r (Ev.build (v := .agg (enc (FromR.mk From.zero Sl.nil)).toArray) (pv := []) trivial (fun w => by kernel_rfl)) ?_
  refine Lst.store (i := 0) rfl rfl rfl rfl rfl Tryz.sizeOf45 (vs := enc (FromR.mk From.zero Sl.nil)) rfl (Enc.len _) (Enc.one _) (cs' := enc (FromR.mk From.zero Sl.nil)) (Put.here ((Enc.len _).trans (Enc.len _).symm)) (L' := (.blk b4 (enc (FromR.mk From.zero Sl.nil)) 45) :: (.own Sl.nil 9 1 (encs ([] : List Str))) :: (.blk b1 (enc (FromR.mk a0 s_a0_1)) 45) :: L) rfl ?_
  refine Lst.r (Ev.assign rfl) ?_
  refine nt0 ?_
  obtain rfl := some_inj H
  refine Cd.ret ?_
  refine At.in_ret ?_
  refine At.then_ret ?_
  refine At.addNil 9 1 ?_
  exact At.ret2 rfl (Res.cellA (i := 1) rfl rfl Tryz.isAgg45 Tryz.sizeOf45 (Enc.len _)) (Res.tmp rfl) hF22 (sk1 (sc1 (sc1 (sc1 (.refl _))))) ⟨Sl.nil, rfl, rfl⟩
 replace H := ite_f hb23 H
 refine Cd.condF rfl hb23 ?_
 refine Cd.skip ?_
 refine At.in_normal ?_
 refine At.then ?_
 refine Cd.seq ?_
 obtain ⟨r25, h26, H⟩ := bind_some H
 obtain ⟨u33, h34, H⟩ := bind_some H
 obtain ⟨o39, h40, H⟩ := Let_some H
 refine Cd.headMeet (σ := Sl × (List Str)) 8 (fun (s37, l38) => [(4, pv b4 0), (33, iv a0.Base), (39, Sl.v s37)]) (fun (s37, l38) => (.own s37 9 1 (encs l38)) :: (.blk b4 (enc (FromR.mk ({ From.zero with Late := ([] : List Str) } : From) Sl.nil)) 45) :: (.own Sl.nil 9 1 (encs ([] : List Str))) :: (.blk b1 (enc (FromR.mk a0 s_a0_1)) 45) :: L) (fun _ (s37, l38) => l38 = o39) (by kernel_rfl) (by kernel_rfl) (behind_sink (by kernel_rfl) (by kernel_rfl) (by kernel_rfl)) (by kernel_rfl) (fun hsel hlt => ?_) ?_
 ·refine HdJ.keep (fun w => St w0 F21 ((.blk b4 (enc (FromR.mk ({ From.zero with Late := ([] : List Str) } : From) Sl.nil)) 45) :: (.own Sl.nil 9 1 (encs ([] : List Str))) :: (.blk b1 (enc (FromR.mk a0 s_a0_1)) 45) :: L) w) (fun w h => trivial) ?_
  refine HdJ.ts hsel hlt 0 (sk1 (sk1 (sk1 (.refl _)))) rfl (Ev.fieldAddr (off' := 0) rfl Tryz.runUnderlying45 rfl Tryz.sizeOf3 rfl rfl) ?_
  refine HdJ.ts hsel hlt 1 (sk1 (sk1 (sk1 (.refl _)))) rfl (Ev.load (i := 2) rfl rfl Tryz.isAgg3 (v := iv a0.Base) ((FromR.get_Base gh0).off (by rfl))) ?_
  refine HdJ.ts hsel hlt 2 (sk1 (sk1 (sk1 (.refl _)))) rfl (Ev.fieldAddr (off' := 1) rfl Tryz.runUnderlying45 rfl Tryz.sizeOf43 rfl rfl) ?_
  refine HdJ.ts hsel hlt 3 (sk1 (sk1 (sk1 (.refl _)))) rfl (Ev.load (i := 2) rfl rfl Tryz.isAgg43 (v := Sl.v s_a0_1) ((FromR.get_Late gh0).off (by rfl))) ?_
  refine HdJ.ts hsel hlt 5 (sk1 (sk1 (sk1 (.refl _)))) rfl (Ev.move rfl) ?_
  refine HdJ.step [4, 6] (by kernel_rfl) rfl ?_
  refine HdStep.c (fun inv => ?_) ?_
  ·refine Lst.call rfl rfl (by decide) (vs := [Sl.v s_a0_1]) ⟨rfl, trivial⟩ Tryz.call45 (slices_Clone_string_string_sim h26 w0 _ M _ (sc2 (sc1 hM)) (hs_a0_1.mono hF22 (.refl _))) (fun F42 L' v hF43 hv => ?_)
   obtain ⟨s41, rfl, rfl⟩ := hv
   refine Lst.nil ?_
   refine At.hd inv (fun w h => (h.weaken hF43).sublist (sc1 (sk1 (sk1 (sk1 (.refl _)))))) ?_
   refine HdJ.o1 6 (fun inv => ?_)
   refine Lst.buildSlice (α := Str) (xs := ([a1] : List Str)) (pv := [(0, Str.v a1)]) rfl rfl (by decide) ⟨rfl, rfl, trivial⟩ (run_buildSlice (α := Str) (z0 := ([] : Str)) (xs := ([a1] : List Str)) Tryz.runUnderlying43 Tryz.sizeOf9 Tryz.zeroValue9 rfl rfl rfl (by decide) rfl (fill_cons (cs := encs (List.replicate 1 ([] : Str))) (cs' := encs ((List.replicate 1 ([] : Str)).set 0 a1)) (vs := [Str.v a1]) rfl rfl rfl ((Put.elemN (s := 1) (i := 0) (x := ([] : Str)) (y := a1) rfl rfl (Put.here (vs := [Str.v a1]) rfl)).off rfl) fill_nil)) rfl rfl (by decide) (fun s44 _ => ?_)
   refine Lst.nil ?_
   refine At.hd inv (fun w h => (h.weaken hF43).sublist (sc1 (sc1 (sk1 (sk1 (sk1 (.refl _))))))) ?_
   refine HdJ.o1 7 (fun inv => ?_)
   refine Lst.append (i := 1) (α := Str) (xs := r25) (ys := ([a1] : List Str)) rfl rfl (by decide) rfl rfl Tryz.runUnderlying43 Tryz.typeInfo9 rfl rfl rfl rfl rfl rfl (rdo 0 rfl rfl rfl) rfl (room_some h34) rfl (fun s45 => ?_)
   refine Lst.its (L' := (.own s44 9 1 (encs ([a1] : List Str))) :: (.own s45 9 1 (encs (r25 ++ ([a1] : List Str)))) :: (.blk b4 (enc (FromR.mk ({ From.zero with Late := ([] : List Str) } : From) Sl.nil)) 45) :: (.own Sl.nil 9 1 (encs ([] : List Str))) :: (.blk b1 (enc (FromR.mk a0 s_a0_1)) 45) :: L) rfl ?_
   refine Lst.nil ?_
   refine At.hd inv (fun w h => (h.weaken hF43).sublist (sc1 (sc1 (sk1 (sk1 (sk1 (.refl _))))))) ?_
   refine HdJ.done (by kernel_rfl) ?_
   refine At.less (L' := (.own s45 9 1 (encs (r25 ++ ([a1] : List Str)))) :: (.blk b4 (enc (FromR.mk ({ From.zero with Late := ([] : List Str) } : From) Sl.nil)) 45) :: (.own Sl.nil 9 1 (encs ([] : List Str))) :: (.blk b1 (enc (FromR.mk a0 s_a0_1)) 45) :: L) (sc1 (sk1 (sk1 (sk1 (sk1 (.refl _)))))) ?_
   exact At.meetN (s45, r25 ++ ([a1] : List Str)) hF43 ⟨rfl, rfl, rfl, trivial⟩ rfl h40
  refine HdStep.c (fun inv => ?_) trivial
  refine Lst.buildSlice (α := Str) (xs := ([a1] : List Str)) (pv := [(0, Str.v a1)]) rfl rfl (by decide) ⟨rfl, rfl, trivial⟩ (run_buildSlice (α := Str) (z0 := ([] : Str)) (xs := ([a1] : List Str)) Tryz.runUnderlying43 Tryz.sizeOf9 Tryz.zeroValue9 rfl rfl rfl (by decide) rfl (fill_cons (cs := encs (List.replicate 1 ([] : Str))) (cs' := encs ((List.replicate 1 ([] : Str)).set 0 a1)) (vs := [Str.v a1]) rfl rfl rfl ((Put.elemN (s := 1) (i := 0) (x := ([] : Str)) (y := a1) rfl rfl (Put.here (vs := [Str.v a1]) rfl)).off rfl) fill_nil)) rfl rfl (by decide) (fun s46 _ => ?_)
  refine hds inv (sc1 (sk1 (sk1 (sk1 (.refl _))))) ?_
  refine HdJ.o1 4 (fun inv => ?_)
  refine Lst.call rfl rfl (by decide) (vs := [Sl.v s_a0_1]) ⟨rfl, trivial⟩ Tryz.call45 (slices_Clone_string_string_sim h26 w0 _ M _ (sc4 hM) (hs_a0_1.mono hF22 (.refl _))) (fun F48 L' v hF49 hv => ?_)
  obtain ⟨s47, rfl, rfl⟩ := hv
  refine Lst.nil ?_
  refine At.hd inv (fun w h => (h.weaken hF49).sublist (sc1 (sc1 (sk1 (sk1 (sk1 (.refl _))))))) ?_
  refine HdJ.o1 7 (fun inv => ?_)
  refine Lst.append (i := 0) (α := Str) (xs := r25) (ys := ([a1] : List Str)) rfl rfl (by decide) rfl rfl Tryz.runUnderlying43 Tryz.typeInfo9 rfl rfl rfl rfl rfl rfl (rdo 1 rfl rfl rfl) rfl (room_some h34) rfl (fun s50 => ?_)
  refine Lst.its (L' := (.own s50 9 1 (encs (r25 ++ ([a1] : List Str)))) :: (.own s46 9 1 (encs ([a1] : List Str))) :: (.blk b4 (enc (FromR.mk ({ From.zero with Late := ([] : List Str) } : From) Sl.nil)) 45) :: (.own Sl.nil 9 1 (encs ([] : List Str))) :: (.blk b1 (enc (FromR.mk a0 s_a0_1)) 45) :: L) rfl ?_
  refine Lst.nil ?_
  refine At.hd inv (fun w h => (h.weaken hF49).sublist (sc1 (sc1 (sk1 (sk1 (sk1 (.refl _))))))) ?_
  refine HdJ.done (by kernel_rfl) ?_
  refine At.less (L' := (.own s50 9 1 (encs (r25 ++ ([a1] : List Str)))) :: (.blk b4 (enc (FromR.mk ({ From.zero with Late := ([] : List Str) } : From) Sl.nil)) 45) :: (.own Sl.nil 9 1 (encs ([] : List Str))) :: (.blk b1 (enc (FromR.mk a0 s_a0_1)) 45) :: L) (sk1 (sc1 (sk1 (sk1 (sk1 (.refl _)))))) ?_
  exact At.meetN (s50, r25 ++ ([a1] : List Str)) hF49 ⟨rfl, rfl, rfl, trivial⟩ rfl h40
 rintro F51 ⟨s37, l38⟩ hF52 hy
 subst hy
 refine Lst.as (e' := [(4, pv b4 0), (33, iv a0.Base), (39, Sl.v s37)]) (L' := (.own s37 9 1 (encs l38)) :: (.blk b4 (enc (FromR.mk ({ From.zero with Late := ([] : List Str) } : From) Sl.nil)) 45) :: (.own Sl.nil 9 1 (encs ([] : List Str))) :: (.blk b1 (enc (FromR.mk a0 s_a0_1)) 45) :: L) ⟨rfl, rfl, rfl, trivial⟩ rfl ?_
 refine Lst.r (Ev.build (v := .agg (enc (FromR.mk ({ From.zero with Base := a0.Base, Late := l38 } : From) s37)).toArray) (pv := [(0, iv a0.Base), (1, Sl.v s37)]) ⟨rfl, rfl, ⟨rfl, rfl, trivial⟩⟩ (run_buildStruct (places := #[(0, 1), (1, 1)]) Tryz.zeroValue45 (zs := enc (FromR.mk From.zero Sl.nil)) rfl Tryz.runUnderlying45 (fun w => by kernel_rfl) (fill_cons (cs := enc (FromR.mk From.zero Sl.nil)) (cs' := enc (FromR.mk ({ From.zero with Base := a0.Base } : From) Sl.nil)) (vs := [iv a0.Base]) rfl rfl rfl ((FromR.put_Base (p := (FromR.mk From.zero Sl.nil)) (y := a0.Base) (Put.here (vs := [iv a0.Base]) rfl)).off rfl) (fill_cons (cs := enc (FromR.mk ({ From.zero with Base := a0.Base } : From) Sl.nil)) (cs' := enc (FromR.mk ({ From.zero with Base := a0.Base, Late := l38 } : From) s37)) (vs := [Sl.v s37]) rfl rfl rfl ((FromR.put_Late (p := (FromR.mk ({ From.zero with Base := a0.Base } : From) Sl.nil)) (y := s37) (Put.here (vs := [Sl.v s37]) rfl)).off rfl) fill_nil)))) ?_
 refine Lst.store (i := 1) rfl rfl rfl rfl rfl Tryz.sizeOf45 (vs := enc (FromR.mk ({ From.zero with Base := a0.Base, Late := l38 } : From) s37)) rfl (Enc.len _) (Enc.one _) (cs' := enc (FromR.mk ({ From.zero with Base := a0.Base, Late := l38 } : From) s37)) (Put.here ((Enc.len _).trans (Enc.len _).symm)) (L' := (.own s37 9 1 (encs l38)) :: (.blk b4 (enc (FromR.mk ({ From.zero with Base := a0.Base, Late := l38 } : From) s37)) 45) :: (.own Sl.nil 9 1 (encs ([] : List Str))) :: (.blk b1 (enc (FromR.mk a0 s_a0_1)) 45) :: L) rfl ?_
 refine Lst.r (Ev.assign rfl) ?_
 refine nt0 ?_
 obtain rfl := some_inj H
 refine Cd.ret ?_
 exact At.ret2 rfl (Res.cellA (i := 1) rfl rfl Tryz.isAgg45 Tryz.sizeOf45 (Enc.len _)) (Res.tmp rfl) (FLe.trans hF22 hF52) (sk1 (sc1 (sc1 (sc1 (.refl _))))) ⟨s37, rfl, rfl⟩
set_option maxRecDepth 20000 in
theorem view_outside_sim {a0 : BitVec 8} {r : Bool} (H : view_outside a0 = some r) (w0 : World) (F : Frz) (M L : List Item) (hM : M.Sublist L) : Ok Tryz.prog w0 126 [.int .u8 a0.toNat] F (L) (Is (.bool r) (L)) := by
 unfold view_outside at H
 refine Ok.enter (m := 1) (n := 6) Tryz.func126 rfl rfl rfl (by decide) ?_
 refine Cd.env (e' := [(0, .int .u8 a0.toNat)]) rfl ?_
 refine sr0 ?_
 refine Lst.r (Ev.assign rfl) ?_
 refine nsr ?_
 refine mv0 rfl ?_
 refine Lst.r (Ev.shrU8 (i := a0) (m := 6) rfl rfl) ?_
 refine Lst.r (Ev.neq rfl rfl) ?_
 refine Lst.r (Ev.assign rfl) ?_
 refine nt0 ?_
 obtain rfl := some_inj H
 refine Cd.ret ?_
 exact At.ret1 rfl (Res.tmp rfl) fl (.refl _) ⟨rfl, rfl⟩
set_option maxRecDepth 20000 in
theorem view_Check_sim {a0 : View} {r : Int} (H : view_Check a0 = some r) (w0 : World) (F : Frz) (M L : List Item) (hM : M.Sublist L) : Ok Tryz.prog w0 125 [.agg (enc a0).toArray] F (L) (Is (iv r) (L)) := by
 unfold view_Check at H
 refine Ok.enter (m := 1) (n := 21) Tryz.func125 rfl rfl rfl (by decide) ?_
 refine Cd.env (e' := [(0, .agg (enc a0).toArray)]) rfl ?_
 refine sr0 ?_
 refine Lst.box rfl rfl (by decide) rfl (cs := enc a0) rfl (fun b1 => ?_)
 refine Lst.r (Ev.assign rfl) ?_
 refine nt0 ?_
 refine Cd.seq ?_
 refine sr0 ?_
 refine Lst.r (Ev.fieldAddr (off' := 0) rfl Tryz.runUnderlying34 rfl Tryz.sizeOf3 rfl rfl) ?_
 refine Lst.r (Ev.load (i := 0) rfl rfl Tryz.isAgg3 (v := iv a0.Num) ((View.get_Num gh0).off (by rfl))) ?_
 refine Lst.r (Ev.lss rfl rfl) ?_
 refine mv0 rfl ?_
 obtain ⟨o3, H, HKo3⟩ := bind_some H
 refine Lst.join (σ := Bool) 4 (fun y4 => [(1, pv b1 0), (10, .bool y4)]) (fun y4 => (.blk b1 (enc a0) 34) :: L) (fun _ y4 => y4 = o3) ?_ ?_
 ·rcases Bool.eq_false_or_eq_true (decide (a0.Num < (0 : Int))) with hb5 | hb5
  ·replace H := ite_t hb5 H
   refine Lst.skip rfl rfl rfl hb5 rfl (by decide) ?_
   refine Lst.skip rfl rfl rfl hb5 rfl (by decide) ?_
   refine Lst.skip rfl rfl rfl hb5 rfl (by decide) ?_
   refine Lst.r (Ev.pickT rfl hb5 rfl) ?_
   refine Lst.nil ?_
   exact At.meet true fl ⟨rfl, rfl, trivial⟩ rfl (some_inj H)
  replace H := ite_f hb5 H
  refine Lst.rG hb5 (Ev.fieldAddr (off' := 0) rfl Tryz.runUnderlying34 rfl Tryz.sizeOf3 rfl rfl) ?_
  refine Lst.rG hb5 (Ev.load (i := 0) rfl rfl Tryz.isAgg3 (v := iv a0.Num) ((View.get_Num gh0).off (by rfl))) ?_
  refine Lst.rG hb5 (Ev.gtr rfl rfl) ?_
  refine Lst.r (Ev.pickF rfl hb5 rfl) ?_
  refine Lst.nil ?_
  exact At.meet (decide (a0.Num > (16777215 : Int))) fl ⟨rfl, rfl, trivial⟩ rfl (some_inj H)
 rintro F6 y4 hF7 hy
 subst hy
 refine Lst.as (e' := [(1, pv b1 0), (10, .bool y4)]) (L' := (.blk b1 (enc a0) 34) :: L) ⟨rfl, rfl, trivial⟩ rfl ?_
 replace H := HKo3
 refine mv0 rfl ?_
 obtain ⟨o8, H, HKo8⟩ := bind_some H
 refine Lst.join (σ := Bool) 4 (fun y9 => [(1, pv b1 0), (15, .bool y9)]) (fun y9 => (.blk b1 (enc a0) 34) :: L) (fun _ y9 => y9 = o8) ?_ ?_
 ·rcases Bool.eq_false_or_eq_true y4 with hb10 | hb10
  ·replace H := ite_t hb10 H
   refine Lst.skip rfl rfl rfl hb10 rfl (by decide) ?_
   refine Lst.skip rfl rfl rfl hb10 rfl (by decide) ?_
   refine Lst.skip rfl rfl rfl hb10 rfl (by decide) ?_
   refine Lst.r (Ev.pickT rfl hb10 rfl) ?_
   refine Lst.nil ?_
   exact At.meet true fl ⟨rfl, rfl, trivial⟩ rfl (some_inj H)
  replace H := ite_f hb10 H
  refine Lst.rG hb10 (Ev.fieldAddr (off' := 1) rfl Tryz.runUnderlying34 rfl Tryz.sizeOf5 rfl rfl) ?_
  refine Lst.rG hb10 (Ev.load (i := 0) rfl rfl Tryz.isAgg5 (v := .int .u8 a0.Members.toNat) ((View.get_Members gh0).off (by rfl))) ?_
  refine Lst.rG hb10 (Ev.eql rfl rfl) ?_
  refine Lst.r (Ev.pickF rfl hb10 rfl) ?_
  refine Lst.nil ?_
  exact At.meet ((a0.Members.toNat : Int) == ((0 : BitVec 8).toNat : Int)) fl ⟨rfl, rfl, trivial⟩ rfl (some_inj H)
 rintro F11 y9 hF12 hy
 subst hy
 refine Lst.as (e' := [(1, pv b1 0), (15, .bool y9)]) (L' := (.blk b1 (enc a0) 34) :: L) ⟨rfl, rfl, trivial⟩ rfl ?_
 replace H := HKo8
 refine mv0 rfl ?_
 obtain ⟨o13, H, HKo13⟩ := bind_some H
 refine Lst.join (σ := Bool) 4 (fun y14 => [(20, .bool y14)]) (fun y14 => (.blk b1 (enc a0) 34) :: L) (fun _ y14 => y14 = o13) ?_ ?_
 ·rcases Bool.eq_false_or_eq_true y9 with hb15 | hb15
  ·replace H := ite_t hb15 H
   refine Lst.skip rfl rfl rfl hb15 rfl (by decide) ?_
   refine Lst.skip rfl rfl rfl hb15 rfl (by decide) ?_
   refine Lst.skip rfl rfl rfl hb15 rfl (by decide) ?_
   refine Lst.r (Ev.pickT rfl hb15 rfl) ?_
   refine Lst.nil ?_
   exact At.meet true fl ⟨rfl, trivial⟩ rfl (some_inj H)
  replace H := ite_f hb15 H
  refine Lst.rG hb15 (Ev.fieldAddr (off' := 1) rfl Tryz.runUnderlying34 rfl Tryz.sizeOf5 rfl rfl) ?_
  refine Lst.rG hb15 (Ev.load (i := 0) rfl rfl Tryz.isAgg5 (v := .int .u8 a0.Members.toNat) ((View.get_Members gh0).off (by rfl))) ?_
  obtain ⟨r16, h17, H⟩ := bind_some H
  refine Lst.call1G rfl rfl rfl hb15 rfl (by decide) (vs := [.int .u8 a0.Members.toNat]) ⟨rfl, trivial⟩ Tryz.call126 (view_outside_sim h17 w0 _ M _ (sc1 hM)) ?_
  refine Lst.r (Ev.pickF rfl hb15 rfl) ?_
  refine Lst.nil ?_
  exact At.meet r16 fl ⟨rfl, trivial⟩ rfl (some_inj H)
 rintro F20 y14 hF21 hy
 subst hy
 refine Lst.as (e' := [(20, .bool y14)]) (L' := (.blk b1 (enc a0) 34) :: L) ⟨rfl, trivial⟩ rfl ?_
 replace H := HKo13
 refine nt0 ?_
 rcases Bool.eq_false_or_eq_true y14 with hb22 | hb22
 ·replace H := ite_t hb22 H
  refine Cd.condT rfl hb22 ?_
  refine sr0 ?_
  refine Lst.r (Ev.assign rfl) ?_
  refine nt0 ?_
  obtain rfl := some_inj H
  refine Cd.ret ?_
  refine At.then_ret ?_
  exact At.ret1 rfl (Res.tmp rfl) (FLe.trans (FLe.trans hF7 hF12) hF21) (sc1 (.refl _)) ⟨rfl, rfl⟩
 replace H := ite_f hb22 H
 refine Cd.condF rfl hb22 ?_
 refine Cd.skip ?_
 refine At.then ?_
 refine sr0 ?_
 refine Lst.r (Ev.assign rfl) ?_
 refine nt0 ?_
 obtain rfl := some_inj H
 refine Cd.ret ?_
 exact At.ret1 rfl (Res.tmp rfl) (FLe.trans (FLe.trans hF7 hF12) hF21) (sc1 (.refl _)) ⟨rfl, rfl⟩
set_option maxRecDepth 20000 in
theorem math_bits_TrailingZeros8_sim {a0 : BitVec 8} {r : Int} (H : math_bits_TrailingZeros8 a0 = some r) (w0 : World) (F : Frz) (M L : List Item) (hM : M.Sublist L) : Ok Tryz.prog w0 171 [.int .u8 a0.toNat] F (L) (Is (iv r) (L)) := by
 unfold math_bits_TrailingZeros8 at H
 refine Ok.enter (m := 1) (n := 6) Tryz.func171 rfl rfl rfl (by decide) ?_
 refine Cd.env (e' := [(0, .int .u8 a0.toNat)]) rfl ?_
 refine sr0 ?_
 refine Lst.r (Ev.assign rfl) ?_
 refine nsr ?_
 refine mv0 rfl ?_
 obtain ⟨x1, h2, H⟩ := bind_some H
 refine Lst.r (Ev.indexStr rfl rfl Tryz.runUnderlying9 h2) ?_
 refine Lst.r (Ev.convIS (j := (x1.toBitVec.toNat : Int)) rfl Tryz.runUnderlying5 Tryz.runUnderlying3 (w64_id (by omega) (by omega))) ?_
 refine Lst.r (Ev.assign rfl) ?_
 refine nt0 ?_
 obtain rfl := some_inj H
 refine Cd.ret ?_
 exact At.ret1 rfl (Res.tmp rfl) fl (.refl _) ⟨rfl, rfl⟩
set_option maxRecDepth 20000 in
theorem view_First_sim {a0 : View} {r : Int × Int} (H : view_First a0 = some r) (w0 : World) (F : Frz) (M L : List Item) (hM : M.Sublist L) : Ok Tryz.prog w0 114 [.agg (enc a0).toArray] F (L) (Is (.tuple #[iv r.1, iv r.2]) (L)) := by
 unfold view_First at H
 refine Ok.enter (m := 1) (n := 13) Tryz.func114 rfl rfl rfl (by decide) ?_
 refine Cd.env (e' := [(0, .agg (enc a0).toArray)]) rfl ?_
 refine sr0 ?_
 refine Lst.box rfl rfl (by decide) rfl (cs := enc a0) rfl (fun b1 => ?_)
 refine Lst.r (Ev.assign rfl) ?_
 refine Lst.r (Ev.assign rfl) ?_
 refine nt0 ?_
 refine Cd.seq ?_
 refine sr0 ?_
 refine Lst.r (Ev.loadA (i := 0) rfl rfl Tryz.isAgg34 Tryz.sizeOf34 (ch := enc a0) (Enc.len _) gh0) ?_
 obtain ⟨r3, h4, H⟩ := bind_some H
 refine Lst.call1 rfl rfl (by decide) (vs := [.agg (enc a0).toArray]) ⟨rfl, trivial⟩ Tryz.call125 (view_Check_sim h4 w0 _ M _ (sc1 hM)) ?_
 refine Lst.r (Ev.assign rfl) ?_
 refine nsr ?_
 refine mv0 rfl ?_
 refine Lst.r (Ev.neq rfl rfl) ?_
 refine nt0 ?_
 rcases Bool.eq_false_or_eq_true (r3 != (0 : Int)) with hb7 | hb7
 ·replace H := ite_t hb7 H
  refine Cd.condT rfl hb7 ?_
  refine sr0 ?_
  refine mv0 rfl ?_
  refine Lst.r (Ev.assign rfl) ?_
  refine Lst.r (Ev.assign rfl) ?_
  refine nt0 ?_
  obtain rfl := some_inj H
  refine Cd.ret ?_
  refine At.then_ret ?_
  exact At.ret2 rfl (Res.tmp rfl) (Res.tmp rfl) fl (sc1 (.refl _)) ⟨rfl, rfl⟩
 replace H := ite_f hb7 H
 refine Cd.condF rfl hb7 ?_
 refine Cd.skip ?_
 refine At.then ?_
 refine sr0 ?_
 refine Lst.r (Ev.fieldAddr (off' := 1) rfl Tryz.runUnderlying34 rfl Tryz.sizeOf5 rfl rfl) ?_
 refine Lst.r (Ev.load (i := 0) rfl rfl Tryz.isAgg5 (v := .int .u8 a0.Members.toNat) ((View.get_Members gh0).off (by rfl))) ?_
 obtain ⟨r8, h9, H⟩ := bind_some H
 refine Lst.call1 rfl rfl (by decide) (vs := [.int .u8 a0.Members.toNat]) ⟨rfl, trivial⟩ Tryz.call171 (math_bits_TrailingZeros8_sim h9 w0 _ M _ (sc1 hM)) ?_
 refine Lst.r (Ev.assign rfl) ?_
 refine Lst.r (Ev.assign rfl) ?_
 refine nt0 ?_
 obtain rfl := some_inj H
 refine Cd.ret ?_
 exact At.ret2 rfl (Res.tmp rfl) (Res.tmp rfl) fl (sc1 (.refl _)) ⟨rfl, rfl⟩
set_option maxRecDepth 20000 in
theorem world_World_sequencer_sim {a0 : Wld} {b_a0 : Nat} {s_a0_1 : Sl} {rs_a0_1 : List ProcessR} {s_a0_2 : Sl} {s_a0_3 : Sl} {r : Int} (H : world_World_sequencer a0 = some r) (w0 : World) (F : Frz) (M L : List Item) (hM : M.Sublist L) (hm_a0_1 : rs_a0_1.map ProcessR.v = a0.all) (ha_a0_1 : All ProcessR.frel w0 F [] rs_a0_1) : Ok Tryz.prog w0 62 [pv b_a0 0] F ((.rows (α := Saying) 62 (List.map ProcessR.row rs_a0_1)) :: (.own s_a0_1 100 8 (encs rs_a0_1)) :: (.own s_a0_2 9 1 (encs a0.ordered)) :: (.own s_a0_3 9 1 (encs a0.way)) :: (.blk b_a0 (enc (WldR.mk a0 s_a0_1 s_a0_2 s_a0_3)) 95) :: L) (Is (iv r) ((.rows (α := Saying) 62 (List.map ProcessR.row rs_a0_1)) :: (.own s_a0_1 100 8 (encs rs_a0_1)) :: (.own s_a0_2 9 1 (encs a0.ordered)) :: (.own s_a0_3 9 1 (encs a0.way)) :: (.blk b_a0 (enc (WldR.mk a0 s_a0_1 s_a0_2 s_a0_3)) 95) :: L)) := by
 unfold world_World_sequencer at H
 refine Ok.enter (m := 1) (n := 14) Tryz.func62 rfl rfl rfl (by decide) ?_
 refine Cd.env (e' := [(0, pv b_a0 0)]) rfl ?_
 refine sr0 ?_
 refine Lst.r (Ev.assign rfl) ?_
 refine nsr ?_
 refine mv0 rfl ?_
 refine Lst.r (Ev.nilCheck rfl) ?_
 refine Lst.r (Ev.fieldAddr (off' := 0) rfl Tryz.runUnderlying95 rfl Tryz.sizeOf34 rfl rfl) ?_
 refine Lst.r (Ev.loadA (i := 4) rfl rfl Tryz.isAgg34 Tryz.sizeOf34 (ch := enc a0.view) (Enc.len _) ((WldR.get_view gh0).off (by rfl))) ?_
 obtain ⟨r6, h7, H⟩ := bind_some H
 refine Lst.call1 rfl rfl (by decide) (vs := [.agg (enc a0.view).toArray]) ⟨rfl, trivial⟩ Tryz.call114 (view_First_sim h7 w0 _ M _ (sc4 (sc1 hM))) ?_
 refine mv0 rfl ?_
 refine Lst.r (Ev.extract rfl rfl) ?_
 refine Lst.r (Ev.extract rfl rfl) ?_
 refine Lst.r (Ev.assign rfl) ?_
 refine Lst.r (Ev.assign rfl) ?_
 refine nsr ?_
 refine mv0 rfl ?_
 refine Lst.r (Ev.assign rfl) ?_
 refine nt0 ?_
 obtain rfl := some_inj H
 refine Cd.ret ?_
 exact At.ret1 rfl (Res.tmp rfl) fl (sk1 (sk1 (sk1 (sk1 (sk1 (.refl _)))))) ⟨rfl, rfl⟩
set_option maxRecDepth 20000 in
theorem wire_in_sim {a0 : Int} {a1 : Int} {a2 : Int} {r : Bool} (H : wire_in a0 a1 a2 = some r) (w0 : World) (F : Frz) (M L : List Item) (hM : M.Sublist L) : Ok Tryz.prog w0 173 [iv a0, iv a1, iv a2] F (L) (Is (.bool r) (L)) := by
 unfold wire_in at H
 refine Ok.enter (m := 3) (n := 15) Tryz.func173 rfl rfl rfl (by decide) ?_
 refine Cd.env (e' := [(0, iv a0), (1, iv a1), (2, iv a2)]) rfl ?_
 refine sr0 ?_
 refine Lst.r (Ev.assign rfl) ?_
 refine nsr ?_
 refine mv0 rfl ?_
 refine mv0 rfl ?_
 refine Lst.r (Ev.geq rfl rfl) ?_
 refine mv0 rfl ?_
 obtain ⟨o1, H, HKo1⟩ := bind_some H
 refine Lst.join (σ := Bool) 4 (fun y2 => [(14, .bool y2)]) (fun y2 => L) (fun _ y2 => y2 = o1) ?_ ?_
 ·rcases (Bool.eq_false_or_eq_true (decide (a0 ≥ a1))).symm with hb3 | hb3
  ·replace H := ite_f hb3 H
   refine Lst.skip rfl rfl rfl hb3 rfl (by decide) ?_
   refine Lst.skip rfl rfl rfl hb3 rfl (by decide) ?_
   refine Lst.skip rfl rfl rfl hb3 rfl (by decide) ?_
   refine Lst.r (Ev.pickF rfl hb3 rfl) ?_
   refine Lst.nil ?_
   exact At.meet false fl ⟨rfl, trivial⟩ rfl (some_inj H)
  replace H := ite_t hb3 H
  refine Lst.rG hb3 (Ev.move rfl) ?_
  refine Lst.rG hb3 (Ev.move rfl) ?_
  refine Lst.rG hb3 (Ev.leq rfl rfl) ?_
  refine Lst.r (Ev.pickT rfl hb3 rfl) ?_
  refine Lst.nil ?_
  exact At.meet (decide (a0 ≤ a2)) fl ⟨rfl, trivial⟩ rfl (some_inj H)
 rintro F4 y2 hF5 hy
 subst hy
 refine Lst.as (e' := [(14, .bool y2)]) (L' := L) ⟨rfl, trivial⟩ rfl ?_
 replace H := HKo1
 refine Lst.r (Ev.assign rfl) ?_
 refine nt0 ?_
 obtain rfl := some_inj H
 refine Cd.ret ?_
 exact At.ret1 rfl (Res.tmp rfl) hF5 (.refl _) ⟨rfl, rfl⟩
set_option maxRecDepth 20000 in
theorem wire_Check_1_sim {a0 : Int} {r : Bool} (H : wire_Check_1 a0 = some r) (w0 : World) (F : Frz) (M L : List Item) (hM : M.Sublist L) : Ok Tryz.prog w0 172 [iv a0] F (L) (Is (.bool r) (L)) := by
 unfold wire_Check_1 at H
 refine Ok.enter (m := 1) (n := 5) Tryz.func172 rfl rfl rfl (by decide) ?_
 refine Cd.env (e' := [(0, iv a0)]) rfl ?_
 refine sr0 ?_
 refine Lst.r (Ev.assign rfl) ?_
 refine nsr ?_
 refine mv0 rfl ?_
 obtain ⟨r1, h2, H⟩ := bind_some H
 refine Lst.call1 rfl rfl (by decide) (vs := [iv a0, iv (0 : Int), iv (16777215 : Int)]) ⟨rfl, rfl, rfl, trivial⟩ Tryz.call173 (wire_in_sim h2 w0 _ M _ hM) ?_
 refine Lst.r (Ev.assign rfl) ?_
 refine nt0 ?_
 obtain rfl := some_inj H
 refine Cd.ret ?_
 exact At.ret1 rfl (Res.tmp rfl) fl (.refl _) ⟨rfl, rfl⟩
set_option maxRecDepth 20000 in
theorem wire_Check_2_sim {a0 : Int} {b_a1 : Nat} {r : Bool} (H : wire_Check_2 a0 = some r) (w0 : World) (F : Frz) (M L : List Item) (hM : M.Sublist L) : Ok Tryz.prog w0 175 [iv a0, pv b_a1 0] F ((.blk b_a1 [.func (.func 172) #[] #[]] 135) :: L) (Is (.bool r) ((.blk b_a1 [.func (.func 172) #[] #[]] 135) :: L)) := by
 unfold wire_Check_2 at H
 refine Ok.enter (m := 2) (n := 8) Tryz.func175 rfl rfl rfl (by decide) ?_
 refine Cd.env (e' := [(0, iv a0), (1, pv b_a1 0)]) rfl ?_
 refine sr0 ?_
 refine Lst.r (Ev.assign rfl) ?_
 refine nsr ?_
 refine Lst.r (Ev.load (i := 0) rfl rfl Tryz.isAgg135 (v := .func (.func 172) #[] #[]) gh0) ?_
 refine mv0 rfl ?_
 obtain ⟨r2, h3, H⟩ := bind_some H
 refine Lst.callV1 rfl rfl (by decide) (vs := [iv a0]) (cs := []) rfl ⟨rfl, trivial⟩ Tryz.call172 (wire_Check_1_sim h3 w0 _ M _ (sc1 hM)) ?_
 refine Lst.r (Ev.not rfl) ?_
 refine Lst.r (Ev.assign rfl) ?_
 refine nt0 ?_
 obtain rfl := some_inj H
 refine Cd.ret ?_
 exact At.ret1 rfl (Res.tmp rfl) fl (sk1 (.refl _)) ⟨rfl, rfl⟩
set_option maxRecDepth 20000 in
theorem slices_IndexFunc_int_int_Check_2_sim {a0 : List Int} {s_a0 : Sl} {b_a1_c0 : Nat} {r : Int} (H : slices_IndexFunc_int_int_Check_2 a0 = some r) (w0 : World) (F : Frz) (M L : List Item) (hM : M.Sublist L) (hs_a0 : Rd w0 F M s_a0 a0) : Ok Tryz.prog w0 214 [Sl.v s_a0, .func (.func 175) #[] #[pv b_a1_c0 0]] F ((.blk b_a1_c0 [.func (.func 172) #[] #[]] 135) :: L) (Is (iv r) ((.blk b_a1_c0 [.func (.func 172) #[] #[]] 135) :: L)) := by
 unfold slices_IndexFunc_int_int_Check_2 at H
 refine Ok.enter (m := 2) (n := 19) Tryz.func214 rfl rfl rfl (by decide) ?_
 refine Cd.env (e' := [(0, Sl.v s_a0), (1, .func (.func 175) #[] #[pv b_a1_c0 0])]) rfl ?_
 refine sr0 ?_
 refine Lst.r (Ev.assign rfl) ?_
 refine nt0 ?_
 refine Cd.seq ?_
 refine sr0 ?_
 refine mv0 rfl ?_
 refine Lst.r (Ev.lenS (α := Int) (xs := a0) (by decide) rfl rfl Tryz.runUnderlying83 (hs_a0.mono fl (sc1 hM))) ?_
 refine mv0 rfl ?_
 refine nt0 ?_
 refine Cd.block ?_
 refine Cd.bound (Rd.le (α := Int) (xs := a0) (by decide) (hs_a0.mono fl (sc1 hM))) (fun hN13 => ?_)
 obtain ⟨ol2, H, HKl2⟩ := andThen_some H
 refine Cd.loop (σ := Nat × Nat × Unit) (fun (i2, k2, _u) => [(0, Sl.v s_a0), (1, .func (.func 175) #[] #[pv b_a1_c0 0]), (7, iv (a0.length : Int)), (8, iv (i2 : Int))]) (fun (i2, k2, _u) => (.blk b_a1_c0 [.func (.func 172) #[] #[]] 135) :: L) (fun _ => (fun (i2, k2, _u) => rangeM (slices_IndexFunc_int_int_Check_2_B0 a0) k2 i2 () = some ol2 ∧ i2 + k2 = a0.length)) (fun (i2, k2, _u) => k2) (0, a0.length, ()) ⟨rfl, rfl, rfl, rfl, trivial⟩ rfl ⟨H, by omega⟩ ?_
 rintro F3 ⟨i2, k2, _u⟩ hF4 ⟨H, hik2⟩
 refine Cd.as (e' := [(0, Sl.v s_a0), (1, .func (.func 175) #[] #[pv b_a1_c0 0]), (7, iv (a0.length : Int)), (8, iv (i2 : Int))]) (L' := (.blk b_a1_c0 [.func (.func 172) #[] #[]] 135) :: L) ⟨rfl, rfl, rfl, rfl, trivial⟩ rfl ?_
 rcases k2 with _ | k2
 ·have hc2 : decide ((i2 : Int) < (a0.length : Int)) = false := decide_eq_false (by omega)
  replace H := rangeM_end H
  refine sr0 ?_
  refine Lst.r (Ev.lss rfl rfl) ?_
  refine nt0 ?_
  refine Cd.seq ?_
  refine Cd.condF rfl hc2 ?_
  refine Cd.exit ?_
  refine At.then_exit ?_
  refine At.then_exit ?_
  refine At.in_exit ?_
  subst H
  replace H := HKl2
  refine At.then ?_
  refine sr0 ?_
  refine Lst.r (Ev.assign rfl) ?_
  refine nt0 ?_
  obtain rfl := some_inj H
  refine Cd.ret ?_
  exact At.ret1 rfl (Res.tmp rfl) hF4 (sk1 (.refl _)) ⟨rfl, rfl⟩
 have hc2 : decide ((i2 : Int) < (a0.length : Int)) = true := decide_eq_true (by omega)
 obtain ⟨c2, H, hgo2, hbrk2, hret2⟩ := rangeM_go H
 unfold slices_IndexFunc_int_int_Check_2_B0 at H
 try dsimp only at H
 refine sr0 ?_
 refine Lst.r (Ev.lss rfl rfl) ?_
 refine nt0 ?_
 refine Cd.seq ?_
 refine Cd.condT rfl hc2 ?_
 refine Cd.skip ?_
 refine At.then ?_
 refine Cd.seq ?_
 refine Cd.block ?_
 refine sr0 ?_
 refine mv0 rfl ?_
 refine Lst.r (Ev.assign rfl) ?_
 refine nsr ?_
 refine mv0 rfl ?_
 refine mv0 rfl ?_
 refine mv0 rfl ?_
 obtain ⟨x5, h6, H⟩ := bind_some H
 have g7 := lat_some h6
 refine Lst.r (Ev.indexS (α := Int) (xs := a0) rfl rfl Tryz.runUnderlying83 Tryz.sizeOf3 rfl (by decide) (hs_a0.mono hF4 (sc1 hM)) g7.1 g7.2.1) ?_
 refine Lst.r (Ev.loadS (α := Int) rfl (hs_a0.mono hF4 (sc1 hM)) Tryz.isAgg3 (v := iv x5) ((Get.elemN (s := 1) (x := x5) rfl g7.2.2 gh0).off (by omega))) ?_
 obtain ⟨r8, h9, H⟩ := bind_some H
 refine Lst.callV1 rfl rfl (by decide) (vs := [iv x5]) (cs := [pv b_a1_c0 0]) rfl ⟨rfl, trivial⟩ Tryz.call175 (wire_Check_2_sim h9 w0 _ M _ hM) ?_
 refine nt0 ?_
 rcases Bool.eq_false_or_eq_true r8 with hb12 | hb12
 ·replace H := ite_t hb12 H
  refine Cd.condT rfl hb12 ?_
  refine sr0 ?_
  refine mv0 rfl ?_
  refine Lst.r (Ev.assign rfl) ?_
  refine nt0 ?_
  have H := hret2 _ (some_inj H).symm
  subst H
  replace H := HKl2
  obtain rfl := some_inj H
  refine Cd.ret ?_
  refine At.in_ret ?_
  refine At.then_ret ?_
  refine At.then_ret ?_
  refine At.in_ret ?_
  refine At.then_ret ?_
  exact At.ret1 rfl (Res.tmp rfl) hF4 (sk1 (.refl _)) ⟨rfl, rfl⟩
 replace H := ite_f hb12 H
 refine Cd.condF rfl hb12 ?_
 refine Cd.skip ?_
 refine At.in_normal ?_
 refine At.then ?_
 refine Cd.region ?_
 refine Lst.r (Ev.incr (by omega) rfl rfl) ?_
 refine mv0 rfl ?_
 refine Lst.nil ?_
 exact At.meet (i2 + 1, k2, ()) hF4 ⟨rfl, rfl, rfl, rfl, trivial⟩ rfl ⟨⟨hgo2 _ (some_inj H).symm, by omega⟩, Nat.lt_succ_self _⟩
set_option maxRecDepth 20000 in
theorem slices_ContainsFunc_int_int_Check_2_sim {a0 : List Int} {s_a0 : Sl} {b_a1_c0 : Nat} {r : Bool} (H : slices_ContainsFunc_int_int_Check_2 a0 = some r) (w0 : World) (F : Frz) (M L : List Item) (hM : M.Sublist L) (hs_a0 : Rd w0 F M s_a0 a0) : Ok Tryz.prog w0 174 [Sl.v s_a0, .func (.func 175) #[] #[pv b_a1_c0 0]] F ((.blk b_a1_c0 [.func (.func 172) #[] #[]] 135) :: L) (Is (.bool r) ((.blk b_a1_c0 [.func (.func 172) #[] #[]] 135) :: L)) := by
 unfold slices_ContainsFunc_int_int_Check_2 at H
 refine Ok.enter (m := 2) (n := 9) Tryz.func174 rfl rfl rfl (by decide) ?_
 refine Cd.env (e' := [(0, Sl.v s_a0), (1, .func (.func 175) #[] #[pv b_a1_c0 0])]) rfl ?_
 refine sr0 ?_
 refine Lst.r (Ev.assign rfl) ?_
 refine nsr ?_
 refine mv0 rfl ?_
 refine mv0 rfl ?_
 obtain ⟨r2, h3, H⟩ := bind_some H
 refine Lst.call1 rfl rfl (by decide) (vs := [Sl.v s_a0, .func (.func 175) #[] #[pv b_a1_c0 0]]) ⟨rfl, rfl, trivial⟩ Tryz.call214 (slices_IndexFunc_int_int_Check_2_sim h3 w0 _ M _ hM (hs_a0.mono fl (.refl _))) ?_
 refine Lst.r (Ev.geq rfl rfl) ?_
 refine Lst.r (Ev.assign rfl) ?_
 refine nt0 ?_
 obtain rfl := some_inj H
 refine Cd.ret ?_
 exact At.ret1 rfl (Res.tmp rfl) fl (sk1 (.refl _)) ⟨rfl, rfl⟩
set_option maxRecDepth 20000 in
theorem wire_Check_sim {a0 : Note} {r : Int} (H : wire_Check a0 = some r) (w0 : World) (F : Frz) (M L : List Item) (hM : M.Sublist L) : Ok Tryz.prog w0 118 [.agg (enc a0).toArray] F (L) (Is (iv r) (L)) := by
 unfold wire_Check at H
 refine Ok.enter (m := 1) (n := 45) Tryz.func118 rfl rfl rfl (by decide) ?_
 refine Cd.env (e' := [(0, .agg (enc a0).toArray)]) rfl ?_
 refine sr0 ?_
 refine Lst.box rfl rfl (by decide) rfl (cs := enc a0) rfl (fun b1 => ?_)
 refine Lst.r (Ev.assign rfl) ?_
 refine nsr ?_
 refine Lst.alloc (cs := [.nilFunc]) rfl rfl (by decide) Tryz.zeroValue135 rfl (fun b3 => ?_)
 refine Lst.store (i := 0) rfl rfl rfl rfl rfl Tryz.sizeOf135 (vs := [.func (.func 172) #[] #[]]) rfl rfl rfl (cs' := [.func (.func 172) #[] #[]]) (Put.here (vs := [.func (.func 172) #[] #[]]) rfl) (L' := (.blk b3 [.func (.func 172) #[] #[]] 135) :: (.blk b1 (enc a0) 132) :: L) rfl ?_
 refine nt0 ?_
 refine Cd.seq ?_
 refine Cd.block ?_
 refine sr0 ?_
 refine Lst.r (Ev.fieldAddr (off' := 0) rfl Tryz.runUnderlying132 rfl Tryz.sizeOf3 rfl rfl) ?_
 refine Lst.r (Ev.load (i := 1) rfl rfl Tryz.isAgg3 (v := iv a0.Kind) ((Note.get_Kind gh0).off (by rfl))) ?_
 obtain ⟨r5, h6, H⟩ := bind_some H
 refine Lst.call1 rfl rfl (by decide) (vs := [iv a0.Kind, iv (0 : Int), iv (255 : Int)]) ⟨rfl, rfl, rfl, trivial⟩ Tryz.call173 (wire_in_sim h6 w0 _ M _ (sc2 hM)) ?_
 refine Lst.r (Ev.not rfl) ?_
 refine mv0 rfl ?_
 obtain ⟨o9, H, HKo9⟩ := bind_some H
 refine Lst.join (σ := Bool) 5 (fun y10 => [(1, pv b1 0), (3, pv b3 0), (14, .bool y10)]) (fun y10 => (.blk b3 [.func (.func 172) #[] #[]] 135) :: (.blk b1 (enc a0) 132) :: L) (fun _ y10 => y10 = o9) ?_ ?_
 ·rcases Bool.eq_false_or_eq_true (!r5) with hb11 | hb11
  ·replace H := ite_t hb11 H
   refine Lst.skip rfl rfl rfl hb11 rfl (by decide) ?_
   refine Lst.skip rfl rfl rfl hb11 rfl (by decide) ?_
   refine Lst.skip rfl rfl rfl hb11 rfl (by decide) ?_
   refine Lst.skip rfl rfl rfl hb11 rfl (by decide) ?_
   refine Lst.r (Ev.pickT rfl hb11 rfl) ?_
   refine Lst.nil ?_
   exact At.meet true fl ⟨rfl, rfl, rfl, trivial⟩ rfl (some_inj H)
  replace H := ite_f hb11 H
  refine Lst.rG hb11 (Ev.fieldAddr (off' := 1) rfl Tryz.runUnderlying132 rfl Tryz.sizeOf3 rfl rfl) ?_
  refine Lst.rG hb11 (Ev.load (i := 1) rfl rfl Tryz.isAgg3 (v := iv a0.From) ((Note.get_From gh0).off (by rfl))) ?_
  obtain ⟨r12, h13, H⟩ := bind_some H
  refine Lst.call1G rfl rfl rfl hb11 rfl (by decide) (vs := [iv a0.From, iv (0 : Int), iv (5 : Int)]) ⟨rfl, rfl, rfl, trivial⟩ Tryz.call173 (wire_in_sim h13 w0 _ M _ (sc2 hM)) ?_
  refine Lst.rG hb11 (Ev.not rfl) ?_
  refine Lst.r (Ev.pickF rfl hb11 rfl) ?_
  refine Lst.nil ?_
  exact At.meet (!r12) fl ⟨rfl, rfl, rfl, trivial⟩ rfl (some_inj H)
 rintro F16 y10 hF17 hy
 subst hy
 refine Lst.as (e' := [(1, pv b1 0), (3, pv b3 0), (14, .bool y10)]) (L' := (.blk b3 [.func (.func 172) #[] #[]] 135) :: (.blk b1 (enc a0) 132) :: L) ⟨rfl, rfl, rfl, trivial⟩ rfl ?_
 replace H := HKo9
 refine mv0 rfl ?_
 obtain ⟨o18, H, HKo18⟩ := bind_some H
 refine Lst.join (σ := Bool) 5 (fun y19 => [(1, pv b1 0), (3, pv b3 0), (20, .bool y19)]) (fun y19 => (.blk b3 [.func (.func 172) #[] #[]] 135) :: (.blk b1 (enc a0) 132) :: L) (fun _ y19 => y19 = o18) ?_ ?_
 ·rcases Bool.eq_false_or_eq_true y10 with hb20 | hb20
  ·replace H := ite_t hb20 H
   refine Lst.skip rfl rfl rfl hb20 rfl (by decide) ?_
   refine Lst.skip rfl rfl rfl hb20 rfl (by decide) ?_
   refine Lst.skip rfl rfl rfl hb20 rfl (by decide) ?_
   refine Lst.skip rfl rfl rfl hb20 rfl (by decide) ?_
   refine Lst.r (Ev.pickT rfl hb20 rfl) ?_
   refine Lst.nil ?_
   exact At.meet true fl ⟨rfl, rfl, rfl, trivial⟩ rfl (some_inj H)
  replace H := ite_f hb20 H
  refine Lst.rG hb20 (Ev.fieldAddr (off' := 2) rfl Tryz.runUnderlying132 rfl Tryz.sizeOf3 rfl rfl) ?_
  refine Lst.rG hb20 (Ev.load (i := 1) rfl rfl Tryz.isAgg3 (v := iv a0.To) ((Note.get_To gh0).off (by rfl))) ?_
  obtain ⟨r21, h22, H⟩ := bind_some H
  refine Lst.call1G rfl rfl rfl hb20 rfl (by decide) (vs := [iv a0.To, iv (0 : Int), iv (5 : Int)]) ⟨rfl, rfl, rfl, trivial⟩ Tryz.call173 (wire_in_sim h22 w0 _ M _ (sc2 hM)) ?_
  refine Lst.rG hb20 (Ev.not rfl) ?_
  refine Lst.r (Ev.pickF rfl hb20 rfl) ?_
  refine Lst.nil ?_
  exact At.meet (!r21) fl ⟨rfl, rfl, rfl, trivial⟩ rfl (some_inj H)
 rintro F25 y19 hF26 hy
 subst hy
 refine Lst.as (e' := [(1, pv b1 0), (3, pv b3 0), (20, .bool y19)]) (L' := (.blk b3 [.func (.func 172) #[] #[]] 135) :: (.blk b1 (enc a0) 132) :: L) ⟨rfl, rfl, rfl, trivial⟩ rfl ?_
 replace H := HKo18
 refine mv0 rfl ?_
 obtain ⟨o27, H, HKo27⟩ := bind_some H
 refine Lst.join (σ := Bool) 6 (fun y28 => [(1, pv b1 0), (3, pv b3 0), (27, .bool y28)]) (fun y28 => (.blk b3 [.func (.func 172) #[] #[]] 135) :: (.blk b1 (enc a0) 132) :: L) (fun _ y28 => y28 = o27) ?_ ?_
 ·rcases Bool.eq_false_or_eq_true y19 with hb29 | hb29
  ·replace H := ite_t hb29 H
   refine Lst.skip rfl rfl rfl hb29 rfl (by decide) ?_
   refine Lst.skip rfl rfl rfl hb29 rfl (by decide) ?_
   refine Lst.skip rfl rfl rfl hb29 rfl (by decide) ?_
   refine Lst.skip rfl rfl rfl hb29 rfl (by decide) ?_
   refine Lst.skip rfl rfl rfl hb29 rfl (by decide) ?_
   refine Lst.r (Ev.pickT rfl hb29 rfl) ?_
   refine Lst.nil ?_
   exact At.meet true fl ⟨rfl, rfl, rfl, trivial⟩ rfl (some_inj H)
  replace H := ite_f hb29 H
  refine Lst.rG hb29 (Ev.load (i := 0) rfl rfl Tryz.isAgg135 (v := .func (.func 172) #[] #[]) gh0) ?_
  refine Lst.rG hb29 (Ev.fieldAddr (off' := 3) rfl Tryz.runUnderlying132 rfl Tryz.sizeOf3 rfl rfl) ?_
  refine Lst.rG hb29 (Ev.load (i := 1) rfl rfl Tryz.isAgg3 (v := iv a0.View) ((Note.get_View gh0).off (by rfl))) ?_
  obtain ⟨r30, h31, H⟩ := bind_some H
  refine Lst.callV1G rfl rfl rfl hb29 rfl (by decide) (vs := [iv a0.View]) (cs := []) rfl ⟨rfl, trivial⟩ Tryz.call172 (wire_Check_1_sim h31 w0 _ M _ (sc2 hM)) ?_
  refine Lst.rG hb29 (Ev.not rfl) ?_
  refine Lst.r (Ev.pickF rfl hb29 rfl) ?_
  refine Lst.nil ?_
  exact At.meet (!r30) fl ⟨rfl, rfl, rfl, trivial⟩ rfl (some_inj H)
 rintro F34 y28 hF35 hy
 subst hy
 refine Lst.as (e' := [(1, pv b1 0), (3, pv b3 0), (27, .bool y28)]) (L' := (.blk b3 [.func (.func 172) #[] #[]] 135) :: (.blk b1 (enc a0) 132) :: L) ⟨rfl, rfl, rfl, trivial⟩ rfl ?_
 replace H := HKo27
 refine mv0 rfl ?_
 obtain ⟨o36, H, HKo36⟩ := bind_some H
 refine Lst.join (σ := Bool) 6 (fun y37 => [(1, pv b1 0), (3, pv b3 0), (34, .bool y37)]) (fun y37 => (.blk b3 [.func (.func 172) #[] #[]] 135) :: (.blk b1 (enc a0) 132) :: L) (fun _ y37 => y37 = o36) ?_ ?_
 ·rcases Bool.eq_false_or_eq_true y28 with hb38 | hb38
  ·replace H := ite_t hb38 H
   refine Lst.skip rfl rfl rfl hb38 rfl (by decide) ?_
   refine Lst.skip rfl rfl rfl hb38 rfl (by decide) ?_
   refine Lst.skip rfl rfl rfl hb38 rfl (by decide) ?_
   refine Lst.skip rfl rfl rfl hb38 rfl (by decide) ?_
   refine Lst.skip rfl rfl rfl hb38 rfl (by decide) ?_
   refine Lst.r (Ev.pickT rfl hb38 rfl) ?_
   refine Lst.nil ?_
   exact At.meet true fl ⟨rfl, rfl, rfl, trivial⟩ rfl (some_inj H)
  replace H := ite_f hb38 H
  refine Lst.rG hb38 (Ev.load (i := 0) rfl rfl Tryz.isAgg135 (v := .func (.func 172) #[] #[]) gh0) ?_
  refine Lst.rG hb38 (Ev.fieldAddr (off' := 4) rfl Tryz.runUnderlying132 rfl Tryz.sizeOf3 rfl rfl) ?_
  refine Lst.rG hb38 (Ev.load (i := 1) rfl rfl Tryz.isAgg3 (v := iv a0.Seq) ((Note.get_Seq gh0).off (by rfl))) ?_
  obtain ⟨r39, h40, H⟩ := bind_some H
  refine Lst.callV1G rfl rfl rfl hb38 rfl (by decide) (vs := [iv a0.Seq]) (cs := []) rfl ⟨rfl, trivial⟩ Tryz.call172 (wire_Check_1_sim h40 w0 _ M _ (sc2 hM)) ?_
  refine Lst.rG hb38 (Ev.not rfl) ?_
  refine Lst.r (Ev.pickF rfl hb38 rfl) ?_
  refine Lst.nil ?_
  exact At.meet (!r39) fl ⟨rfl, rfl, rfl, trivial⟩ rfl (some_inj H)
 rintro F43 y37 hF44 hy
 subst hy
 refine Lst.as (e' := [(1, pv b1 0), (3, pv b3 0), (34, .bool y37)]) (L' := (.blk b3 [.func (.func 172) #[] #[]] 135) :: (.blk b1 (enc a0) 132) :: L) ⟨rfl, rfl, rfl, trivial⟩ rfl ?_
 replace H := HKo36
 refine Lst.r (Ev.assign rfl) ?_
 refine nt0 ?_
 rcases Bool.eq_false_or_eq_true y37 with hb45 | hb45
 ·replace H := ite_t hb45 H
  refine Cd.condT rfl hb45 ?_
  refine sr0 ?_
  refine Lst.r (Ev.assign rfl) ?_
  refine nt0 ?_
  obtain rfl := some_inj H
  refine Cd.ret ?_
  refine At.in_ret ?_
  refine At.then_ret ?_
  exact At.ret1 rfl (Res.tmp rfl) (FLe.trans (FLe.trans (FLe.trans hF17 hF26) hF35) hF44) (sc1 (sc1 (.refl _))) ⟨rfl, rfl⟩
 replace H := ite_f hb45 H
 refine Cd.condF rfl hb45 ?_
 refine sr0 ?_
 refine Lst.r (Ev.fieldAddr (off' := 5) rfl Tryz.runUnderlying132 rfl Tryz.sizeOf130 rfl rfl) ?_
 refine Lst.r (Ev.sliceAll rfl Tryz.runUnderlying130 Tryz.sizeOf3) ?_
 refine Lst.r (Ev.makeFunc (us := []) (vs := [pv b3 0]) trivial ⟨rfl, trivial⟩) ?_
 obtain ⟨r46, h47, H⟩ := bind_some H
 refine Lst.call1 rfl rfl (by decide) (vs := [Sl.v (Sl.mk (some ⟨b1, 5, none⟩) 6 6), .func (.func 175) #[] #[pv b3 0]]) ⟨rfl, rfl, trivial⟩ Tryz.call174 (slices_ContainsFunc_int_int_Check_2_sim h47 w0 _ _ _ (.refl _) (Rd.blk (i := 0) (xs := a0.At.toList) rfl ((Note.get_At gh0).off (by rfl)) (by simp) (by decide))) ?_
 refine Lst.r (Ev.assign rfl) ?_
 refine nt0 ?_
 rcases Bool.eq_false_or_eq_true r46 with hb50 | hb50
 ·replace H := ite_t hb50 H
  refine Cd.condT rfl hb50 ?_
  refine sr0 ?_
  refine Lst.r (Ev.assign rfl) ?_
  refine nt0 ?_
  obtain rfl := some_inj H
  refine Cd.ret ?_
  refine At.in_ret ?_
  refine At.then_ret ?_
  exact At.ret1 rfl (Res.tmp rfl) (FLe.trans (FLe.trans (FLe.trans hF17 hF26) hF35) hF44) (sc1 (sc1 (.refl _))) ⟨rfl, rfl⟩
 replace H := ite_f hb50 H
 refine Cd.condF rfl hb50 ?_
 refine sr0 ?_
 refine Lst.r (Ev.fieldAddr (off' := 11) rfl Tryz.runUnderlying132 rfl Tryz.sizeOf9 rfl rfl) ?_
 refine Lst.r (Ev.load (i := 1) rfl rfl Tryz.isAgg9 (v := Str.v a0.Text) ((Note.get_Text gh0).off (by rfl))) ?_
 refine Lst.r (Ev.lenStr rfl rfl Tryz.runUnderlying9) ?_
 refine Lst.r (Ev.gtr rfl rfl) ?_
 refine Lst.r (Ev.assign rfl) ?_
 refine nt0 ?_
 rcases Bool.eq_false_or_eq_true (decide ((a0.Text.length : Int) > (200 : Int))) with hb51 | hb51
 ·replace H := ite_t hb51 H
  refine Cd.condT rfl hb51 ?_
  refine sr0 ?_
  refine Lst.r (Ev.assign rfl) ?_
  refine nt0 ?_
  obtain rfl := some_inj H
  refine Cd.ret ?_
  refine At.in_ret ?_
  refine At.then_ret ?_
  exact At.ret1 rfl (Res.tmp rfl) (FLe.trans (FLe.trans (FLe.trans hF17 hF26) hF35) hF44) (sc1 (sc1 (.refl _))) ⟨rfl, rfl⟩
 replace H := ite_f hb51 H
 refine Cd.condF rfl hb51 ?_
 refine Cd.skip ?_
 refine At.in_normal ?_
 refine At.then ?_
 refine sr0 ?_
 refine Lst.r (Ev.assign rfl) ?_
 refine nt0 ?_
 obtain rfl := some_inj H
 refine Cd.ret ?_
 exact At.ret1 rfl (Res.tmp rfl) (FLe.trans (FLe.trans (FLe.trans hF17 hF26) hF35) hF44) (sc1 (sc1 (.refl _))) ⟨rfl, rfl⟩
set_option maxRecDepth 20000 in
theorem wire_three_sim {a0 : Int} {r : (List (BitVec 8))} (H : wire_three a0 = some r) (w0 : World) (F : Frz) (M L : List Item) (hM : M.Sublist L) : Ok Tryz.prog w0 170 [iv a0] F (L) (fun _ L' v => ∃ (s1 : Sl), v = Sl.v s1 ∧ L' = (.own s1 5 1 (encs r)) :: L) := by
 unfold wire_three at H
 refine Ok.enter (m := 1) (n := 12) Tryz.func170 rfl rfl rfl (by decide) ?_
 refine Cd.env (e' := [(0, iv a0)]) rfl ?_
 refine sr0 ?_
 refine Lst.addNil 5 1 ?_
 refine Lst.r (Ev.assign rfl) ?_
 refine nsr ?_
 refine mv0 rfl ?_
 refine Lst.r (Ev.convTo8 rfl Tryz.runUnderlying3 Tryz.runUnderlying5) ?_
 refine mv0 rfl ?_
 refine Lst.r (Ev.shr64 (i := a0) (m := 8) rfl rfl) ?_
 refine Lst.r (Ev.convTo8 rfl Tryz.runUnderlying3 Tryz.runUnderlying5) ?_
 refine mv0 rfl ?_
 refine Lst.r (Ev.shr64 (i := a0) (m := 16) rfl rfl) ?_
 refine Lst.r (Ev.convTo8 rfl Tryz.runUnderlying3 Tryz.runUnderlying5) ?_
 refine Lst.buildSlice (α := BitVec 8) (xs := ([BitVec.ofInt 8 a0, BitVec.ofInt 8 (a0.fdiv (2 ^ (min 8 64)) : Int), BitVec.ofInt 8 (a0.fdiv (2 ^ (min 16 64)) : Int)] : List (BitVec 8))) (pv := [(0, .int .u8 (BitVec.ofInt 8 a0).toNat), (1, .int .u8 (BitVec.ofInt 8 (a0.fdiv (2 ^ (min 8 64)) : Int)).toNat), (2, .int .u8 (BitVec.ofInt 8 (a0.fdiv (2 ^ (min 16 64)) : Int)).toNat)]) rfl rfl (by decide) ⟨rfl, rfl, ⟨rfl, rfl, ⟨rfl, rfl, trivial⟩⟩⟩ (run_buildSlice (α := BitVec 8) (z0 := (0 : BitVec 8)) (xs := ([BitVec.ofInt 8 a0, BitVec.ofInt 8 (a0.fdiv (2 ^ (min 8 64)) : Int), BitVec.ofInt 8 (a0.fdiv (2 ^ (min 16 64)) : Int)] : List (BitVec 8))) Tryz.runUnderlying183 Tryz.sizeOf5 Tryz.zeroValue5 rfl rfl rfl (by decide) rfl (fill_cons (cs := encs (List.replicate 3 (0 : BitVec 8))) (cs' := encs ((List.replicate 3 (0 : BitVec 8)).set 0 (BitVec.ofInt 8 a0))) (vs := [.int .u8 (BitVec.ofInt 8 a0).toNat]) rfl rfl rfl ((Put.elemN (s := 1) (i := 0) (x := (0 : BitVec 8)) (y := (BitVec.ofInt 8 a0)) rfl rfl (Put.here (vs := [.int .u8 (BitVec.ofInt 8 a0).toNat]) rfl)).off rfl) (fill_cons (cs := encs ((List.replicate 3 (0 : BitVec 8)).set 0 (BitVec.ofInt 8 a0))) (cs' := encs (((List.replicate 3 (0 : BitVec 8)).set 0 (BitVec.ofInt 8 a0)).set 1 (BitVec.ofInt 8 (a0.fdiv (2 ^ (min 8 64)) : Int)))) (vs := [.int .u8 (BitVec.ofInt 8 (a0.fdiv (2 ^ (min 8 64)) : Int)).toNat]) rfl rfl rfl ((Put.elemN (s := 1) (i := 1) (x := (0 : BitVec 8)) (y := (BitVec.ofInt 8 (a0.fdiv (2 ^ (min 8 64)) : Int))) rfl rfl (Put.here (vs := [.int .u8 (BitVec.ofInt 8 (a0.fdiv (2 ^ (min 8 64)) : Int)).toNat]) rfl)).off rfl) (fill_cons (cs := encs (((List.replicate 3 (0 : BitVec 8)).set 0 (BitVec.ofInt 8 a0)).set 1 (BitVec.ofInt 8 (a0.fdiv (2 ^ (min 8 64)) : Int)))) (cs' := encs ((((List.replicate 3 (0 : BitVec 8)).set 0 (BitVec.ofInt 8 a0)).set 1 (BitVec.ofInt 8 (a0.fdiv (2 ^ (min 8 64)) : Int))).set 2 (BitVec.ofInt 8 (a0.fdiv (2 ^ (min 16 64)) : Int)))) (vs := [.int .u8 (BitVec.ofInt 8 (a0.fdiv (2 ^ (min 16 64)) : Int)).toNat]) rfl rfl rfl ((Put.elemN (s := 1) (i := 2) (x := (0 : BitVec 8)) (y := (BitVec.ofInt 8 (a0.fdiv (2 ^ (min 16 64)) : Int))) rfl rfl (Put.here (vs := [.int .u8 (BitVec.ofInt 8 (a0.fdiv (2 ^ (min 16 64)) : Int)).toNat]) rfl)).off rfl) fill_nil)))) rfl rfl (by decide) (fun s2 _ => ?_)
 refine Lst.r (Ev.assign rfl) ?_
 refine nt0 ?_
 obtain rfl := some_inj H
 refine Cd.ret ?_
 exact At.ret1 rfl (Res.tmp rfl) fl (sk1 (sc1 (.refl _))) ⟨s2, rfl, rfl⟩
set_option maxRecDepth 20000 in
theorem wire_Sum_sim {a0 : Str} {r : (BitVec 32)} (H : wire_Sum a0 = some r) (w0 : World) (F : Frz) (M L : List Item) (hM : M.Sublist L) : Ok Tryz.prog w0 116 [Str.v a0] F (L) (Is (.int .u32 r.toNat) (L)) := by
 unfold wire_Sum at H
 refine Ok.enter (m := 1) (n := 31) Tryz.func116 rfl rfl rfl (by decide) ?_
 refine Cd.env (e' := [(0, Str.v a0)]) rfl ?_
 refine sr0 ?_
 refine Lst.r (Ev.assign rfl) ?_
 refine nsr ?_
 refine Lst.r (Ev.assign rfl) ?_
 refine nt0 ?_
 refine Cd.seq ?_
 refine sr0 ?_
 refine mv0 rfl ?_
 refine Lst.r (Ev.lenStr rfl rfl Tryz.runUnderlying9) ?_
 refine mv0 rfl ?_
 refine nt0 ?_
 refine Cd.block ?_
 obtain ⟨nn5, hN13, H⟩ := bind_some H
 replace hN13 := upTo_some hN13
 obtain ⟨ol1, H, HKl1⟩ := bind_some H
 refine Cd.loop (σ := Nat × Nat × (BitVec 32)) (fun (i1, k1, y2) => [(0, Str.v a0), (3, .int .u32 y2.toNat), (7, iv (a0.length : Int)), (8, iv (i1 : Int))]) (fun (i1, k1, y2) => L) (fun _ => (fun (i1, k1, y2) => rangeF (wire_Sum_B0 a0) k1 i1 y2 = some ol1 ∧ i1 + k1 = nn5)) (fun (i1, k1, y2) => k1) (0, nn5, (4294967295 : BitVec 32)) ⟨rfl, rfl, rfl, rfl, trivial⟩ rfl ⟨H, by omega⟩ ?_
 rintro F3 ⟨i1, k1, y2⟩ hF4 ⟨H, hik1⟩
 refine Cd.as (e' := [(0, Str.v a0), (3, .int .u32 y2.toNat), (7, iv (a0.length : Int)), (8, iv (i1 : Int))]) (L' := L) ⟨rfl, rfl, rfl, rfl, trivial⟩ rfl ?_
 rcases k1 with _ | k1
 ·have hc1 : decide ((i1 : Int) < (a0.length : Int)) = false := decide_eq_false (by omega)
  replace H := rangeF_end H
  refine sr0 ?_
  refine Lst.r (Ev.lss rfl rfl) ?_
  refine nt0 ?_
  refine Cd.seq ?_
  refine Cd.condF rfl hc1 ?_
  refine Cd.exit ?_
  refine At.then_exit ?_
  refine At.then_exit ?_
  refine At.in_exit ?_
  subst H
  replace H := HKl1
  refine At.then ?_
  refine sr0 ?_
  refine mv0 rfl ?_
  refine Lst.r (Ev.complU32 (i := y2) rfl) ?_
  refine Lst.r (Ev.assign rfl) ?_
  refine nt0 ?_
  obtain rfl := some_inj H
  refine Cd.ret ?_
  exact At.ret1 rfl (Res.tmp rfl) hF4 (.refl _) ⟨rfl, rfl⟩
 have hc1 : decide ((i1 : Int) < (a0.length : Int)) = true := decide_eq_true (by omega)
 obtain ⟨c1, H, hgo1⟩ := rangeF_go H
 unfold wire_Sum_B0 at H
 try dsimp only at H
 refine sr0 ?_
 refine Lst.r (Ev.lss rfl rfl) ?_
 refine nt0 ?_
 refine Cd.seq ?_
 refine Cd.condT rfl hc1 ?_
 refine Cd.skip ?_
 refine At.then ?_
 refine Cd.seq ?_
 refine Cd.block ?_
 refine sr0 ?_
 refine mv0 rfl ?_
 refine Lst.r (Ev.assign rfl) ?_
 refine nsr ?_
 refine mv0 rfl ?_
 refine mv0 rfl ?_
 refine mv0 rfl ?_
 obtain ⟨x6, h7, H⟩ := bind_some H
 refine Lst.r (Ev.indexStr rfl rfl Tryz.runUnderlying9 h7) ?_
 refine Lst.r (Ev.convTo32 rfl Tryz.runUnderlying5 Tryz.runUnderlying110) ?_
 refine Lst.r (Ev.xorU32 (i := y2) (j := BitVec.ofInt 32 (x6.toBitVec.toNat : Int)) rfl rfl) ?_
 refine Lst.r (Ev.assign rfl) ?_
 refine nsr ?_
 refine mv0 rfl ?_
 refine nt0 ?_
 refine Cd.block ?_
 obtain ⟨ol8, H, HKl8⟩ := bind_some H
 refine Cd.loop (σ := Nat × Nat × (BitVec 32)) (fun (i8, k8, y9) => [(0, Str.v a0), (3, .int .u32 y9.toNat), (7, iv (a0.length : Int)), (8, iv (i1 : Int)), (17, iv (i8 : Int))]) (fun (i8, k8, y9) => L) (fun _ => (fun (i8, k8, y9) => rangeF (wire_Sum_B2) k8 i8 y9 = some ol8 ∧ i8 + k8 = 8)) (fun (i8, k8, y9) => k8) (0, 8, y2 ^^^ (BitVec.ofInt 32 (x6.toBitVec.toNat : Int))) ⟨rfl, rfl, rfl, rfl, rfl, trivial⟩ rfl ⟨H, by omega⟩ ?_
 rintro F10 ⟨i8, k8, y9⟩ hF11 ⟨H, hik8⟩
 refine Cd.as (e' := [(0, Str.v a0), (3, .int .u32 y9.toNat), (7, iv (a0.length : Int)), (8, iv (i1 : Int)), (17, iv (i8 : Int))]) (L' := L) ⟨rfl, rfl, rfl, rfl, rfl, trivial⟩ rfl ?_
 rcases k8 with _ | k8
 ·have hc8 : decide ((i8 : Int) < (8 : Int)) = false := decide_eq_false (by omega)
  replace H := rangeF_end H
  refine sr0 ?_
  refine Lst.r (Ev.lss rfl rfl) ?_
  refine nt0 ?_
  refine Cd.seq ?_
  refine Cd.condF rfl hc8 ?_
  refine Cd.exit ?_
  refine At.then_exit ?_
  refine At.then_exit ?_
  refine At.in_exit ?_
  subst H
  replace H := HKl8
  refine At.in_normal ?_
  refine At.then ?_
  refine Cd.region ?_
  refine Lst.r (Ev.incr (by omega) rfl rfl) ?_
  refine mv0 rfl ?_
  refine Lst.nil ?_
  exact At.meet (i1 + 1, k1, y9) (FLe.trans hF4 hF11) ⟨rfl, rfl, rfl, rfl, trivial⟩ rfl ⟨⟨hgo1 _ (some_inj H).symm, by omega⟩, Nat.lt_succ_self _⟩
 have hc8 : decide ((i8 : Int) < (8 : Int)) = true := decide_eq_true (by omega)
 obtain ⟨c8, H, hgo8⟩ := rangeF_go H
 unfold wire_Sum_B2 at H
 try dsimp only at H
 refine sr0 ?_
 refine Lst.r (Ev.lss rfl rfl) ?_
 refine nt0 ?_
 refine Cd.seq ?_
 refine Cd.condT rfl hc8 ?_
 refine Cd.skip ?_
 refine At.then ?_
 refine Cd.seq ?_
 refine Cd.block ?_
 refine sr0 ?_
 refine mv0 rfl ?_
 refine Lst.r (Ev.andU32 (i := y9) (j := (1 : BitVec 32)) rfl rfl) ?_
 refine Lst.r (Ev.assign rfl) ?_
 refine nsr ?_
 refine mv0 rfl ?_
 refine Lst.r (Ev.shrU32 (i := y9) (m := 1) rfl rfl) ?_
 refine Lst.r (Ev.assign rfl) ?_
 refine nsr ?_
 refine mv0 rfl ?_
 refine Lst.r (Ev.eql rfl rfl) ?_
 refine nt0 ?_
 rcases (Bool.eq_false_or_eq_true (((y9 &&& (1 : BitVec 32)).toNat : Int) == ((1 : BitVec 32).toNat : Int))).symm with hb12 | hb12
 ·replace H := ite_f hb12 H
  refine Cd.condF rfl hb12 ?_
  refine Cd.skip ?_
  refine At.in_normal ?_
  refine At.then ?_
  refine Cd.region ?_
  refine Lst.r (Ev.incr (by omega) rfl rfl) ?_
  refine mv0 rfl ?_
  refine Lst.nil ?_
  exact At.meet (i8 + 1, k8, y9 >>> 1) hF11 ⟨rfl, rfl, rfl, rfl, rfl, trivial⟩ rfl ⟨⟨hgo8 _ (some_inj H).symm, by omega⟩, Nat.lt_succ_self _⟩
 replace H := ite_t hb12 H
 refine Cd.condT rfl hb12 ?_
 refine Cd.region ?_
 refine mv0 rfl ?_
 refine Lst.r (Ev.xorU32 (i := y9 >>> 1) (j := (2197175160 : BitVec 32)) rfl rfl) ?_
 refine Lst.r (Ev.assign rfl) ?_
 refine Lst.nil ?_
 refine At.in_normal ?_
 refine At.then ?_
 refine Cd.region ?_
 refine Lst.r (Ev.incr (by omega) rfl rfl) ?_
 refine mv0 rfl ?_
 refine Lst.nil ?_
 exact At.meet (i8 + 1, k8, (y9 >>> 1) ^^^ (2197175160 : BitVec 32)) hF11 ⟨rfl, rfl, rfl, rfl, rfl, trivial⟩ rfl ⟨⟨hgo8 _ (some_inj H).symm, by omega⟩, Nat.lt_succ_self _⟩
set_option maxRecDepth 20000 in
theorem wire_four_sim {a0 : BitVec 32} {r : (List (BitVec 8))} (H : wire_four a0 = some r) (w0 : World) (F : Frz) (M L : List Item) (hM : M.Sublist L) : Ok Tryz.prog w0 115 [.int .u32 a0.toNat] F (L) (fun _ L' v => ∃ (s1 : Sl), v = Sl.v s1 ∧ L' = (.own s1 5 1 (encs r)) :: L) := by
 unfold wire_four at H
 refine Ok.enter (m := 1) (n := 11) Tryz.func115 rfl rfl rfl (by decide) ?_
 refine Cd.env (e' := [(0, .int .u32 a0.toNat)]) rfl ?_
 refine sr0 ?_
 refine Lst.addNil 5 1 ?_
 refine Lst.r (Ev.assign rfl) ?_
 refine nsr ?_
 refine mv0 rfl ?_
 refine Lst.r (Ev.convIS (j := (a0.toNat : Int)) rfl Tryz.runUnderlying110 Tryz.runUnderlying3 (w64_id (by omega) (by omega))) ?_
 obtain ⟨r2, h3, H⟩ := bind_some H
 refine Lst.call rfl rfl (by decide) (vs := [iv (a0.toNat : Int)]) ⟨rfl, trivial⟩ Tryz.call170 (wire_three_sim h3 w0 _ M _ (sc1 hM)) (fun F6 L' v hF7 hv => ?_)
 obtain ⟨s4, rfl, rfl⟩ := hv
 refine mv0 rfl ?_
 refine Lst.r (Ev.shrU32 (i := a0) (m := 24) rfl rfl) ?_
 refine Lst.r (Ev.convTo8 rfl Tryz.runUnderlying110 Tryz.runUnderlying5) ?_
 refine Lst.buildSlice (α := BitVec 8) (xs := ([BitVec.ofInt 8 ((a0 >>> 24).toNat : Int)] : List (BitVec 8))) (pv := [(0, .int .u8 (BitVec.ofInt 8 ((a0 >>> 24).toNat : Int)).toNat)]) rfl rfl (by decide) ⟨rfl, rfl, trivial⟩ (run_buildSlice (α := BitVec 8) (z0 := (0 : BitVec 8)) (xs := ([BitVec.ofInt 8 ((a0 >>> 24).toNat : Int)] : List (BitVec 8))) Tryz.runUnderlying183 Tryz.sizeOf5 Tryz.zeroValue5 rfl rfl rfl (by decide) rfl (fill_cons (cs := encs (List.replicate 1 (0 : BitVec 8))) (cs' := encs ((List.replicate 1 (0 : BitVec 8)).set 0 (BitVec.ofInt 8 ((a0 >>> 24).toNat : Int)))) (vs := [.int .u8 (BitVec.ofInt 8 ((a0 >>> 24).toNat : Int)).toNat]) rfl rfl rfl ((Put.elemN (s := 1) (i := 0) (x := (0 : BitVec 8)) (y := (BitVec.ofInt 8 ((a0 >>> 24).toNat : Int))) rfl rfl (Put.here (vs := [.int .u8 (BitVec.ofInt 8 ((a0 >>> 24).toNat : Int)).toNat]) rfl)).off rfl) fill_nil)) rfl rfl (by decide) (fun s8 _ => ?_)
 obtain ⟨u10, h11, H⟩ := bind_some H
 refine Lst.append (i := 1) (α := BitVec 8) (xs := r2) (ys := ([BitVec.ofInt 8 ((a0 >>> 24).toNat : Int)] : List (BitVec 8))) rfl rfl (by decide) rfl rfl Tryz.runUnderlying183 Tryz.typeInfo5 rfl rfl rfl rfl rfl rfl (rdo 0 rfl rfl rfl) rfl (room_some h11) rfl (fun s12 => ?_)
 refine Lst.its (L' := (.own s8 5 1 (encs ([BitVec.ofInt 8 ((a0 >>> 24).toNat : Int)] : List (BitVec 8)))) :: (.own s12 5 1 (encs (r2 ++ ([BitVec.ofInt 8 ((a0 >>> 24).toNat : Int)] : List (BitVec 8))))) :: (.own Sl.nil 5 1 (encs ([] : List (BitVec 8)))) :: L) rfl ?_
 refine Lst.r (Ev.assign rfl) ?_
 refine nt0 ?_
 obtain rfl := some_inj H
 refine Cd.ret ?_
 exact At.ret1 rfl (Res.tmp rfl) hF7 (sc1 (sk1 (sc1 (.refl _)))) ⟨s12, rfl, rfl⟩
set_option maxRecDepth 20000 in
theorem wire_Pack_sim {a0 : Note} {r : Str × Int} (H : wire_Pack a0 = some r) (w0 : World) (F : Frz) (M L : List Item) (hM : M.Sublist L) : Ok Tryz.prog w0 113 [.agg (enc a0).toArray] F (L) (Is (.tuple #[Str.v r.1, iv r.2]) (L)) := by
 unfold wire_Pack at H
 refine Ok.enter (m := 1) (n := 52) Tryz.func113 rfl rfl rfl (by decide) ?_
 refine Cd.env (e' := [(0, .agg (enc a0).toArray)]) rfl ?_
 refine sr0 ?_
 refine Lst.box rfl rfl (by decide) rfl (cs := enc a0) rfl (fun b1 => ?_)
 refine Lst.r (Ev.assign rfl) ?_
 refine Lst.r (Ev.assign rfl) ?_
 refine nt0 ?_
 refine Cd.seq ?_
 refine sr0 ?_
 refine Lst.r (Ev.loadA (i := 0) rfl rfl Tryz.isAgg132 Tryz.sizeOf132 (ch := enc a0) (Enc.len _) gh0) ?_
 obtain ⟨r3, h4, H⟩ := bind_some H
 refine Lst.call1 rfl rfl (by decide) (vs := [.agg (enc a0).toArray]) ⟨rfl, trivial⟩ Tryz.call118 (wire_Check_sim h4 w0 _ M _ (sc1 hM)) ?_
 refine Lst.r (Ev.assign rfl) ?_
 refine nsr ?_
 refine mv0 rfl ?_
 refine Lst.r (Ev.neq rfl rfl) ?_
 refine nt0 ?_
 rcases Bool.eq_false_or_eq_true (r3 != (0 : Int)) with hb7 | hb7
 ·replace H := ite_t hb7 H
  refine Cd.condT rfl hb7 ?_
  refine sr0 ?_
  refine mv0 rfl ?_
  refine Lst.r (Ev.assign rfl) ?_
  refine Lst.r (Ev.assign rfl) ?_
  refine nt0 ?_
  obtain rfl := some_inj H
  refine Cd.ret ?_
  refine At.then_ret ?_
  exact At.ret2 rfl (Res.tmp rfl) (Res.tmp rfl) fl (sc1 (.refl _)) ⟨rfl, rfl⟩
 replace H := ite_f hb7 H
 refine Cd.condF rfl hb7 ?_
 refine Cd.skip ?_
 refine At.then ?_
 refine sr0 ?_
 refine Lst.r (Ev.fieldAddr (off' := 0) rfl Tryz.runUnderlying132 rfl Tryz.sizeOf3 rfl rfl) ?_
 refine Lst.r (Ev.load (i := 0) rfl rfl Tryz.isAgg3 (v := iv a0.Kind) ((Note.get_Kind gh0).off (by rfl))) ?_
 refine Lst.r (Ev.convTo8 rfl Tryz.runUnderlying3 Tryz.runUnderlying5) ?_
 refine Lst.r (Ev.fieldAddr (off' := 1) rfl Tryz.runUnderlying132 rfl Tryz.sizeOf3 rfl rfl) ?_
 refine Lst.r (Ev.load (i := 0) rfl rfl Tryz.isAgg3 (v := iv a0.From) ((Note.get_From gh0).off (by rfl))) ?_
 refine Lst.r (Ev.convTo8 rfl Tryz.runUnderlying3 Tryz.runUnderlying5) ?_
 refine Lst.r (Ev.fieldAddr (off' := 2) rfl Tryz.runUnderlying132 rfl Tryz.sizeOf3 rfl rfl) ?_
 refine Lst.r (Ev.load (i := 0) rfl rfl Tryz.isAgg3 (v := iv a0.To) ((Note.get_To gh0).off (by rfl))) ?_
 refine Lst.r (Ev.convTo8 rfl Tryz.runUnderlying3 Tryz.runUnderlying5) ?_
 refine Lst.buildSlice (α := BitVec 8) (xs := ([BitVec.ofInt 8 a0.Kind, BitVec.ofInt 8 a0.From, BitVec.ofInt 8 a0.To] : List (BitVec 8))) (pv := [(0, .int .u8 (BitVec.ofInt 8 a0.Kind).toNat), (1, .int .u8 (BitVec.ofInt 8 a0.From).toNat), (2, .int .u8 (BitVec.ofInt 8 a0.To).toNat)]) rfl rfl (by decide) ⟨rfl, rfl, ⟨rfl, rfl, ⟨rfl, rfl, trivial⟩⟩⟩ (run_buildSlice (α := BitVec 8) (z0 := (0 : BitVec 8)) (xs := ([BitVec.ofInt 8 a0.Kind, BitVec.ofInt 8 a0.From, BitVec.ofInt 8 a0.To] : List (BitVec 8))) Tryz.runUnderlying183 Tryz.sizeOf5 Tryz.zeroValue5 rfl rfl rfl (by decide) rfl (fill_cons (cs := encs (List.replicate 3 (0 : BitVec 8))) (cs' := encs ((List.replicate 3 (0 : BitVec 8)).set 0 (BitVec.ofInt 8 a0.Kind))) (vs := [.int .u8 (BitVec.ofInt 8 a0.Kind).toNat]) rfl rfl rfl ((Put.elemN (s := 1) (i := 0) (x := (0 : BitVec 8)) (y := (BitVec.ofInt 8 a0.Kind)) rfl rfl (Put.here (vs := [.int .u8 (BitVec.ofInt 8 a0.Kind).toNat]) rfl)).off rfl) (fill_cons (cs := encs ((List.replicate 3 (0 : BitVec 8)).set 0 (BitVec.ofInt 8 a0.Kind))) (cs' := encs (((List.replicate 3 (0 : BitVec 8)).set 0 (BitVec.ofInt 8 a0.Kind)).set 1 (BitVec.ofInt 8 a0.From))) (vs := [.int .u8 (BitVec.ofInt 8 a0.From).toNat]) rfl rfl rfl ((Put.elemN (s := 1) (i := 1) (x := (0 : BitVec 8)) (y := (BitVec.ofInt 8 a0.From)) rfl rfl (Put.here (vs := [.int .u8 (BitVec.ofInt 8 a0.From).toNat]) rfl)).off rfl) (fill_cons (cs := encs (((List.replicate 3 (0 : BitVec 8)).set 0 (BitVec.ofInt 8 a0.Kind)).set 1 (BitVec.ofInt 8 a0.From))) (cs' := encs ((((List.replicate 3 (0 : BitVec 8)).set 0 (BitVec.ofInt 8 a0.Kind)).set 1 (BitVec.ofInt 8 a0.From)).set 2 (BitVec.ofInt 8 a0.To))) (vs := [.int .u8 (BitVec.ofInt 8 a0.To).toNat]) rfl rfl rfl ((Put.elemN (s := 1) (i := 2) (x := (0 : BitVec 8)) (y := (BitVec.ofInt 8 a0.To)) rfl rfl (Put.here (vs := [.int .u8 (BitVec.ofInt 8 a0.To).toNat]) rfl)).off rfl) fill_nil)))) rfl rfl (by decide) (fun s8 _ => ?_)
 refine Lst.r (Ev.assign rfl) ?_
 refine nt0 ?_
 refine Cd.seq ?_
 refine Cd.seq ?_
 refine Cd.as (e' := [(1, pv b1 0), (5, Sl.v s8)]) (L' := (.own s8 5 1 (encs ([BitVec.ofInt 8 a0.Kind, BitVec.ofInt 8 a0.From, BitVec.ofInt 8 a0.To] : List (BitVec 8)))) :: (.blk b1 (enc a0) 132) :: L) ⟨rfl, rfl, trivial⟩ rfl ?_
 obtain ⟨u12, h13, H⟩ := bind_some H
 obtain ⟨o18, h19, H⟩ := Let_some H
 refine Cd.headMeet (σ := Sl × (List Int)) 10 (fun (s16, l17) => [(1, pv b1 0), (5, Sl.v s8), (30, Sl.v s16), (31, iv ((([a0.View, a0.Seq] : List Int) ++ a0.At.toList).length : Int)), (32, iv (0 : Int))]) (fun (s16, l17) => (.own s16 3 1 (encs l17)) :: (.own s8 5 1 (encs ([BitVec.ofInt 8 a0.Kind, BitVec.ofInt 8 a0.From, BitVec.ofInt 8 a0.To] : List (BitVec 8)))) :: (.blk b1 (enc a0) 132) :: L) (fun _ (s16, l17) => l17 = o18) (by kernel_rfl) (by kernel_rfl) (behind_all rfl) (by kernel_rfl) (fun hsel hlt => ?_) ?_
 ·refine HdJ.keep (fun w => St w0 F ((.own s8 5 1 (encs ([BitVec.ofInt 8 a0.Kind, BitVec.ofInt 8 a0.From, BitVec.ofInt 8 a0.To] : List (BitVec 8)))) :: (.blk b1 (enc a0) 132) :: L) w) (fun w h => trivial) ?_
  refine HdJ.ts hsel hlt 0 (sk1 (sk1 (.refl _))) rfl (Ev.fieldAddr (off' := 3) rfl Tryz.runUnderlying132 rfl Tryz.sizeOf3 rfl rfl) ?_
  refine HdJ.ts hsel hlt 1 (sk1 (sk1 (.refl _))) rfl (Ev.load (i := 1) rfl rfl Tryz.isAgg3 (v := iv a0.View) ((Note.get_View gh0).off (by rfl))) ?_
  refine HdJ.ts hsel hlt 2 (sk1 (sk1 (.refl _))) rfl (Ev.fieldAddr (off' := 4) rfl Tryz.runUnderlying132 rfl Tryz.sizeOf3 rfl rfl) ?_
  refine HdJ.ts hsel hlt 3 (sk1 (sk1 (.refl _))) rfl (Ev.load (i := 1) rfl rfl Tryz.isAgg3 (v := iv a0.Seq) ((Note.get_Seq gh0).off (by rfl))) ?_
  refine HdJ.ts hsel hlt 5 (sk1 (sk1 (.refl _))) rfl (Ev.fieldAddr (off' := 5) rfl Tryz.runUnderlying132 rfl Tryz.sizeOf130 rfl rfl) ?_
  refine HdJ.ts hsel hlt 6 (sk1 (sk1 (.refl _))) rfl (Ev.sliceAll rfl Tryz.runUnderlying130 Tryz.sizeOf3) ?_
  refine HdJ.ts hsel hlt 9 (sk1 (sk1 (.refl _))) rfl (Ev.move rfl) ?_
  refine HdJ.o1 4 (fun inv => ?_)
  refine Lst.buildSlice (α := Int) (xs := ([a0.View, a0.Seq] : List Int)) (pv := [(0, iv a0.View), (1, iv a0.Seq)]) rfl rfl (by decide) ⟨rfl, rfl, ⟨rfl, rfl, trivial⟩⟩ (run_buildSlice (α := Int) (z0 := (0 : Int)) (xs := ([a0.View, a0.Seq] : List Int)) Tryz.runUnderlying83 Tryz.sizeOf3 Tryz.zeroValue3 rfl rfl rfl (by decide) rfl (fill_cons (cs := encs (List.replicate 2 (0 : Int))) (cs' := encs ((List.replicate 2 (0 : Int)).set 0 a0.View)) (vs := [iv a0.View]) rfl rfl rfl ((Put.elemN (s := 1) (i := 0) (x := (0 : Int)) (y := a0.View) rfl rfl (Put.here (vs := [iv a0.View]) rfl)).off rfl) (fill_cons (cs := encs ((List.replicate 2 (0 : Int)).set 0 a0.View)) (cs' := encs (((List.replicate 2 (0 : Int)).set 0 a0.View).set 1 a0.Seq)) (vs := [iv a0.Seq]) rfl rfl rfl ((Put.elemN (s := 1) (i := 1) (x := (0 : Int)) (y := a0.Seq) rfl rfl (Put.here (vs := [iv a0.Seq]) rfl)).off rfl) fill_nil))) rfl rfl (by decide) (fun s20 _ => ?_)
  refine hds inv (sc1 (sk1 (sk1 (.refl _)))) ?_
  refine HdJ.o1 7 (fun inv => ?_)
  refine Lst.append (i := 0) (α := Int) (xs := ([a0.View, a0.Seq] : List Int)) (ys := a0.At.toList) rfl rfl (by decide) rfl rfl Tryz.runUnderlying83 Tryz.typeInfo3 rfl rfl rfl rfl rfl rfl (Rd.blk (i := 2) (xs := a0.At.toList) rfl ((Note.get_At gh0).off (by rfl)) (by simp) (by decide)) rfl (room_some h13) rfl (fun s21 => ?_)
  refine Lst.its (L' := (.own s21 3 1 (encs (([a0.View, a0.Seq] : List Int) ++ a0.At.toList))) :: (.own s8 5 1 (encs ([BitVec.ofInt 8 a0.Kind, BitVec.ofInt 8 a0.From, BitVec.ofInt 8 a0.To] : List (BitVec 8)))) :: (.blk b1 (enc a0) 132) :: L) rfl ?_
  refine hds inv (sc1 (sk1 (sk1 (.refl _)))) ?_
  refine HdJ.keep (fun w => St w0 F ((.own s21 3 1 (encs (([a0.View, a0.Seq] : List Int) ++ a0.At.toList))) :: (.own s8 5 1 (encs ([BitVec.ofInt 8 a0.Kind, BitVec.ofInt 8 a0.From, BitVec.ofInt 8 a0.To] : List (BitVec 8)))) :: (.blk b1 (enc a0) 132) :: L) w) (fun w h => (h.weaken fl).sublist (sc1 (sk1 (sk1 (.refl _))))) ?_
  refine HdJ.ts hsel hlt 8 (sk1 (sk1 (sk1 (.refl _)))) rfl (Ev.lenS (α := Int) (xs := (([a0.View, a0.Seq] : List Int) ++ a0.At.toList)) (by decide) rfl rfl Tryz.runUnderlying83 (rdo 0 rfl rfl rfl)) ?_
  refine HdJ.done (by kernel_rfl) ?_
  exact At.meetN (s21, ([a0.View, a0.Seq] : List Int) ++ a0.At.toList) fl ⟨rfl, rfl, rfl, rfl, rfl, trivial⟩ rfl h19
 rintro F22 ⟨s16, l17⟩ hF23 hy
 subst hy
 refine Lst.as (e' := [(1, pv b1 0), (5, Sl.v s8), (30, Sl.v s16), (31, iv ((([a0.View, a0.Seq] : List Int) ++ a0.At.toList).length : Int)), (32, iv (0 : Int))]) (L' := (.own s16 3 1 (encs l17)) :: (.own s8 5 1 (encs ([BitVec.ofInt 8 a0.Kind, BitVec.ofInt 8 a0.From, BitVec.ofInt 8 a0.To] : List (BitVec 8)))) :: (.blk b1 (enc a0) 132) :: L) ⟨rfl, rfl, rfl, rfl, rfl, trivial⟩ rfl ?_
 refine nt0 ?_
 refine Cd.block ?_
 obtain ⟨nn29, hN58, H⟩ := bind_some H
 replace hN58 := upTo_some hN58
 obtain ⟨ol24, H, HKl24⟩ := bind_some H
 refine Cd.loop (σ := Nat × Nat × Sl × (List (BitVec 8))) (fun (i24, k24, s25, l26) => [(1, pv b1 0), (5, Sl.v s25), (30, Sl.v s16), (31, iv ((([a0.View, a0.Seq] : List Int) ++ a0.At.toList).length : Int)), (32, iv (i24 : Int))]) (fun (i24, k24, s25, l26) => (.own s16 3 1 (encs l17)) :: (.own s25 5 1 (encs l26)) :: (.blk b1 (enc a0) 132) :: L) (fun _ => (fun (i24, k24, s25, l26) => rangeF (wire_Pack_B0 l17) k24 i24 l26 = some ol24 ∧ i24 + k24 = nn29)) (fun (i24, k24, s25, l26) => k24) (0, nn29, s8, ([BitVec.ofInt 8 a0.Kind, BitVec.ofInt 8 a0.From, BitVec.ofInt 8 a0.To] : List (BitVec 8))) ⟨rfl, rfl, rfl, rfl, rfl, trivial⟩ rfl ⟨H, by omega⟩ ?_
 rintro F27 ⟨i24, k24, s25, l26⟩ hF28 ⟨H, hik24⟩
 refine Cd.as (e' := [(1, pv b1 0), (5, Sl.v s25), (30, Sl.v s16), (31, iv ((([a0.View, a0.Seq] : List Int) ++ a0.At.toList).length : Int)), (32, iv (i24 : Int))]) (L' := (.own s16 3 1 (encs l17)) :: (.own s25 5 1 (encs l26)) :: (.blk b1 (enc a0) 132) :: L) ⟨rfl, rfl, rfl, rfl, rfl, trivial⟩ rfl ?_
 rcases k24 with _ | k24
 ·have hc24 : decide ((i24 : Int) < ((([a0.View, a0.Seq] : List Int) ++ a0.At.toList).length : Int)) = false := decide_eq_false (by omega)
  replace H := rangeF_end H
  refine sr0 ?_
  refine Lst.r (Ev.lss rfl rfl) ?_
  refine nt0 ?_
  refine Cd.seq ?_
  refine Cd.condF rfl hc24 ?_
  refine Cd.exit ?_
  refine At.then_exit ?_
  refine At.then_exit ?_
  refine At.in_exit ?_
  subst H
  replace H := HKl24
  refine At.then ?_
  refine sr0 ?_
  refine mv0 rfl ?_
  refine Lst.r (Ev.fieldAddr (off' := 11) rfl Tryz.runUnderlying132 rfl Tryz.sizeOf9 rfl rfl) ?_
  refine Lst.r (Ev.load (i := 2) rfl rfl Tryz.isAgg9 (v := Str.v a0.Text) ((Note.get_Text gh0).off (by rfl))) ?_
  obtain ⟨u42, h43, H⟩ := bind_some H
  refine Lst.appendStr (i := 1) (xs := l26) (m := a0.Text) rfl rfl (by decide) rfl rfl Tryz.runUnderlying183 Tryz.runUnderlying9 Tryz.typeInfo5 rfl rfl rfl rfl rfl (room_some h43) rfl (fun s44 => ?_)
  refine Lst.its (L' := (.own s16 3 1 (encs l17)) :: (.own s44 5 1 (encs (l26 ++ (Str.bytes a0.Text)))) :: (.blk b1 (enc a0) 132) :: L) rfl ?_
  refine Lst.r (Ev.assign rfl) ?_
  refine nsr ?_
  refine mv0 rfl ?_
  refine mv0 rfl ?_
  refine Lst.r (Ev.bytesStr (ys := (l26 ++ (Str.bytes a0.Text))) rfl Tryz.runUnderlying183 Tryz.runUnderlying5 Tryz.runUnderlying9 (rdo 1 rfl rfl rfl)) ?_
  obtain ⟨r45, h46, H⟩ := bind_some H
  refine Lst.call1 rfl rfl (by decide) (vs := [Str.v (Str.ofBytes (l26 ++ (Str.bytes a0.Text)))]) ⟨rfl, trivial⟩ Tryz.call116 (wire_Sum_sim h46 w0 _ M _ (sc2 (sc1 hM))) ?_
  obtain ⟨r49, h50, H⟩ := bind_some H
  refine Lst.call rfl rfl (by decide) (vs := [.int .u32 r45.toNat]) ⟨rfl, trivial⟩ Tryz.call115 (wire_four_sim h50 w0 _ M _ (sc2 (sc1 hM))) (fun F53 L' v hF54 hv => ?_)
  obtain ⟨s51, rfl, rfl⟩ := hv
  obtain ⟨u55, h56, H⟩ := bind_some H
  refine Lst.append (i := 2) (α := BitVec 8) (xs := (l26 ++ (Str.bytes a0.Text))) (ys := r49) rfl rfl (by decide) rfl rfl Tryz.runUnderlying183 Tryz.typeInfo5 rfl rfl rfl rfl rfl rfl (rdo 0 rfl rfl rfl) rfl (room_some h56) rfl (fun s57 => ?_)
  refine Lst.its (L' := (.own s51 5 1 (encs r49)) :: (.own s16 3 1 (encs l17)) :: (.own s57 5 1 (encs ((l26 ++ (Str.bytes a0.Text)) ++ r49))) :: (.blk b1 (enc a0) 132) :: L) rfl ?_
  refine Lst.r (Ev.bytesStr (ys := ((l26 ++ (Str.bytes a0.Text)) ++ r49)) rfl Tryz.runUnderlying183 Tryz.runUnderlying5 Tryz.runUnderlying9 (rdo 2 rfl rfl rfl)) ?_
  refine Lst.r (Ev.assign rfl) ?_
  refine Lst.r (Ev.assign rfl) ?_
  refine nt0 ?_
  obtain rfl := some_inj H
  refine Cd.ret ?_
  exact At.ret2 rfl (Res.tmp rfl) (Res.tmp rfl) (FLe.trans (FLe.trans hF23 hF28) hF54) (sc1 (sc1 (sc1 (sc1 (.refl _))))) ⟨rfl, rfl⟩
 have hc24 : decide ((i24 : Int) < ((([a0.View, a0.Seq] : List Int) ++ a0.At.toList).length : Int)) = true := decide_eq_true (by omega)
 obtain ⟨c24, H, hgo24⟩ := rangeF_go H
 unfold wire_Pack_B0 at H
 try dsimp only at H
 refine sr0 ?_
 refine Lst.r (Ev.lss rfl rfl) ?_
 refine nt0 ?_
 refine Cd.seq ?_
 refine Cd.condT rfl hc24 ?_
 refine Cd.skip ?_
 refine At.then ?_
 refine Cd.seq ?_
 refine Cd.block ?_
 refine sr0 ?_
 obtain ⟨x30, h31, H⟩ := bind_some H
 have g32 := lat_some h31
 refine Lst.r (Ev.indexS (α := Int) (xs := l17) rfl rfl Tryz.runUnderlying83 Tryz.sizeOf3 rfl (by decide) (rdo 0 rfl rfl rfl) g32.1 g32.2.1) ?_
 refine Lst.r (Ev.loadS (α := Int) rfl (rdo 0 rfl rfl rfl) Tryz.isAgg3 (v := iv x30) ((Get.elemN (s := 1) (x := x30) rfl g32.2.2 gh0).off (by omega))) ?_
 refine Lst.r (Ev.assign rfl) ?_
 refine nt0 ?_
 refine Cd.region ?_
 refine mv0 rfl ?_
 refine mv0 rfl ?_
 obtain ⟨r33, h34, H⟩ := bind_some H
 refine Lst.call rfl rfl (by decide) (vs := [iv x30]) ⟨rfl, trivial⟩ Tryz.call170 (wire_three_sim h34 w0 _ M _ (sc2 (sc1 hM))) (fun F37 L' v hF38 hv => ?_)
 obtain ⟨s35, rfl, rfl⟩ := hv
 obtain ⟨u39, h40, H⟩ := bind_some H
 refine Lst.append (i := 2) (α := BitVec 8) (xs := l26) (ys := r33) rfl rfl (by decide) rfl rfl Tryz.runUnderlying183 Tryz.typeInfo5 rfl rfl rfl rfl rfl rfl (rdo 0 rfl rfl rfl) rfl (room_some h40) rfl (fun s41 => ?_)
 refine Lst.its (L' := (.own s35 5 1 (encs r33)) :: (.own s16 3 1 (encs l17)) :: (.own s41 5 1 (encs (l26 ++ r33))) :: (.blk b1 (enc a0) 132) :: L) rfl ?_
 refine Lst.r (Ev.assign rfl) ?_
 refine Lst.nil ?_
 refine At.in_normal ?_
 refine At.then ?_
 refine Cd.region ?_
 refine Lst.r (Ev.incr (by omega) rfl rfl) ?_
 refine mv0 rfl ?_
 refine Lst.nil ?_
 refine At.less (L' := (.own s16 3 1 (encs l17)) :: (.own s41 5 1 (encs (l26 ++ r33))) :: (.blk b1 (enc a0) 132) :: L) (sc1 (sk1 (sk1 (sk1 (.refl _))))) ?_
 exact At.meet (i24 + 1, k24, s41, l26 ++ r33) (FLe.trans hF28 hF38) ⟨rfl, rfl, rfl, rfl, rfl, trivial⟩ rfl ⟨⟨hgo24 _ (some_inj H).symm, by omega⟩, Nat.lt_succ_self _⟩
set_option maxRecDepth 20000 in
theorem world_World_send_sim {a0 : Wld} {a1 : Int} {a2 : Int} {a3 : Int} {a4 : Int} {a5 : Str} {b_a0 : Nat} {s_a0_1 : Sl} {rs_a0_1 : List ProcessR} {s_a0_2 : Sl} {s_a0_3 : Sl} {r : (List Str) × Wld} (H : world_World_send a0 a1 a2 a3 a4 a5 = some r) (w0 : World) (F : Frz) (M L : List Item) (hM : M.Sublist L) (hm_a0_1 : rs_a0_1.map ProcessR.v = a0.all) (ha_a0_1 : All ProcessR.frel w0 F [] rs_a0_1) : Ok Tryz.prog w0 61 [pv b_a0 0, iv a1, iv a2, iv a3, iv a4, Str.v a5] F ((.rows (α := Saying) 62 (List.map ProcessR.row rs_a0_1)) :: (.own s_a0_1 100 8 (encs rs_a0_1)) :: (.own s_a0_2 9 1 (encs a0.ordered)) :: (.own s_a0_3 9 1 (encs a0.way)) :: (.blk b_a0 (enc (WldR.mk a0 s_a0_1 s_a0_2 s_a0_3)) 95) :: L) (fun _ L' v => ∃ (s6 : Sl), v = .tuple #[] ∧ L' = (.rows (α := Saying) 62 (List.map ProcessR.row rs_a0_1)) :: (.own s_a0_1 100 8 (encs rs_a0_1)) :: (.own s_a0_2 9 1 (encs a0.ordered)) :: (.own s6 9 1 (encs r.1)) :: (.blk b_a0 (enc (WldR.mk ({ r.2 with all := a0.all, ordered := a0.ordered, way := r.1 } : Wld) s_a0_1 s_a0_2 s6)) 95) :: L) := by
 unfold world_World_send at H
 refine Ok.enter (m := 6) (n := 49) Tryz.func61 rfl rfl rfl (by decide) ?_
 refine Cd.env (e' := [(0, pv b_a0 0), (1, iv a1), (2, iv a2), (3, iv a3), (4, iv a4), (5, Str.v a5)]) rfl ?_
 refine sr0 ?_
 refine mv0 rfl ?_
 refine mv0 rfl ?_
 refine mv0 rfl ?_
 refine mv0 rfl ?_
 refine Lst.r (Ev.nilCheck rfl) ?_
 refine Lst.r (Ev.fieldAddr (off' := 0) rfl Tryz.runUnderlying95 rfl Tryz.sizeOf34 rfl rfl) ?_
 refine Lst.r (Ev.fieldAddr (off' := 0) rfl Tryz.runUnderlying34 rfl Tryz.sizeOf3 rfl rfl) ?_
 refine Lst.r (Ev.load (i := 4) rfl rfl Tryz.isAgg3 (v := iv a0.view.Num) ((WldR.get_view (View.get_Num gh0)).off (by rfl))) ?_
 refine mv0 rfl ?_
 refine mv0 rfl ?_
 refine Lst.r (Ev.build (v := .agg (enc ({ Note.zero with Kind := a1, From := a2, To := a3, View := a0.view.Num, Seq := a4, Text := a5 } : Note)).toArray) (pv := [(0, iv a1), (1, iv a2), (2, iv a3), (3, iv a0.view.Num), (4, iv a4), (6, Str.v a5)]) ⟨rfl, rfl, ⟨rfl, rfl, ⟨rfl, rfl, ⟨rfl, rfl, ⟨rfl, rfl, ⟨rfl, rfl, trivial⟩⟩⟩⟩⟩⟩ (fun w => by kernel_rfl)) ?_
 obtain ⟨r6, h7, H⟩ := bind_some H
 refine Lst.call1 rfl rfl (by decide) (vs := [.agg (enc ({ Note.zero with Kind := a1, From := a2, To := a3, View := a0.view.Num, Seq := a4, Text := a5 } : Note)).toArray]) ⟨rfl, trivial⟩ Tryz.call113 (wire_Pack_sim h7 w0 _ M _ (sc4 (sc1 hM))) ?_
 refine mv0 rfl ?_
 refine Lst.r (Ev.extract rfl rfl) ?_
 refine Lst.r (Ev.extract rfl rfl) ?_
 refine Lst.r (Ev.assign rfl) ?_
 refine Lst.r (Ev.assign rfl) ?_
 refine nt0 ?_
 refine Cd.seq ?_
 refine Cd.as (e' := [(0, pv b_a0 0), (12, Str.v r6.1), (13, iv r6.2)]) (L' := (.rows (α := Saying) 62 (List.map ProcessR.row rs_a0_1)) :: (.own s_a0_1 100 8 (encs rs_a0_1)) :: (.own s_a0_2 9 1 (encs a0.ordered)) :: (.own s_a0_3 9 1 (encs a0.way)) :: (.blk b_a0 (enc (WldR.mk a0 s_a0_1 s_a0_2 s_a0_3)) 95) :: L) ⟨rfl, rfl, rfl, trivial⟩ rfl ?_
 refine Cd.region ?_
 refine mv0 rfl ?_
 refine Lst.r (Ev.eql rfl rfl) ?_
 refine mv0 rfl ?_
 obtain ⟨o10, H, HKo10⟩ := bind_some H
 refine Lst.join (σ := Bool) 7 (fun y11 => [(0, pv b_a0 0), (12, Str.v r6.1), (38, .bool y11)]) (fun y11 => (.rows (α := Saying) 62 (List.map ProcessR.row rs_a0_1)) :: (.own s_a0_1 100 8 (encs rs_a0_1)) :: (.own s_a0_2 9 1 (encs a0.ordered)) :: (.own s_a0_3 9 1 (encs a0.way)) :: (.blk b_a0 (enc (WldR.mk a0 s_a0_1 s_a0_2 s_a0_3)) 95) :: L) (fun _ y11 => y11 = o10) ?_ ?_
 ·rcases (Bool.eq_false_or_eq_true (r6.2 == (0 : Int))).symm with hb12 | hb12
  ·replace H := ite_f hb12 H
   refine Lst.skip rfl rfl rfl hb12 rfl (by decide) ?_
   refine Lst.skip rfl rfl rfl hb12 rfl (by decide) ?_
   refine Lst.skip rfl rfl rfl hb12 rfl (by decide) ?_
   refine Lst.skip rfl rfl rfl hb12 rfl (by decide) ?_
   refine Lst.skip rfl rfl rfl hb12 rfl (by decide) ?_
   refine Lst.skip rfl rfl rfl hb12 rfl (by decide) ?_
   refine Lst.r (Ev.pickF rfl hb12 rfl) ?_
   refine Lst.nil ?_
   exact At.meet false fl ⟨rfl, rfl, rfl, trivial⟩ rfl (some_inj H)
  replace H := ite_t hb12 H
  refine Lst.rG hb12 (Ev.move rfl) ?_
  refine Lst.rG hb12 (Ev.nilCheck rfl) ?_
  refine Lst.rG hb12 (Ev.fieldAddr (off' := 4) rfl Tryz.runUnderlying95 rfl Tryz.sizeOf43 rfl rfl) ?_
  refine Lst.rG hb12 (Ev.load (i := 4) rfl rfl Tryz.isAgg43 (v := Sl.v s_a0_3) ((WldR.get_way gh0).off (by rfl))) ?_
  refine Lst.rG hb12 (Ev.lenS (α := Str) (xs := a0.way) (by decide) rfl rfl Tryz.runUnderlying43 (rdo 3 rfl rfl rfl)) ?_
  refine Lst.rG hb12 (Ev.lss rfl rfl) ?_
  refine Lst.r (Ev.pickT rfl hb12 rfl) ?_
  refine Lst.nil ?_
  exact At.meet (decide ((a0.way.length : Int) < (60 : Int))) fl ⟨rfl, rfl, rfl, trivial⟩ rfl (some_inj H)
 rintro F13 y11 hF14 hy
 subst hy
 refine Lst.as (e' := [(0, pv b_a0 0), (12, Str.v r6.1), (38, .bool y11)]) (L' := (.rows (α := Saying) 62 (List.map ProcessR.row rs_a0_1)) :: (.own s_a0_1 100 8 (encs rs_a0_1)) :: (.own s_a0_2 9 1 (encs a0.ordered)) :: (.own s_a0_3 9 1 (encs a0.way)) :: (.blk b_a0 (enc (WldR.mk a0 s_a0_1 s_a0_2 s_a0_3)) 95) :: L) ⟨rfl, rfl, rfl, trivial⟩ rfl ?_
 replace H := HKo10
 refine nt0 ?_
 rcases (Bool.eq_false_or_eq_true y11).symm with hb15 | hb15
 ·replace H := ite_f hb15 H
  refine Cd.condF rfl hb15 ?_
  refine Cd.skip ?_
  obtain rfl := some_inj H
  exact At.ret0 (.inr rfl) rfl hF14 (sk1 (sk1 (sk1 (sk1 (sk1 (.refl _)))))) ⟨s_a0_3, rfl, rfl⟩
 replace H := ite_t hb15 H
 refine Cd.condT rfl hb15 ?_
 refine Cd.region ?_
 refine mv0 rfl ?_
 refine mv0 rfl ?_
 refine Lst.r (Ev.nilCheck rfl) ?_
 refine Lst.r (Ev.fieldAddr (off' := 4) rfl Tryz.runUnderlying95 rfl Tryz.sizeOf43 rfl rfl) ?_
 refine Lst.r (Ev.load (i := 4) rfl rfl Tryz.isAgg43 (v := Sl.v s_a0_3) ((WldR.get_way gh0).off (by rfl))) ?_
 refine mv0 rfl ?_
 refine Lst.buildSlice (α := Str) (xs := ([r6.1] : List Str)) (pv := [(0, Str.v r6.1)]) rfl rfl (by decide) ⟨rfl, rfl, trivial⟩ (run_buildSlice (α := Str) (z0 := ([] : Str)) (xs := ([r6.1] : List Str)) Tryz.runUnderlying43 Tryz.sizeOf9 Tryz.zeroValue9 rfl rfl rfl (by decide) rfl (fill_cons (cs := encs (List.replicate 1 ([] : Str))) (cs' := encs ((List.replicate 1 ([] : Str)).set 0 r6.1)) (vs := [Str.v r6.1]) rfl rfl rfl ((Put.elemN (s := 1) (i := 0) (x := ([] : Str)) (y := r6.1) rfl rfl (Put.here (vs := [Str.v r6.1]) rfl)).off rfl) fill_nil)) rfl rfl (by decide) (fun s16 _ => ?_)
 obtain ⟨u18, h19, H⟩ := bind_some H
 refine Lst.append (i := 4) (α := Str) (xs := a0.way) (ys := ([r6.1] : List Str)) rfl rfl (by decide) rfl rfl Tryz.runUnderlying43 Tryz.typeInfo9 rfl rfl rfl rfl rfl rfl (rdo 0 rfl rfl rfl) rfl (room_some h19) rfl (fun s20 => ?_)
 refine Lst.its (L' := (.own s16 9 1 (encs ([r6.1] : List Str))) :: (.rows (α := Saying) 62 (List.map ProcessR.row rs_a0_1)) :: (.own s_a0_1 100 8 (encs rs_a0_1)) :: (.own s_a0_2 9 1 (encs a0.ordered)) :: (.own s20 9 1 (encs (a0.way ++ ([r6.1] : List Str)))) :: (.blk b_a0 (enc (WldR.mk a0 s_a0_1 s_a0_2 s_a0_3)) 95) :: L) rfl ?_
 refine Lst.r (Ev.nilCheck rfl) ?_
 refine Lst.r (Ev.fieldAddr (off' := 4) rfl Tryz.runUnderlying95 rfl Tryz.sizeOf43 rfl rfl) ?_
 refine Lst.store (i := 5) rfl rfl rfl rfl rfl Tryz.sizeOf43 (vs := [Sl.v s20]) rfl rfl rfl (cs' := enc (WldR.mk ({ a0 with way := a0.way ++ ([r6.1] : List Str) } : Wld) s_a0_1 s_a0_2 s20)) ((WldR.put_way (Put.here (vs := [Sl.v s20]) rfl)).off (by rfl)) (L' := (.own s16 9 1 (encs ([r6.1] : List Str))) :: (.rows (α := Saying) 62 (List.map ProcessR.row rs_a0_1)) :: (.own s_a0_1 100 8 (encs rs_a0_1)) :: (.own s_a0_2 9 1 (encs a0.ordered)) :: (.own s20 9 1 (encs (a0.way ++ ([r6.1] : List Str)))) :: (.blk b_a0 (enc (WldR.mk ({ a0 with way := a0.way ++ ([r6.1] : List Str) } : Wld) s_a0_1 s_a0_2 s20)) 95) :: L) rfl ?_
 refine Lst.nil ?_
 obtain rfl := some_inj H
 exact At.ret0 (.inr rfl) rfl hF14 (sc1 (sk1 (sk1 (sk1 (sk1 (sk1 (.refl _))))))) ⟨s20, rfl, rfl⟩
set_option maxRecDepth 20000 in
theorem world_World_Say_sim {a0 : Wld} {a1 : Int} {a2 : Str} {b_a0 : Nat} {s_a0_1 : Sl} {rs_a0_1 : List ProcessR} {s_a0_2 : Sl} {s_a0_3 : Sl} {r : (List Procs) × (List Str) × Wld × Int} (H : world_World_Say a0 a1 a2 = some r) (w0 : World) (F : Frz) (M L : List Item) (hM : M.Sublist L) (hm_a0_1 : rs_a0_1.map ProcessR.v = a0.all) (ha_a0_1 : All ProcessR.frel w0 F [] rs_a0_1) : Ok Tryz.prog w0 31 [pv b_a0 0, iv a1, Str.v a2] F ((.rows (α := Saying) 62 (List.map ProcessR.row rs_a0_1)) :: (.own s_a0_1 100 8 (encs rs_a0_1)) :: (.own s_a0_2 9 1 (encs a0.ordered)) :: (.own s_a0_3 9 1 (encs a0.way)) :: (.blk b_a0 (enc (WldR.mk a0 s_a0_1 s_a0_2 s_a0_3)) 95) :: L) (fun Fx L' v => ∃ (rs6 : List ProcessR) (s9 : Sl), v = iv r.2.2.2 ∧ L' = (.rows (α := Saying) 62 (List.map ProcessR.row rs6)) :: (.own s_a0_1 100 8 (encs rs6)) :: (.own s_a0_2 9 1 (encs a0.ordered)) :: (.own s9 9 1 (encs r.2.1)) :: (.blk b_a0 (enc (WldR.mk ({ r.2.2.1 with all := r.1, ordered := a0.ordered, way := r.2.1 } : Wld) s_a0_1 s_a0_2 s9)) 95) :: L ∧ rs6.map ProcessR.v = r.1 ∧ All ProcessR.frel w0 Fx [] rs6) := by
 unfold world_World_Say at H
 refine Ok.enter (m := 3) (n := 64) Tryz.func31 rfl rfl rfl (by decide) ?_
 refine Cd.env (e' := [(0, pv b_a0 0), (1, iv a1), (2, Str.v a2)]) rfl ?_
 refine sr0 ?_
 refine Lst.r (Ev.assign rfl) ?_
 refine nt0 ?_
 refine Cd.seq ?_
 refine sr0 ?_
 refine mv0 rfl ?_
 refine mv0 rfl ?_
 obtain ⟨r6, h7, H⟩ := bind_some H
 refine Lst.call1 rfl rfl (by decide) (vs := [pv b_a0 0, iv a1]) ⟨rfl, rfl, trivial⟩ Tryz.call59 (world_World_working_sim h7 w0 _ M _ hM hm_a0_1 (All.monoProcessF ha_a0_1 fl (List.nil_sublist _))) ?_
 refine Lst.r (Ev.assign rfl) ?_
 refine nsr ?_
 refine mv0 rfl ?_
 refine Lst.r (Ev.neq rfl rfl) ?_
 refine nt0 ?_
 rcases Bool.eq_false_or_eq_true (r6 != (0 : Int)) with hb10 | hb10
 ·replace H := ite_t hb10 H
  refine Cd.condT rfl hb10 ?_
  refine sr0 ?_
  refine mv0 rfl ?_
  refine Lst.r (Ev.assign rfl) ?_
  refine nt0 ?_
  obtain rfl := some_inj H
  refine Cd.ret ?_
  refine At.then_ret ?_
  exact At.ret1 rfl (Res.tmp rfl) fl (sk1 (sk1 (sk1 (sk1 (sk1 (.refl _)))))) ⟨rs_a0_1, s_a0_3, rfl, rfl, hm_a0_1, (All.monoProcessF ha_a0_1 fl (List.nil_sublist _))⟩
 replace H := ite_f hb10 H
 refine Cd.condF rfl hb10 ?_
 refine Cd.skip ?_
 refine At.then ?_
 refine Cd.seq ?_
 refine Cd.block ?_
 refine sr0 ?_
 refine mv0 rfl ?_
 refine Lst.r (Ev.lenStr rfl rfl Tryz.runUnderlying9) ?_
 refine Lst.r (Ev.gtr rfl rfl) ?_
 refine Lst.r (Ev.assign rfl) ?_
 refine nt0 ?_
 rcases Bool.eq_false_or_eq_true (decide ((a2.length : Int) > (150 : Int))) with hb11 | hb11
 ·replace H := ite_t hb11 H
  refine Cd.condT rfl hb11 ?_
  refine sr0 ?_
  refine Lst.r (Ev.assign rfl) ?_
  refine nt0 ?_
  obtain rfl := some_inj H
  refine Cd.ret ?_
  refine At.in_ret ?_
  refine At.then_ret ?_
  exact At.ret1 rfl (Res.tmp rfl) fl (sk1 (sk1 (sk1 (sk1 (sk1 (.refl _)))))) ⟨rs_a0_1, s_a0_3, rfl, rfl, hm_a0_1, (All.monoProcessF ha_a0_1 fl (List.nil_sublist _))⟩
 replace H := ite_f hb11 H
 refine Cd.condF rfl hb11 ?_
 refine sr0 ?_
 refine mv0 rfl ?_
 refine Lst.r (Ev.nilCheck rfl) ?_
 refine Lst.r (Ev.fieldAddr (off' := 4) rfl Tryz.runUnderlying95 rfl Tryz.sizeOf43 rfl rfl) ?_
 refine Lst.r (Ev.load (i := 4) rfl rfl Tryz.isAgg43 (v := Sl.v s_a0_3) ((WldR.get_way gh0).off (by rfl))) ?_
 refine Lst.r (Ev.lenS (α := Str) (xs := a0.way) (by decide) rfl rfl Tryz.runUnderlying43 (rdo 3 rfl rfl rfl)) ?_
 refine Lst.r (Ev.eql rfl rfl) ?_
 refine Lst.r (Ev.assign rfl) ?_
 refine nt0 ?_
 rcases Bool.eq_false_or_eq_true ((a0.way.length : Int) == (60 : Int)) with hb12 | hb12
 ·replace H := ite_t hb12 H
  refine Cd.condT rfl hb12 ?_
  refine Cd.seq ?_
  refine Cd.as (e' := []) (L' := (.rows (α := Saying) 62 (List.map ProcessR.row rs_a0_1)) :: (.own s_a0_1 100 8 (encs rs_a0_1)) :: (.own s_a0_2 9 1 (encs a0.ordered)) :: (.own s_a0_3 9 1 (encs a0.way)) :: (.blk b_a0 (enc (WldR.mk a0 s_a0_1 s_a0_2 s_a0_3)) 95) :: L) trivial rfl ?_
  refine Cd.region ?_
  refine Lst.r (Ev.assign rfl) ?_
  refine nt0 ?_
  obtain rfl := some_inj H
  refine Cd.ret ?_
  refine At.in_ret ?_
  refine At.then_ret ?_
  exact At.ret1 rfl (Res.tmp rfl) fl (sk1 (sk1 (sk1 (sk1 (sk1 (.refl _)))))) ⟨rs_a0_1, s_a0_3, rfl, rfl, hm_a0_1, (All.monoProcessF ha_a0_1 fl (List.nil_sublist _))⟩
 replace H := ite_f hb12 H
 refine Cd.condF rfl hb12 ?_
 refine Cd.skip ?_
 refine At.in_normal ?_
 refine At.then ?_
 refine Cd.seq ?_
 refine Cd.as (e' := [(0, pv b_a0 0), (1, iv a1), (2, Str.v a2)]) (L' := (.rows (α := Saying) 62 (List.map ProcessR.row rs_a0_1)) :: (.own s_a0_1 100 8 (encs rs_a0_1)) :: (.own s_a0_2 9 1 (encs a0.ordered)) :: (.own s_a0_3 9 1 (encs a0.way)) :: (.blk b_a0 (enc (WldR.mk a0 s_a0_1 s_a0_2 s_a0_3)) 95) :: L) ⟨rfl, rfl, rfl, trivial⟩ rfl ?_
 refine Cd.region ?_
 refine mv0 rfl ?_
 refine Lst.r (Ev.nilCheck rfl) ?_
 refine Lst.r (Ev.fieldAddr (off' := 2) rfl Tryz.runUnderlying95 rfl Tryz.sizeOf93 rfl rfl) ?_
 refine Lst.r (Ev.load (i := 4) rfl rfl Tryz.isAgg93 (v := Sl.v s_a0_1) ((WldR.get_all gh0).off (by rfl))) ?_
 refine mv0 rfl ?_
 obtain ⟨x13, h14, H⟩ := bind_some H
 have g15 := lat_some h14
 obtain ⟨⟨r16v, r16h1, ⟨r16_2v, r16_2h1⟩, ⟨r16_3v, r16_3h1⟩, ⟨r16_4v, r16_4h1⟩⟩, r16g, r16e, r16m⟩ := map_get hm_a0_1 g15.2.2
 obtain rfl : x13 = r16v := r16e.symm
 have r16q : ProcessR.frel w0 _ _ (ProcessR.mk x13 r16h1 (FromR.mk r16_2v r16_2h1) (ToR.mk r16_3v r16_3h1) (ToR.mk r16_4v r16_4h1)) := ha_a0_1 _ r16m
 obtain ⟨r16_i2, r16_i3, r16_i4⟩ := r16q
 obtain ⟨r16_2e, r16_2q⟩ := r16_i2
 obtain rfl : r16_2v = x13.from_ := r16_2e
 have r16_2_f1 : Rd w0 _ _ _ _ := r16_2q
 obtain ⟨r16_3e, r16_3q⟩ := r16_i3
 obtain rfl : r16_3v = x13.to := r16_3e
 have r16_3_f1 : Rd w0 _ _ _ _ := r16_3q
 obtain ⟨r16_4e, r16_4q⟩ := r16_i4
 obtain rfl : r16_4v = x13.orders := r16_4e
 have r16_4_f1 : Rd w0 _ _ _ _ := r16_4q
 have r16wg := map_at ProcessR.row r16g
 refine Lst.r (Ev.indexS (α := ProcessR) (xs := rs_a0_1) rfl rfl Tryz.runUnderlying93 Tryz.sizeOf100 rfl (by decide) (rdo 1 rfl rfl rfl) g15.1 (by have := map_len hm_a0_1; omega)) ?_
 refine Lst.r (Ev.fieldS (α := ProcessR) (f' := a1.toNat * 8 + 2) rfl (rdo 1 rfl rfl rfl) ((Get.elemN (s := 8) rfl r16g gh0).off (by omega)) rfl Tryz.runUnderlying100 rfl Tryz.sizeOf45 rfl rfl rfl) ?_
 refine Lst.r (Ev.loadSA (α := ProcessR) rfl (rdo 1 rfl rfl rfl) Tryz.isAgg45 Tryz.sizeOf45 (ch := enc (FromR.mk x13.from_ r16_2h1)) (Enc.len _) (by decide) ((Get.elemN (s := 8) rfl r16g (ProcessR.get_from_ gh0)).off (by omega))) ?_
 refine mv0 rfl ?_
 obtain ⟨r17, h18, H⟩ := bind_some H
 refine Lst.call rfl rfl (by decide) (vs := [.agg (enc (FromR.mk x13.from_ r16_2h1)).toArray, Str.v a2]) ⟨rfl, rfl, trivial⟩ Tryz.call60 (lane_Put_sim h18 w0 _ M _ (sc4 (sc1 hM)) (r16_2_f1.mono fl (List.nil_sublist _))) (fun F21 L' v hF22 hv => ?_)
 obtain ⟨s19, rfl, rfl⟩ := hv
 refine mv0 rfl ?_
 refine Lst.r (Ev.extract rfl rfl) ?_
 refine Lst.r (Ev.extract rfl rfl) ?_
 refine Lst.addNil 9 1 ?_
 refine Lst.alloc (cs := enc (FromR.mk ({ From.zero with Late := ([] : List Str) } : From) Sl.nil)) rfl rfl (by decide) Tryz.zeroValue45 rfl (fun b24 => ?_)
 refine Lst.store (i := 0) rfl rfl rfl rfl rfl Tryz.sizeOf45 (vs := enc (FromR.mk r17.1 s19)) rfl (Enc.len _) (Enc.one _) (cs' := enc (FromR.mk r17.1 s19)) (Put.here ((Enc.len _).trans (Enc.len _).symm)) (L' := (.blk b24 (enc (FromR.mk r17.1 s19)) 45) :: (.own Sl.nil 9 1 (encs ([] : List Str))) :: (.own s19 9 1 (encs r17.1.Late)) :: (.rows (α := Saying) 62 (List.map ProcessR.row rs_a0_1)) :: (.own s_a0_1 100 8 (encs rs_a0_1)) :: (.own s_a0_2 9 1 (encs a0.ordered)) :: (.own s_a0_3 9 1 (encs a0.way)) :: (.blk b_a0 (enc (WldR.mk a0 s_a0_1 s_a0_2 s_a0_3)) 95) :: L) rfl ?_
 refine Lst.r (Ev.assign rfl) ?_
 refine nt0 ?_
 refine Cd.seq ?_
 refine sr0 ?_
 refine mv0 rfl ?_
 refine Lst.r (Ev.neq rfl rfl) ?_
 refine nt0 ?_
 rcases Bool.eq_false_or_eq_true (r17.2 != (0 : Int)) with hb26 | hb26
 ·replace H := ite_t hb26 H
  refine Cd.condT rfl hb26 ?_
  refine Cd.seq ?_
  refine Cd.as (e' := [(9, iv r17.2)]) (L' := (.blk b24 (enc (FromR.mk r17.1 s19)) 45) :: (.own Sl.nil 9 1 (encs ([] : List Str))) :: (.own s19 9 1 (encs r17.1.Late)) :: (.rows (α := Saying) 62 (List.map ProcessR.row rs_a0_1)) :: (.own s_a0_1 100 8 (encs rs_a0_1)) :: (.own s_a0_2 9 1 (encs a0.ordered)) :: (.own s_a0_3 9 1 (encs a0.way)) :: (.blk b_a0 (enc (WldR.mk a0 s_a0_1 s_a0_2 s_a0_3)) 95) :: L) ⟨rfl, trivial⟩ rfl ?_
  refine Cd.region ?_
  refine mv0 rfl ?_
  refine Lst.r (Ev.assign rfl) ?_
  refine nt0 ?_
  obtain rfl := some_inj H
  refine Cd.ret ?_
  refine At.then_ret ?_
  exact At.ret1 rfl (Res.tmp rfl) hF22 (sc1 (sc1 (sc1 (sk1 (sk1 (sk1 (sk1 (sk1 (.refl _))))))))) ⟨rs_a0_1, s_a0_3, rfl, rfl, hm_a0_1, (All.monoProcessF ha_a0_1 hF22 (List.nil_sublist _))⟩
 replace H := ite_f hb26 H
 refine Cd.condF rfl hb26 ?_
 refine Cd.skip ?_
 refine At.then ?_
 refine Cd.seq ?_
 refine Cd.as (e' := [(0, pv b_a0 0), (1, iv a1), (2, Str.v a2), (8, pv b24 0)]) (L' := (.blk b24 (enc (FromR.mk r17.1 s19)) 45) :: (.own Sl.nil 9 1 (encs ([] : List Str))) :: (.own s19 9 1 (encs r17.1.Late)) :: (.rows (α := Saying) 62 (List.map ProcessR.row rs_a0_1)) :: (.own s_a0_1 100 8 (encs rs_a0_1)) :: (.own s_a0_2 9 1 (encs a0.ordered)) :: (.own s_a0_3 9 1 (encs a0.way)) :: (.blk b_a0 (enc (WldR.mk a0 s_a0_1 s_a0_2 s_a0_3)) 95) :: L) ⟨rfl, rfl, rfl, rfl, trivial⟩ rfl ?_
 refine Cd.tail 8 (by kernel_rfl) (by kernel_rfl) ?_
 refine Qt.r (Ev.move rfl) ?_
 refine Qt.r (Ev.nilCheck rfl) ?_
 refine Qt.r (Ev.fieldAddr (off' := 2) rfl Tryz.runUnderlying95 rfl Tryz.sizeOf93 rfl rfl) ?_
 refine Qt.r (Ev.load (i := 7) rfl rfl Tryz.isAgg93 (v := Sl.v s_a0_1) ((WldR.get_all gh0).off (by rfl))) ?_
 refine Qt.r (Ev.move rfl) ?_
 refine Qt.r (Ev.loadA (i := 0) rfl rfl Tryz.isAgg45 Tryz.sizeOf45 (ch := enc (FromR.mk r17.1 s19)) (Enc.len _) gh0) ?_
 obtain ⟨x27, h28, H⟩ := bind_some H
 have g29 := lat_some h28
 obtain ⟨⟨r30v, r30h1, ⟨r30_2v, r30_2h1⟩, ⟨r30_3v, r30_3h1⟩, ⟨r30_4v, r30_4h1⟩⟩, r30g, r30e, r30m⟩ := map_get hm_a0_1 g29.2.2
 obtain rfl : x27 = r30v := r30e.symm
 have r30q : ProcessR.frel w0 _ _ (ProcessR.mk x27 r30h1 (FromR.mk r30_2v r30_2h1) (ToR.mk r30_3v r30_3h1) (ToR.mk r30_4v r30_4h1)) := ha_a0_1 _ r30m
 obtain ⟨r30_i2, r30_i3, r30_i4⟩ := r30q
 obtain ⟨r30_2e, r30_2q⟩ := r30_i2
 obtain rfl : r30_2v = x27.from_ := r30_2e
 have r30_2_f1 : Rd w0 _ _ _ _ := r30_2q
 obtain ⟨r30_3e, r30_3q⟩ := r30_i3
 obtain rfl : r30_3v = x27.to := r30_3e
 have r30_3_f1 : Rd w0 _ _ _ _ := r30_3q
 obtain ⟨r30_4e, r30_4q⟩ := r30_i4
 obtain rfl : r30_4v = x27.orders := r30_4e
 have r30_4_f1 : Rd w0 _ _ _ _ := r30_4q
 have r30wg := map_at ProcessR.row r30g
 refine Qt.r (Ev.indexS (α := ProcessR) (xs := rs_a0_1) rfl rfl Tryz.runUnderlying93 Tryz.sizeOf100 rfl (by decide) (rdo 4 rfl rfl rfl) g29.1 (by have := map_len hm_a0_1; omega)) ?_
 refine Qt.r (Ev.fieldS (α := ProcessR) (f' := a1.toNat * 8 + 2) rfl (rdo 4 rfl rfl rfl) ((Get.elemN (s := 8) rfl r30g gh0).off (by omega)) rfl Tryz.runUnderlying100 rfl Tryz.sizeOf45 rfl rfl rfl) ?_
 refine Qt.tail ?_
 obtain ⟨p35, h36, H⟩ := Let_some H
 have hm37 : (rs_a0_1.set a1.toNat (ProcessR.mk ({ x27 with from_ := r17.1 } : Procs) r30h1 (FromR.mk r17.1 s19) (ToR.mk x27.to r30_3h1) (ToR.mk x27.orders r30_4h1))).map ProcessR.v = p35 := (map_set hm_a0_1 _ _).trans h36
 refine Lst.freeze (i := 2) rfl (fun F31 hF32 hz33 => ?_)
 have hq34 : Rd w0 F31 [] s19 r17.1.Late := Rd.frozen hz33 rfl rfl
 refine Lst.its (L' := (.blk b24 (enc (FromR.mk r17.1 s19)) 45) :: (.own Sl.nil 9 1 (encs ([] : List Str))) :: (.rows (α := Saying) 62 (List.map ProcessR.row rs_a0_1)) :: (.own s_a0_1 100 8 (encs rs_a0_1)) :: (.own s_a0_2 9 1 (encs a0.ordered)) :: (.own s_a0_3 9 1 (encs a0.way)) :: (.blk b_a0 (enc (WldR.mk a0 s_a0_1 s_a0_2 s_a0_3)) 95) :: L) rfl ?_
 have ha38 : All ProcessR.frel w0 F31 [] (rs_a0_1.set a1.toNat (ProcessR.mk ({ x27 with from_ := r17.1 } : Procs) r30h1 (FromR.mk r17.1 s19) (ToR.mk x27.to r30_3h1) (ToR.mk x27.orders r30_4h1))) := All.set (All.monoProcessF ha_a0_1 (FLe.trans hF22 hF32) (List.nil_sublist _)) (⟨⟨rfl, (hq34.mono fl (List.nil_sublist _))⟩, ⟨rfl, (r30_3_f1.mono (FLe.trans hF22 hF32) (List.nil_sublist _))⟩, ⟨rfl, (r30_4_f1.mono (FLe.trans hF22 hF32) (List.nil_sublist _))⟩⟩)
 refine Lst.storeS (i := 3) rfl rfl rfl rfl rfl Tryz.sizeOf45 (vs := enc (FromR.mk r17.1 s19)) rfl (Enc.len _) (by decide) (Enc.one _) (xs' := encs (rs_a0_1.set a1.toNat (ProcessR.mk ({ x27 with from_ := r17.1 } : Procs) r30h1 (FromR.mk r17.1 s19) (ToR.mk x27.to r30_3h1) (ToR.mk x27.orders r30_4h1)))) ((Put.elemN (s := 8) (x := (ProcessR.mk x27 r30h1 (FromR.mk x27.from_ r30_2h1) (ToR.mk x27.to r30_3h1) (ToR.mk x27.orders r30_4h1))) (y := (ProcessR.mk ({ x27 with from_ := r17.1 } : Procs) r30h1 (FromR.mk r17.1 s19) (ToR.mk x27.to r30_3h1) (ToR.mk x27.orders r30_4h1))) rfl r30g (ProcessR.put_from_ (p := (ProcessR.mk x27 r30h1 (FromR.mk x27.from_ r30_2h1) (ToR.mk x27.to r30_3h1) (ToR.mk x27.orders r30_4h1))) (l := r17.1) (Put.here ((Enc.len _).trans (Enc.len _).symm)))).off (by omega)) (L' := (.blk b24 (enc (FromR.mk r17.1 s19)) 45) :: (.own Sl.nil 9 1 (encs ([] : List Str))) :: (.rows (α := Saying) 62 (List.map ProcessR.row rs_a0_1)) :: (.own s_a0_1 100 8 (encs (rs_a0_1.set a1.toNat (ProcessR.mk ({ x27 with from_ := r17.1 } : Procs) r30h1 (FromR.mk r17.1 s19) (ToR.mk x27.to r30_3h1) (ToR.mk x27.orders r30_4h1))))) :: (.own s_a0_2 9 1 (encs a0.ordered)) :: (.own s_a0_3 9 1 (encs a0.way)) :: (.blk b_a0 (enc (WldR.mk ({ a0 with all := p35 } : Wld) s_a0_1 s_a0_2 s_a0_3)) 95) :: L) rfl ?_
 refine Lst.its (L' := (.blk b24 (enc (FromR.mk r17.1 s19)) 45) :: (.own Sl.nil 9 1 (encs ([] : List Str))) :: (.rows (α := Saying) 62 (List.map ProcessR.row (rs_a0_1.set a1.toNat (ProcessR.mk ({ x27 with from_ := r17.1 } : Procs) r30h1 (FromR.mk r17.1 s19) (ToR.mk x27.to r30_3h1) (ToR.mk x27.orders r30_4h1))))) :: (.own s_a0_1 100 8 (encs (rs_a0_1.set a1.toNat (ProcessR.mk ({ x27 with from_ := r17.1 } : Procs) r30h1 (FromR.mk r17.1 s19) (ToR.mk x27.to r30_3h1) (ToR.mk x27.orders r30_4h1))))) :: (.own s_a0_2 9 1 (encs a0.ordered)) :: (.own s_a0_3 9 1 (encs a0.way)) :: (.blk b_a0 (enc (WldR.mk ({ a0 with all := p35 } : Wld) s_a0_1 s_a0_2 s_a0_3)) 95) :: L) (by rw [map_set_same (y := (ProcessR.mk ({ x27 with from_ := r17.1 } : Procs) r30h1 (FromR.mk r17.1 s19) (ToR.mk x27.to r30_3h1) (ToR.mk x27.orders r30_4h1))) r30g rfl]) ?_
 refine nt0 ?_
 refine Cd.seq ?_
 refine Cd.tail 12 (by kernel_rfl) (by kernel_rfl) ?_
 refine Qt.r (Ev.move rfl) ?_
 refine Qt.r (Ev.move rfl) ?_
 refine Qt.r (Ev.move rfl) ?_
 obtain ⟨r39, h40, H⟩ := bind_some H
 refine Qt.call rfl rfl (by decide) (vs := [pv b_a0 0]) ⟨rfl, trivial⟩ Tryz.call62 (Ok.isPerm (List.Perm.trans (front_perm (i := 6) rfl) (List.Perm.trans (front_perm (i := 6) rfl) (List.Perm.trans (front_perm (i := 6) rfl) (List.Perm.trans (front_perm (i := 6) rfl) (front_perm (i := 6) rfl))))) (world_World_sequencer_sim h40 w0 _ M _ (sc2 hM) hm37 (All.monoProcessF ha38 fl (List.nil_sublist _)))) ?_
 refine Qt.r (Ev.fieldAddr (off' := 0) rfl Tryz.runUnderlying45 rfl Tryz.sizeOf3 rfl rfl) ?_
 refine Qt.r (Ev.load (i := 0) rfl rfl Tryz.isAgg3 (v := iv r17.1.Base) ((FromR.get_Base gh0).off (by rfl))) ?_
 refine Qt.r (Ev.fieldAddr (off' := 1) rfl Tryz.runUnderlying45 rfl Tryz.sizeOf43 rfl rfl) ?_
 refine Qt.r (Ev.load (i := 0) rfl rfl Tryz.isAgg43 (v := Sl.v s19) ((FromR.get_Late gh0).off (by rfl))) ?_
 refine Qt.r (Ev.lenS (α := Str) (xs := r17.1.Late) (by decide) rfl rfl Tryz.runUnderlying43 (hq34.mono fl (List.nil_sublist _))) ?_
 refine Qt.r (Ev.add rfl rfl) ?_
 refine Qt.r (Ev.sub rfl rfl) ?_
 refine Qt.r (Ev.move rfl) ?_
 refine Qt.tail ?_
 obtain ⟨r43, h44, H⟩ := bind_some H
 refine Lst.front (i := 6) rfl rfl ?_
 refine Lst.front (i := 6) rfl rfl ?_
 refine Lst.front (i := 6) rfl (L' := (.own s_a0_2 9 1 (encs a0.ordered)) :: (.own s_a0_3 9 1 (encs a0.way)) :: (.blk b_a0 (enc (WldR.mk ({ a0 with all := p35 } : Wld) s_a0_1 s_a0_2 s_a0_3)) 95) :: (.blk b24 (enc (FromR.mk r17.1 s19)) 45) :: (.own Sl.nil 9 1 (encs ([] : List Str))) :: (.rows (α := Saying) 62 (List.map ProcessR.row (rs_a0_1.set a1.toNat (ProcessR.mk ({ x27 with from_ := r17.1 } : Procs) r30h1 (FromR.mk r17.1 s19) (ToR.mk x27.to r30_3h1) (ToR.mk x27.orders r30_4h1))))) :: (.own s_a0_1 100 8 (encs (rs_a0_1.set a1.toNat (ProcessR.mk ({ x27 with from_ := r17.1 } : Procs) r30h1 (FromR.mk r17.1 s19) (ToR.mk x27.to r30_3h1) (ToR.mk x27.orders r30_4h1))))) :: L) rfl ?_
 refine Lst.front (i := 6) rfl rfl ?_
 refine Lst.front (i := 6) rfl (L' := (.rows (α := Saying) 62 (List.map ProcessR.row (rs_a0_1.set a1.toNat (ProcessR.mk ({ x27 with from_ := r17.1 } : Procs) r30h1 (FromR.mk r17.1 s19) (ToR.mk x27.to r30_3h1) (ToR.mk x27.orders r30_4h1))))) :: (.own s_a0_1 100 8 (encs (rs_a0_1.set a1.toNat (ProcessR.mk ({ x27 with from_ := r17.1 } : Procs) r30h1 (FromR.mk r17.1 s19) (ToR.mk x27.to r30_3h1) (ToR.mk x27.orders r30_4h1))))) :: (.own s_a0_2 9 1 (encs a0.ordered)) :: (.own s_a0_3 9 1 (encs a0.way)) :: (.blk b_a0 (enc (WldR.mk ({ a0 with all := p35 } : Wld) s_a0_1 s_a0_2 s_a0_3)) 95) :: (.blk b24 (enc (FromR.mk r17.1 s19)) 45) :: (.own Sl.nil 9 1 (encs ([] : List Str))) :: L) rfl ?_
 refine Lst.call rfl rfl (by decide) (vs := [pv b_a0 0, iv (1 : Int), iv a1, iv r39, iv (w64 ((w64 (r17.1.Base + (r17.1.Late.length : Int))) - (1 : Int))), Str.v a2]) ⟨rfl, rfl, rfl, rfl, rfl, rfl, trivial⟩ Tryz.call61 (world_World_send_sim h44 w0 _ M _ (sc2 hM) hm37 (All.monoProcessF ha38 fl (List.nil_sublist _))) (fun F46 L' v hF47 hv => ?_)
 obtain ⟨s45, rfl, rfl⟩ := hv
 refine nt0 ?_
 refine Cd.seq ?_
 refine Cd.as (e' := []) (L' := (.rows (α := Saying) 62 (List.map ProcessR.row (rs_a0_1.set a1.toNat (ProcessR.mk ({ x27 with from_ := r17.1 } : Procs) r30h1 (FromR.mk r17.1 s19) (ToR.mk x27.to r30_3h1) (ToR.mk x27.orders r30_4h1))))) :: (.own s_a0_1 100 8 (encs (rs_a0_1.set a1.toNat (ProcessR.mk ({ x27 with from_ := r17.1 } : Procs) r30h1 (FromR.mk r17.1 s19) (ToR.mk x27.to r30_3h1) (ToR.mk x27.orders r30_4h1))))) :: (.own s_a0_2 9 1 (encs a0.ordered)) :: (.own s45 9 1 (encs r43.1)) :: (.blk b_a0 (enc (WldR.mk ({ r43.2 with all := p35, ordered := a0.ordered, way := r43.1 } : Wld) s_a0_1 s_a0_2 s45)) 95) :: (.blk b24 (enc (FromR.mk r17.1 s19)) 45) :: (.own Sl.nil 9 1 (encs ([] : List Str))) :: L) trivial rfl ?_
 refine Cd.region ?_
 refine Lst.r (Ev.assign rfl) ?_
 refine nt0 ?_
 obtain rfl := some_inj H
 refine Cd.ret ?_
 exact At.ret1 rfl (Res.tmp rfl) (FLe.trans (FLe.trans hF22 hF32) hF47) (sk1 (sk1 (sk1 (sk1 (sk1 (sc1 (sc1 (.refl _)))))))) ⟨(rs_a0_1.set a1.toNat (ProcessR.mk ({ x27 with from_ := r17.1 } : Procs) r30h1 (FromR.mk r17.1 s19) (ToR.mk x27.to r30_3h1) (ToR.mk x27.orders r30_4h1))), s45, rfl, rfl, hm37, (All.monoProcessF ha38 hF47 (List.nil_sublist _))⟩
set_option maxRecDepth 20000 in
theorem world_World_Way_sim {a0 : Wld} {b_a0 : Nat} {s_a0_1 : Sl} {rs_a0_1 : List ProcessR} {s_a0_2 : Sl} {s_a0_3 : Sl} {r : Int} (H : world_World_Way a0 = some r) (w0 : World) (F : Frz) (M L : List Item) (hM : M.Sublist L) (hm_a0_1 : rs_a0_1.map ProcessR.v = a0.all) (ha_a0_1 : All ProcessR.frel w0 F [] rs_a0_1) : Ok Tryz.prog w0 14 [pv b_a0 0] F ((.rows (α := Saying) 62 (List.map ProcessR.row rs_a0_1)) :: (.own s_a0_1 100 8 (encs rs_a0_1)) :: (.own s_a0_2 9 1 (encs a0.ordered)) :: (.own s_a0_3 9 1 (encs a0.way)) :: (.blk b_a0 (enc (WldR.mk a0 s_a0_1 s_a0_2 s_a0_3)) 95) :: L) (Is (iv r) ((.rows (α := Saying) 62 (List.map ProcessR.row rs_a0_1)) :: (.own s_a0_1 100 8 (encs rs_a0_1)) :: (.own s_a0_2 9 1 (encs a0.ordered)) :: (.own s_a0_3 9 1 (encs a0.way)) :: (.blk b_a0 (enc (WldR.mk a0 s_a0_1 s_a0_2 s_a0_3)) 95) :: L)) := by
 unfold world_World_Way at H
 refine Ok.enter (m := 1) (n := 8) Tryz.func14 rfl rfl rfl (by decide) ?_
 refine Cd.env (e' := [(0, pv b_a0 0)]) rfl ?_
 refine sr0 ?_
 refine Lst.r (Ev.assign rfl) ?_
 refine nsr ?_
 refine mv0 rfl ?_
 refine Lst.r (Ev.nilCheck rfl) ?_
 refine Lst.r (Ev.fieldAddr (off' := 4) rfl Tryz.runUnderlying95 rfl Tryz.sizeOf43 rfl rfl) ?_
 refine Lst.r (Ev.load (i := 4) rfl rfl Tryz.isAgg43 (v := Sl.v s_a0_3) ((WldR.get_way gh0).off (by rfl))) ?_
 refine Lst.r (Ev.lenS (α := Str) (xs := a0.way) (by decide) rfl rfl Tryz.runUnderlying43 (rdo 3 rfl rfl rfl)) ?_
 refine Lst.r (Ev.assign rfl) ?_
 refine nt0 ?_
 obtain rfl := some_inj H
 refine Cd.ret ?_
 exact At.ret1 rfl (Res.tmp rfl) fl (sk1 (sk1 (sk1 (sk1 (sk1 (.refl _)))))) ⟨rfl, rfl⟩
set_option maxRecDepth 20000 in
theorem slices_Delete_string_string_sim {a0 : List Str} {a1 : Int} {a2 : Int} {s_a0 : Sl} {r : (List Str)} (H : slices_Delete_string_string a0 a1 a2 = some r) (w0 : World) (F : Frz) (M L : List Item) (hM : M.Sublist L) : Ok Tryz.prog w0 63 [Sl.v s_a0, iv a1, iv a2] F ((.own s_a0 9 1 (encs a0)) :: L) (fun _ L' v => ∃ (s2 : Sl), v = Sl.v s2 ∧ L' = (.own s2 9 1 (encs r)) :: L) := by
 unfold slices_Delete_string_string at H
 refine Ok.enter (m := 3) (n := 33) Tryz.func63 rfl rfl rfl (by decide) ?_
 refine Cd.env (e' := [(0, Sl.v s_a0), (1, iv a1), (2, iv a2)]) rfl ?_
 refine sr0 ?_
 refine Lst.addNil 9 1 ?_
 refine Lst.r (Ev.assign rfl) ?_
 refine nsr ?_
 refine mv0 rfl ?_
 refine mv0 rfl ?_
 refine mv0 rfl ?_
 refine mv0 rfl ?_
 refine Lst.r (Ev.lenS (α := Str) (xs := a0) (by decide) rfl rfl Tryz.runUnderlying43 (rdo 1 rfl rfl rfl)) ?_
 obtain ⟨m3, h4, H⟩ := bind_some H
 have g5 := cutL_some h4
 refine Lst.capOwn (α := Str) (i := 1) (xs := a0) rfl rfl rfl (by decide) (fun hl6 hc7 => ?_)
 refine Lst.r (Ev.cut3 (i := a1) (j := a2) (k := (a0.length : Int)) rfl rfl rfl rfl Tryz.runUnderlying43 Tryz.sizeOf9 g5.1.1 g5.1.2.1 g5.1.2.2 (Int.ofNat_le.2 hc7)) ?_
 refine nt0 ?_
 refine Cd.seq ?_
 refine sr0 ?_
 refine mv0 rfl ?_
 refine mv0 rfl ?_
 refine Lst.r (Ev.eql rfl rfl) ?_
 refine nt0 ?_
 rcases Bool.eq_false_or_eq_true (a1 == a2) with hb8 | hb8
 ·replace H := ite_t hb8 H
  refine Cd.condT rfl hb8 ?_
  refine sr0 ?_
  refine mv0 rfl ?_
  refine Lst.r (Ev.assign rfl) ?_
  refine nt0 ?_
  obtain rfl := some_inj H
  refine Cd.ret ?_
  refine At.then_ret ?_
  exact At.ret1 rfl (Res.tmp rfl) fl (sc1 (sk1 (.refl _))) ⟨s_a0, rfl, rfl⟩
 replace H := ite_f hb8 H
 refine Cd.condF rfl hb8 ?_
 refine Cd.skip ?_
 refine At.then ?_
 refine sr0 ?_
 refine mv0 rfl ?_
 refine Lst.r (Ev.lenS (α := Str) (xs := a0) (by decide) rfl rfl Tryz.runUnderlying43 (rdo 1 rfl rfl rfl)) ?_
 refine Lst.r (Ev.assign rfl) ?_
 refine nt0 ?_
 refine Cd.seq ?_
 refine Cd.tail 6 (by kernel_rfl) (by kernel_rfl) ?_
 refine Qt.r (Ev.move rfl) ?_
 refine Qt.r (Ev.move rfl) ?_
 obtain ⟨m9, h10, H⟩ := bind_some H
 obtain ⟨g11, gl12⟩ := cutL_some h10
 try dsimp only at g11
 refine Qt.r (Ev.cut (α := Str) (xs := a0) (i := 0) (j := a1) rfl rfl rfl Tryz.runUnderlying43 Tryz.sizeOf9 rfl (by decide) (rdo 1 rfl rfl rfl) g11.1 g11.2.1 g11.2.2) ?_
 refine Qt.r (Ev.move rfl) ?_
 refine Qt.r (Ev.move rfl) ?_
 obtain ⟨m13, h14, H⟩ := bind_some H
 obtain ⟨g15, gl16⟩ := cutL_some h14
 try dsimp only at g15
 refine Qt.r (Ev.cut (α := Str) (xs := a0) (i := a2) (j := (a0.length : Int)) rfl rfl rfl Tryz.runUnderlying43 Tryz.sizeOf9 rfl (by decide) (rdo 1 rfl rfl rfl) g15.1 g15.2.1 g15.2.2) ?_
 refine Qt.tail ?_
 refine Lst.capOwn (α := Str) (i := 1) (xs := a0) rfl rfl rfl (by decide) (fun hl17 hc18 => ?_)
 refine Lst.shift (α := Str) (k := 1) (i := (a1 : Int).toNat) (j := (a2 : Int).toNat) (xs := a0) rfl rfl (by decide) rfl rfl Tryz.runUnderlying43 Tryz.typeInfo9 rfl rfl (by decide) rfl rfl (by omega) (by omega) ?_
 refine Lst.its (L' := (.own Sl.nil 9 1 (encs ([] : List Str))) :: (.own (Sl.mk (Sl.a s_a0) ((a1 : Int).toNat + (a0.length - (a2 : Int).toNat)) (Sl.cap s_a0)) 9 1 (encs (a0.take ((a1 : Int).toNat) ++ a0.drop ((a2 : Int).toNat)))) :: L) rfl ?_
 refine Lst.r (Ev.assign rfl) ?_
 refine nt0 ?_
 refine Cd.seq ?_
 refine Cd.as (e' := [(7, iv (a0.length : Int)), (0, Sl.v (Sl.mk (Sl.a s_a0) ((a1 : Int).toNat + (a0.length - (a2 : Int).toNat)) (Sl.cap s_a0)))]) (L' := (.own Sl.nil 9 1 (encs ([] : List Str))) :: (.own (Sl.mk (Sl.a s_a0) ((a1 : Int).toNat + (a0.length - (a2 : Int).toNat)) (Sl.cap s_a0)) 9 1 (encs (a0.take ((a1 : Int).toNat) ++ a0.drop ((a2 : Int).toNat)))) :: L) ⟨rfl, rfl, trivial⟩ rfl ?_
 refine Cd.region ?_
 refine mv0 rfl ?_
 refine mv0 rfl ?_
 refine Lst.r (Ev.lenS (α := Str) (xs := (a0.take ((a1 : Int).toNat) ++ a0.drop ((a2 : Int).toNat))) (by decide) rfl rfl Tryz.runUnderlying43 (rdo 1 rfl rfl rfl)) ?_
 refine mv0 rfl ?_
 refine Lst.r (Ev.cutBeyond (i := ((a0.take ((a1 : Int).toNat) ++ a0.drop ((a2 : Int).toNat)).length : Int)) (j := (a0.length : Int)) rfl rfl rfl Tryz.runUnderlying43 Tryz.sizeOf9 (Int.natCast_nonneg _) (Int.ofNat_le.2 (shift_len (by omega) (by omega))) (Int.ofNat_le.2 hc18)) ?_
 refine Lst.clearBehind (α := Str) (k := 1) (xs := (a0.take ((a1 : Int).toNat) ++ a0.drop ((a2 : Int).toNat))) rfl rfl rfl Tryz.runUnderlying43 Tryz.zeroValue9 ([] : Str) rfl rfl (by decide) rfl rfl (Nat.le_refl _) hc18 ?_
 refine nsr ?_
 refine mv0 rfl ?_
 refine Lst.r (Ev.assign rfl) ?_
 refine nt0 ?_
 obtain rfl := some_inj H
 refine Cd.ret ?_
 exact At.ret1 rfl (Res.tmp rfl) fl (sc1 (sk1 (.refl _))) ⟨(Sl.mk (Sl.a s_a0) ((a1 : Int).toNat + (a0.length - (a2 : Int).toNat)) (Sl.cap s_a0)), rfl, rfl⟩
set_option maxRecDepth 20000 in
theorem wire_Read_1_sim {a0 : Int} {a1 : Str} {b_a1 : Nat} {r : Int} (H : wire_Read_1 a0 a1 = some r) (w0 : World) (F : Frz) (M L : List Item) (hM : M.Sublist L) : Ok Tryz.prog w0 117 [iv a0, pv b_a1 0] F ((.blk b_a1 (enc a1) 9) :: L) (Is (iv r) ((.blk b_a1 (enc a1) 9) :: L)) := by
 unfold wire_Read_1 at H
 refine Ok.enter (m := 2) (n := 26) Tryz.func117 rfl rfl rfl (by decide) ?_
 refine Cd.env (e' := [(0, iv a0), (1, pv b_a1 0)]) rfl ?_
 refine sr0 ?_
 refine Lst.r (Ev.assign rfl) ?_
 refine nsr ?_
 refine mv0 rfl ?_
 refine Lst.r (Ev.mul rfl rfl) ?_
 refine Lst.r (Ev.add rfl rfl) ?_
 refine Lst.r (Ev.assign rfl) ?_
 refine nt0 ?_
 refine Cd.seq ?_
 refine Cd.quiet (by kernel_rfl) (by kernel_rfl) ?_
 refine Qt.r (Ev.load (i := 0) rfl rfl Tryz.isAgg9 (v := Str.v a1) gh0) ?_
 refine Qt.r (Ev.move rfl) ?_
 obtain ⟨x2, h3, H⟩ := bind_some H
 refine Qt.r (Ev.indexStr rfl rfl Tryz.runUnderlying9 h3) ?_
 refine Qt.r (Ev.convIS (j := (x2.toBitVec.toNat : Int)) rfl Tryz.runUnderlying5 Tryz.runUnderlying3 (w64_id (by omega) (by omega))) ?_
 refine Qt.r (Ev.load (i := 0) rfl rfl Tryz.isAgg9 (v := Str.v a1) gh0) ?_
 refine Qt.r (Ev.move rfl) ?_
 refine Qt.r (Ev.add rfl rfl) ?_
 obtain ⟨x4, h5, H⟩ := bind_some H
 refine Qt.r (Ev.indexStr rfl rfl Tryz.runUnderlying9 h5) ?_
 refine Qt.r (Ev.convIS (j := (x4.toBitVec.toNat : Int)) rfl Tryz.runUnderlying5 Tryz.runUnderlying3 (w64_id (by omega) (by omega))) ?_
 refine Qt.r (Ev.shl64 (i := (x4.toBitVec.toNat : Int)) (m := 8) rfl rfl) ?_
 refine Qt.r (Ev.orI (i := (x2.toBitVec.toNat : Int)) (j := w64 ((x4.toBitVec.toNat : Int) * 2 ^ (min 8 64))) rfl rfl) ?_
 refine Qt.r (Ev.load (i := 0) rfl rfl Tryz.isAgg9 (v := Str.v a1) gh0) ?_
 refine Qt.r (Ev.move rfl) ?_
 refine Qt.r (Ev.add rfl rfl) ?_
 obtain ⟨x6, h7, H⟩ := bind_some H
 refine Qt.r (Ev.indexStr rfl rfl Tryz.runUnderlying9 h7) ?_
 refine Qt.r (Ev.convIS (j := (x6.toBitVec.toNat : Int)) rfl Tryz.runUnderlying5 Tryz.runUnderlying3 (w64_id (by omega) (by omega))) ?_
 refine Qt.r (Ev.shl64 (i := (x6.toBitVec.toNat : Int)) (m := 16) rfl rfl) ?_
 refine Qt.r (Ev.orI (i := w64 ((BitVec.ofInt 64 (x2.toBitVec.toNat : Int) ||| BitVec.ofInt 64 (w64 ((x4.toBitVec.toNat : Int) * 2 ^ (min 8 64)))).toNat : Int)) (j := w64 ((x6.toBitVec.toNat : Int) * 2 ^ (min 16 64))) rfl rfl) ?_
 refine Qt.r (Ev.assign rfl) ?_
 refine Qt.done ?_
 refine At.then ?_
 obtain rfl := some_inj H
 refine Cd.ret ?_
 exact At.ret1 rfl (Res.tmp rfl) fl (sk1 (.refl _)) ⟨rfl, rfl⟩
set_option maxRecDepth 20000 in
theorem wire_Read_sim {a0 : Str} {r : Note × Int} (H : wire_Read a0 = some r) (w0 : World) (F : Frz) (M L : List Item) (hM : M.Sublist L) : Ok Tryz.prog w0 64 [Str.v a0] F (L) (Is (.tuple #[.agg (enc r.1).toArray, iv r.2]) (L)) := by
 unfold wire_Read at H
 refine Ok.enter (m := 1) (n := 72) Tryz.func64 rfl rfl rfl (by decide) ?_
 refine Cd.env (e' := [(0, Str.v a0)]) rfl ?_
 refine sr0 ?_
 refine Lst.alloc (cs := enc Note.zero) rfl rfl (by decide) Tryz.zeroValue132 rfl (fun b1 => ?_)
 refine Lst.r (Ev.assign rfl) ?_
 refine nt0 ?_
 refine Cd.seq ?_
 refine Cd.block ?_
 refine sr0 ?_
 refine mv0 rfl ?_
 refine Lst.r (Ev.lenStr rfl rfl Tryz.runUnderlying9) ?_
 refine Lst.r (Ev.gtr rfl rfl) ?_
 refine Lst.r (Ev.assign rfl) ?_
 refine nt0 ?_
 rcases Bool.eq_false_or_eq_true (decide ((a0.length : Int) > (231 : Int))) with hb3 | hb3
 ·replace H := ite_t hb3 H
  refine Cd.condT rfl hb3 ?_
  refine sr0 ?_
  refine Lst.r (Ev.build (v := .agg (enc Note.zero).toArray) (pv := []) trivial (fun w => by kernel_rfl)) ?_
  refine Lst.store (i := 0) rfl rfl rfl rfl rfl Tryz.sizeOf132 (vs := enc Note.zero) rfl (Enc.len _) (Enc.one _) (cs' := enc Note.zero) (Put.here ((Enc.len _).trans (Enc.len _).symm)) (L' := (.blk b1 (enc Note.zero) 132) :: L) rfl ?_
  refine Lst.r (Ev.assign rfl) ?_
  refine nt0 ?_
  obtain rfl := some_inj H
  refine Cd.ret ?_
  refine At.in_ret ?_
  refine At.then_ret ?_
  exact At.ret2 rfl (Res.cellA (i := 0) rfl rfl Tryz.isAgg132 Tryz.sizeOf132 (Enc.len _)) (Res.tmp rfl) fl (sc1 (.refl _)) ⟨rfl, rfl⟩
 replace H := ite_f hb3 H
 refine Cd.condF rfl hb3 ?_
 refine sr0 ?_
 refine mv0 rfl ?_
 refine Lst.r (Ev.lenStr rfl rfl Tryz.runUnderlying9) ?_
 refine Lst.r (Ev.lss rfl rfl) ?_
 refine Lst.r (Ev.assign rfl) ?_
 refine nt0 ?_
 rcases Bool.eq_false_or_eq_true (decide ((a0.length : Int) < (31 : Int))) with hb4 | hb4
 ·replace H := ite_t hb4 H
  refine Cd.condT rfl hb4 ?_
  refine sr0 ?_
  refine Lst.r (Ev.build (v := .agg (enc Note.zero).toArray) (pv := []) trivial (fun w => by kernel_rfl)) ?_
  refine Lst.store (i := 0) rfl rfl rfl rfl rfl Tryz.sizeOf132 (vs := enc Note.zero) rfl (Enc.len _) (Enc.one _) (cs' := enc Note.zero) (Put.here ((Enc.len _).trans (Enc.len _).symm)) (L' := (.blk b1 (enc Note.zero) 132) :: L) rfl ?_
  refine Lst.r (Ev.assign rfl) ?_
  refine nt0 ?_
  obtain rfl := some_inj H
  refine Cd.ret ?_
  refine At.in_ret ?_
  refine At.then_ret ?_
  exact At.ret2 rfl (Res.cellA (i := 0) rfl rfl Tryz.isAgg132 Tryz.sizeOf132 (Enc.len _)) (Res.tmp rfl) fl (sc1 (.refl _)) ⟨rfl, rfl⟩
 replace H := ite_f hb4 H
 refine Cd.condF rfl hb4 ?_
 refine Cd.skip ?_
 refine At.in_normal ?_
 refine At.then ?_
 refine Cd.seq ?_
 obtain ⟨m5, h6, H⟩ := bind_some H
 obtain ⟨m7, h8, H⟩ := bind_some H
 refine Cd.headMeet (σ := Nat) 12 (fun b12 => [(2, pv b1 0), (4, pv b12 0), (29, Str.v m7)]) (fun b12 => (.blk b12 (enc m5) 9) :: (.blk b1 (enc Note.zero) 132) :: L) (fun _ b12 => True) (by kernel_rfl) (by kernel_rfl) (behind_sink (by kernel_rfl) (by kernel_rfl) (by kernel_rfl)) (by kernel_rfl) (fun hsel hlt => ?_) ?_
 ·refine HdJ.keep (fun w => St w0 F ((.blk b1 (enc Note.zero) 132) :: L) w) (fun w h => trivial) ?_
  refine HdJ.ts hsel hlt 0 (sk1 (.refl _)) rfl (Ev.move rfl) ?_
  refine HdJ.ts hsel hlt 1 (sk1 (.refl _)) rfl (Ev.move rfl) ?_
  refine HdJ.ts hsel hlt 2 (sk1 (.refl _)) rfl (Ev.lenStr rfl rfl Tryz.runUnderlying9) ?_
  refine HdJ.ts hsel hlt 3 (sk1 (.refl _)) rfl (Ev.sub rfl rfl) ?_
  refine HdJ.ts hsel hlt 4 (sk1 (.refl _)) rfl (Ev.sliceStrTo rfl rfl  Tryz.runUnderlying9 h6) ?_
  refine HdJ.ts hsel hlt 5 (sk1 (.refl _)) rfl (Ev.move rfl) ?_
  refine HdJ.ts hsel hlt 6 (sk1 (.refl _)) rfl (Ev.move rfl) ?_
  refine HdJ.ts hsel hlt 7 (sk1 (.refl _)) rfl (Ev.lenStr rfl rfl Tryz.runUnderlying9) ?_
  refine HdJ.ts hsel hlt 8 (sk1 (.refl _)) rfl (Ev.sub rfl rfl) ?_
  refine HdJ.ts hsel hlt 9 (sk1 (.refl _)) rfl (Ev.sliceStrFrom rfl rfl  Tryz.runUnderlying9 h8) ?_
  refine HdJ.o1 10 (fun inv => ?_)
  refine Lst.alloc (cs := enc ([] : Str)) rfl rfl (by decide) Tryz.zeroValue9 rfl (fun b15 => ?_)
  refine hds inv (sc1 (sk1 (.refl _))) ?_
  refine HdJ.o1 11 (fun inv => ?_)
  refine Lst.store (i := 0) rfl rfl rfl rfl rfl Tryz.sizeOf9 (vs := [Str.v m5]) rfl rfl rfl (cs' := enc m5) (Put.here (vs := [Str.v m5]) rfl) (L' := (.blk b15 (enc m5) 9) :: (.blk b1 (enc Note.zero) 132) :: L) rfl ?_
  refine hds inv (sc1 (sk1 (.refl _))) ?_
  refine HdJ.done (by kernel_rfl) ?_
  exact At.meetN b15 fl ⟨rfl, rfl, rfl, trivial⟩ rfl trivial
 rintro F16 b12 hF17 hy
 refine Lst.as (e' := [(2, pv b1 0), (4, pv b12 0), (29, Str.v m7)]) (L' := (.blk b12 (enc m5) 9) :: (.blk b1 (enc Note.zero) 132) :: L) ⟨rfl, rfl, rfl, trivial⟩ rfl ?_
 refine Lst.r (Ev.assign rfl) ?_
 refine nt0 ?_
 refine Cd.seq ?_
 refine sr0 ?_
 refine Lst.r (Ev.load (i := 0) rfl rfl Tryz.isAgg9 (v := Str.v m5) gh0) ?_
 obtain ⟨r18, h19, H⟩ := bind_some H
 refine Lst.call1 rfl rfl (by decide) (vs := [Str.v m5]) ⟨rfl, trivial⟩ Tryz.call116 (wire_Sum_sim h19 w0 _ M _ (sc2 hM)) ?_
 obtain ⟨r22, h23, H⟩ := bind_some H
 refine Lst.call rfl rfl (by decide) (vs := [.int .u32 r18.toNat]) ⟨rfl, trivial⟩ Tryz.call115 (wire_four_sim h23 w0 _ M _ (sc2 hM)) (fun F26 L' v hF27 hv => ?_)
 obtain ⟨s24, rfl, rfl⟩ := hv
 refine Lst.r (Ev.bytesStr (ys := r22) rfl Tryz.runUnderlying183 Tryz.runUnderlying5 Tryz.runUnderlying9 (rdo 0 rfl rfl rfl)) ?_
 refine mv0 rfl ?_
 refine Lst.r (Ev.neqStr (s := Str.ofBytes r22) (m := m7) rfl rfl) ?_
 refine nt0 ?_
 rcases Bool.eq_false_or_eq_true (!(decide (Str.ofBytes r22 = m7))) with hb28 | hb28
 ·replace H := ite_t hb28 H
  refine Cd.condT rfl hb28 ?_
  refine sr0 ?_
  refine Lst.r (Ev.build (v := .agg (enc Note.zero).toArray) (pv := []) trivial (fun w => by kernel_rfl)) ?_
  refine Lst.store (i := 2) rfl rfl rfl rfl rfl Tryz.sizeOf132 (vs := enc Note.zero) rfl (Enc.len _) (Enc.one _) (cs' := enc Note.zero) (Put.here ((Enc.len _).trans (Enc.len _).symm)) (L' := (.own s24 5 1 (encs r22)) :: (.blk b12 (enc m5) 9) :: (.blk b1 (enc Note.zero) 132) :: L) rfl ?_
  refine Lst.r (Ev.assign rfl) ?_
  refine nt0 ?_
  obtain rfl := some_inj H
  refine Cd.ret ?_
  refine At.then_ret ?_
  exact At.ret2 rfl (Res.cellA (i := 2) rfl rfl Tryz.isAgg132 Tryz.sizeOf132 (Enc.len _)) (Res.tmp rfl) (FLe.trans hF17 hF27) (sc1 (sc1 (sc1 (.refl _)))) ⟨rfl, rfl⟩
 replace H := ite_f hb28 H
 refine Cd.condF rfl hb28 ?_
 refine Cd.skip ?_
 refine At.then ?_
 refine sr0 ?_
 refine Lst.r (Ev.makeFunc (us := []) (vs := [pv b12 0]) trivial ⟨rfl, trivial⟩) ?_
 refine Lst.r (Ev.assign rfl) ?_
 refine nt0 ?_
 refine Cd.seq ?_
 obtain ⟨x29, h30, H⟩ := bind_some H
 obtain ⟨x31, h32, H⟩ := bind_some H
 obtain ⟨x33, h34, H⟩ := bind_some H
 obtain ⟨r35, h36, H⟩ := bind_some H
 obtain ⟨r39, h40, H⟩ := bind_some H
 obtain ⟨m43, h44, H⟩ := bind_some H
 refine Cd.headMeet (σ := Nat) 17 (fun b48 => [(2, pv b1 0), (6, .func (.func 117) #[] #[pv b12 0]), (7, pv b48 0), (53, .agg (enc ({ Note.zero with Kind := (x29.toBitVec.toNat : Int), From := (x31.toBitVec.toNat : Int), To := (x33.toBitVec.toNat : Int), View := r35, Seq := r39, Text := m43 } : Note)).toArray)]) (fun b48 => (.blk b48 (enc Note.zero) 132) :: (.own s24 5 1 (encs r22)) :: (.blk b12 (enc m5) 9) :: (.blk b1 (enc Note.zero) 132) :: L) (fun _ b48 => True) (by kernel_rfl) (by kernel_rfl) (behind_sink (by kernel_rfl) (by kernel_rfl) (by kernel_rfl)) (by kernel_rfl) (fun hsel hlt => ?_) ?_
 ·refine HdJ.keep (fun w => St w0 F26 ((.own s24 5 1 (encs r22)) :: (.blk b12 (enc m5) 9) :: (.blk b1 (enc Note.zero) 132) :: L) w) (fun w h => trivial) ?_
  refine HdJ.ts hsel hlt 0 (sk1 (sk1 (sk1 (.refl _)))) rfl (Ev.load (i := 1) rfl rfl Tryz.isAgg9 (v := Str.v m5) gh0) ?_
  refine HdJ.ts hsel hlt 1 (sk1 (sk1 (sk1 (.refl _)))) rfl (Ev.indexStr rfl rfl Tryz.runUnderlying9 h30) ?_
  refine HdJ.ts hsel hlt 2 (sk1 (sk1 (sk1 (.refl _)))) rfl (Ev.convIS (j := (x29.toBitVec.toNat : Int)) rfl Tryz.runUnderlying5 Tryz.runUnderlying3 (w64_id (by omega) (by omega))) ?_
  refine HdJ.ts hsel hlt 3 (sk1 (sk1 (sk1 (.refl _)))) rfl (Ev.load (i := 1) rfl rfl Tryz.isAgg9 (v := Str.v m5) gh0) ?_
  refine HdJ.ts hsel hlt 4 (sk1 (sk1 (sk1 (.refl _)))) rfl (Ev.indexStr rfl rfl Tryz.runUnderlying9 h32) ?_
  refine HdJ.ts hsel hlt 5 (sk1 (sk1 (sk1 (.refl _)))) rfl (Ev.convIS (j := (x31.toBitVec.toNat : Int)) rfl Tryz.runUnderlying5 Tryz.runUnderlying3 (w64_id (by omega) (by omega))) ?_
  refine HdJ.ts hsel hlt 6 (sk1 (sk1 (sk1 (.refl _)))) rfl (Ev.load (i := 1) rfl rfl Tryz.isAgg9 (v := Str.v m5) gh0) ?_
  refine HdJ.ts hsel hlt 7 (sk1 (sk1 (sk1 (.refl _)))) rfl (Ev.indexStr rfl rfl Tryz.runUnderlying9 h34) ?_
  refine HdJ.ts hsel hlt 8 (sk1 (sk1 (sk1 (.refl _)))) rfl (Ev.convIS (j := (x33.toBitVec.toNat : Int)) rfl Tryz.runUnderlying5 Tryz.runUnderlying3 (w64_id (by omega) (by omega))) ?_
  refine HdJ.ts hsel hlt 9 (sk1 (sk1 (sk1 (.refl _)))) rfl (Ev.move rfl) ?_
  refine HdJ.ts hsel hlt 11 (sk1 (sk1 (sk1 (.refl _)))) rfl (Ev.move rfl) ?_
  refine HdJ.ts hsel hlt 13 (sk1 (sk1 (sk1 (.refl _)))) rfl (Ev.load (i := 1) rfl rfl Tryz.isAgg9 (v := Str.v m5) gh0) ?_
  refine HdJ.ts hsel hlt 14 (sk1 (sk1 (sk1 (.refl _)))) rfl (Ev.sliceStrFrom rfl rfl  Tryz.runUnderlying9 h44) ?_
  refine HdJ.step [10, 16] (by kernel_rfl) rfl ?_
  refine HdStep.c (fun inv => ?_) ?_
  ·refine Lst.front (i := 1) rfl (L' := (.blk b12 (enc m5) 9) :: (.own s24 5 1 (encs r22)) :: (.blk b1 (enc Note.zero) 132) :: L) rfl ?_
   refine Lst.callV1 rfl rfl (by decide) (vs := [iv (0 : Int)]) (cs := [pv b12 0]) rfl ⟨rfl, trivial⟩ Tryz.call117 (wire_Read_1_sim h36 w0 _ M _ (sc2 hM)) ?_
   refine Lst.front (i := 2) rfl rfl ?_
   refine Lst.front (i := 1) rfl rfl ?_
   refine Lst.front (i := 2) rfl (L' := (.own s24 5 1 (encs r22)) :: (.blk b12 (enc m5) 9) :: (.blk b1 (enc Note.zero) 132) :: L) rfl ?_
   refine hds inv (sk1 (sk1 (sk1 (.refl _)))) ?_
   refine HdJ.step [12, 16] (by kernel_rfl) rfl ?_
   refine HdStep.c (fun inv => ?_) ?_
   ·refine Lst.front (i := 1) rfl (L' := (.blk b12 (enc m5) 9) :: (.own s24 5 1 (encs r22)) :: (.blk b1 (enc Note.zero) 132) :: L) rfl ?_
    refine Lst.callV1 rfl rfl (by decide) (vs := [iv (1 : Int)]) (cs := [pv b12 0]) rfl ⟨rfl, trivial⟩ Tryz.call117 (wire_Read_1_sim h40 w0 _ M _ (sc2 hM)) ?_
    refine Lst.front (i := 2) rfl rfl ?_
    refine Lst.front (i := 1) rfl rfl ?_
    refine Lst.front (i := 2) rfl (L' := (.own s24 5 1 (encs r22)) :: (.blk b12 (enc m5) 9) :: (.blk b1 (enc Note.zero) 132) :: L) rfl ?_
    refine hds inv (sk1 (sk1 (sk1 (.refl _)))) ?_
    refine HdJ.ts hsel hlt 15 (sk1 (sk1 (sk1 (.refl _)))) rfl (Ev.build (v := .agg (enc ({ Note.zero with Kind := (x29.toBitVec.toNat : Int), From := (x31.toBitVec.toNat : Int), To := (x33.toBitVec.toNat : Int), View := r35, Seq := r39, Text := m43 } : Note)).toArray) (pv := [(0, iv (x29.toBitVec.toNat : Int)), (1, iv (x31.toBitVec.toNat : Int)), (2, iv (x33.toBitVec.toNat : Int)), (3, iv r35), (4, iv r39), (6, Str.v m43)]) ⟨rfl, rfl, ⟨rfl, rfl, ⟨rfl, rfl, ⟨rfl, rfl, ⟨rfl, rfl, ⟨rfl, rfl, trivial⟩⟩⟩⟩⟩⟩ (fun w => by kernel_rfl)) ?_
    refine HdJ.o1 16 (fun inv => ?_)
    refine Lst.alloc (cs := enc Note.zero) rfl rfl (by decide) Tryz.zeroValue132 rfl (fun b55 => ?_)
    refine hds inv (sc1 (sk1 (sk1 (sk1 (.refl _))))) ?_
    refine HdJ.done (by kernel_rfl) ?_
    exact At.meetN b55 fl ⟨rfl, rfl, rfl, rfl, trivial⟩ rfl trivial
   refine HdStep.c (fun inv => ?_) trivial
   refine Lst.alloc (cs := enc Note.zero) rfl rfl (by decide) Tryz.zeroValue132 rfl (fun b56 => ?_)
   refine hds inv (sc1 (sk1 (sk1 (sk1 (.refl _))))) ?_
   refine HdJ.o1 12 (fun inv => ?_)
   refine Lst.front (i := 2) rfl (L' := (.blk b12 (enc m5) 9) :: (.blk b56 (enc Note.zero) 132) :: (.own s24 5 1 (encs r22)) :: (.blk b1 (enc Note.zero) 132) :: L) rfl ?_
   refine Lst.callV1 rfl rfl (by decide) (vs := [iv (1 : Int)]) (cs := [pv b12 0]) rfl ⟨rfl, trivial⟩ Tryz.call117 (wire_Read_1_sim h40 w0 _ M _ (sc2 (sc1 hM))) ?_
   refine Lst.front (i := 3) rfl rfl ?_
   refine Lst.front (i := 1) rfl rfl ?_
   refine Lst.front (i := 3) rfl (L' := (.own s24 5 1 (encs r22)) :: (.blk b12 (enc m5) 9) :: (.blk b1 (enc Note.zero) 132) :: (.blk b56 (enc Note.zero) 132) :: L) rfl ?_
   refine Lst.front (i := 3) rfl (L' := (.blk b56 (enc Note.zero) 132) :: (.own s24 5 1 (encs r22)) :: (.blk b12 (enc m5) 9) :: (.blk b1 (enc Note.zero) 132) :: L) rfl ?_
   refine hds inv (sc1 (sk1 (sk1 (sk1 (.refl _))))) ?_
   refine HdJ.keep (fun w => St w0 F26 ((.blk b56 (enc Note.zero) 132) :: (.own s24 5 1 (encs r22)) :: (.blk b12 (enc m5) 9) :: (.blk b1 (enc Note.zero) 132) :: L) w) (fun w h => (h.weaken fl).sublist (sc1 (sk1 (sk1 (sk1 (.refl _)))))) ?_
   refine HdJ.ts hsel hlt 15 (sk1 (sk1 (sk1 (sk1 (.refl _))))) rfl (Ev.build (v := .agg (enc ({ Note.zero with Kind := (x29.toBitVec.toNat : Int), From := (x31.toBitVec.toNat : Int), To := (x33.toBitVec.toNat : Int), View := r35, Seq := r39, Text := m43 } : Note)).toArray) (pv := [(0, iv (x29.toBitVec.toNat : Int)), (1, iv (x31.toBitVec.toNat : Int)), (2, iv (x33.toBitVec.toNat : Int)), (3, iv r35), (4, iv r39), (6, Str.v m43)]) ⟨rfl, rfl, ⟨rfl, rfl, ⟨rfl, rfl, ⟨rfl, rfl, ⟨rfl, rfl, ⟨rfl, rfl, trivial⟩⟩⟩⟩⟩⟩ (fun w => by kernel_rfl)) ?_
   refine HdJ.done (by kernel_rfl) ?_
   exact At.meetN b56 fl ⟨rfl, rfl, rfl, rfl, trivial⟩ rfl trivial
  refine HdStep.c (fun inv => ?_) trivial
  refine Lst.alloc (cs := enc Note.zero) rfl rfl (by decide) Tryz.zeroValue132 rfl (fun b59 => ?_)
  refine hds inv (sc1 (sk1 (sk1 (sk1 (.refl _))))) ?_
  refine HdJ.o1 10 (fun inv => ?_)
  refine Lst.front (i := 2) rfl (L' := (.blk b12 (enc m5) 9) :: (.blk b59 (enc Note.zero) 132) :: (.own s24 5 1 (encs r22)) :: (.blk b1 (enc Note.zero) 132) :: L) rfl ?_
  refine Lst.callV1 rfl rfl (by decide) (vs := [iv (0 : Int)]) (cs := [pv b12 0]) rfl ⟨rfl, trivial⟩ Tryz.call117 (wire_Read_1_sim h36 w0 _ M _ (sc2 (sc1 hM))) ?_
  refine Lst.front (i := 3) rfl rfl ?_
  refine Lst.front (i := 1) rfl rfl ?_
  refine Lst.front (i := 3) rfl (L' := (.own s24 5 1 (encs r22)) :: (.blk b12 (enc m5) 9) :: (.blk b1 (enc Note.zero) 132) :: (.blk b59 (enc Note.zero) 132) :: L) rfl ?_
  refine Lst.front (i := 3) rfl (L' := (.blk b59 (enc Note.zero) 132) :: (.own s24 5 1 (encs r22)) :: (.blk b12 (enc m5) 9) :: (.blk b1 (enc Note.zero) 132) :: L) rfl ?_
  refine hds inv (sc1 (sk1 (sk1 (sk1 (.refl _))))) ?_
  refine HdJ.o1 12 (fun inv => ?_)
  refine Lst.front (i := 2) rfl (L' := (.blk b12 (enc m5) 9) :: (.blk b59 (enc Note.zero) 132) :: (.own s24 5 1 (encs r22)) :: (.blk b1 (enc Note.zero) 132) :: L) rfl ?_
  refine Lst.callV1 rfl rfl (by decide) (vs := [iv (1 : Int)]) (cs := [pv b12 0]) rfl ⟨rfl, trivial⟩ Tryz.call117 (wire_Read_1_sim h40 w0 _ M _ (sc2 (sc1 hM))) ?_
  refine Lst.front (i := 3) rfl rfl ?_
  refine Lst.front (i := 1) rfl rfl ?_
  refine Lst.front (i := 3) rfl (L' := (.own s24 5 1 (encs r22)) :: (.blk b12 (enc m5) 9) :: (.blk b1 (enc Note.zero) 132) :: (.blk b59 (enc Note.zero) 132) :: L) rfl ?_
  refine Lst.front (i := 3) rfl (L' := (.blk b59 (enc Note.zero) 132) :: (.own s24 5 1 (encs r22)) :: (.blk b12 (enc m5) 9) :: (.blk b1 (enc Note.zero) 132) :: L) rfl ?_
  refine hds inv (sc1 (sk1 (sk1 (sk1 (.refl _))))) ?_
  refine HdJ.keep (fun w => St w0 F26 ((.blk b59 (enc Note.zero) 132) :: (.own s24 5 1 (encs r22)) :: (.blk b12 (enc m5) 9) :: (.blk b1 (enc Note.zero) 132) :: L) w) (fun w h => (h.weaken fl).sublist (sc1 (sk1 (sk1 (sk1 (.refl _)))))) ?_
  refine HdJ.ts hsel hlt 15 (sk1 (sk1 (sk1 (sk1 (.refl _))))) rfl (Ev.build (v := .agg (enc ({ Note.zero with Kind := (x29.toBitVec.toNat : Int), From := (x31.toBitVec.toNat : Int), To := (x33.toBitVec.toNat : Int), View := r35, Seq := r39, Text := m43 } : Note)).toArray) (pv := [(0, iv (x29.toBitVec.toNat : Int)), (1, iv (x31.toBitVec.toNat : Int)), (2, iv (x33.toBitVec.toNat : Int)), (3, iv r35), (4, iv r39), (6, Str.v m43)]) ⟨rfl, rfl, ⟨rfl, rfl, ⟨rfl, rfl, ⟨rfl, rfl, ⟨rfl, rfl, ⟨rfl, rfl, trivial⟩⟩⟩⟩⟩⟩ (fun w => by kernel_rfl)) ?_
  refine HdJ.done (by kernel_rfl) ?_
  exact At.meetN b59 fl ⟨rfl, rfl, rfl, rfl, trivial⟩ rfl trivial
 rintro F64 b48 hF65 hy
 refine Lst.as (e' := [(2, pv b1 0), (6, .func (.func 117) #[] #[pv b12 0]), (7, pv b48 0), (53, .agg (enc ({ Note.zero with Kind := (x29.toBitVec.toNat : Int), From := (x31.toBitVec.toNat : Int), To := (x33.toBitVec.toNat : Int), View := r35, Seq := r39, Text := m43 } : Note)).toArray)]) (L' := (.blk b48 (enc Note.zero) 132) :: (.own s24 5 1 (encs r22)) :: (.blk b12 (enc m5) 9) :: (.blk b1 (enc Note.zero) 132) :: L) ⟨rfl, rfl, rfl, rfl, trivial⟩ rfl ?_
 refine Lst.store (i := 0) rfl rfl rfl rfl rfl Tryz.sizeOf132 (vs := enc ({ Note.zero with Kind := (x29.toBitVec.toNat : Int), From := (x31.toBitVec.toNat : Int), To := (x33.toBitVec.toNat : Int), View := r35, Seq := r39, Text := m43 } : Note)) rfl (Enc.len _) (Enc.one _) (cs' := enc ({ Note.zero with Kind := (x29.toBitVec.toNat : Int), From := (x31.toBitVec.toNat : Int), To := (x33.toBitVec.toNat : Int), View := r35, Seq := r39, Text := m43 } : Note)) (Put.here ((Enc.len _).trans (Enc.len _).symm)) (L' := (.blk b48 (enc ({ Note.zero with Kind := (x29.toBitVec.toNat : Int), From := (x31.toBitVec.toNat : Int), To := (x33.toBitVec.toNat : Int), View := r35, Seq := r39, Text := m43 } : Note)) 132) :: (.own s24 5 1 (encs r22)) :: (.blk b12 (enc m5) 9) :: (.blk b1 (enc Note.zero) 132) :: L) rfl ?_
 refine nt0 ?_
 refine Cd.seq ?_
 refine sr0 ?_
 refine mv0 rfl ?_
 refine nt0 ?_
 refine Cd.block ?_
 obtain ⟨ol66, H, HKl66⟩ := bind_some H
 refine Cd.loop (σ := Nat × Nat × Note) (fun (i66, k66, y67) => [(2, pv b1 0), (6, .func (.func 117) #[] #[pv b12 0]), (7, pv b48 0), (54, iv (i66 : Int))]) (fun (i66, k66, y67) => (.blk b48 (enc y67) 132) :: (.own s24 5 1 (encs r22)) :: (.blk b12 (enc m5) 9) :: (.blk b1 (enc Note.zero) 132) :: L) (fun _ => (fun (i66, k66, y67) => rangeF (wire_Read_B1 m5) k66 i66 y67 = some ol66 ∧ i66 + k66 = 6)) (fun (i66, k66, y67) => k66) (0, 6, ({ Note.zero with Kind := (x29.toBitVec.toNat : Int), From := (x31.toBitVec.toNat : Int), To := (x33.toBitVec.toNat : Int), View := r35, Seq := r39, Text := m43 } : Note)) ⟨rfl, rfl, rfl, rfl, trivial⟩ rfl ⟨H, by omega⟩ ?_
 rintro F68 ⟨i66, k66, y67⟩ hF69 ⟨H, hik66⟩
 refine Cd.as (e' := [(2, pv b1 0), (6, .func (.func 117) #[] #[pv b12 0]), (7, pv b48 0), (54, iv (i66 : Int))]) (L' := (.blk b48 (enc y67) 132) :: (.own s24 5 1 (encs r22)) :: (.blk b12 (enc m5) 9) :: (.blk b1 (enc Note.zero) 132) :: L) ⟨rfl, rfl, rfl, rfl, trivial⟩ rfl ?_
 rcases k66 with _ | k66
 ·have hc66 : decide ((i66 : Int) < (6 : Int)) = false := decide_eq_false (by omega)
  replace H := rangeF_end H
  refine sr0 ?_
  refine Lst.r (Ev.lss rfl rfl) ?_
  refine nt0 ?_
  refine Cd.seq ?_
  refine Cd.condF rfl hc66 ?_
  refine Cd.exit ?_
  refine At.then_exit ?_
  refine At.then_exit ?_
  refine At.in_exit ?_
  subst H
  replace H := HKl66
  refine At.then ?_
  refine Cd.seq ?_
  refine sr0 ?_
  refine Lst.r (Ev.loadA (i := 0) rfl rfl Tryz.isAgg132 Tryz.sizeOf132 (ch := enc y67) (Enc.len _) gh0) ?_
  obtain ⟨r79, h80, H⟩ := bind_some H
  refine Lst.call1 rfl rfl (by decide) (vs := [.agg (enc y67).toArray]) ⟨rfl, trivial⟩ Tryz.call118 (wire_Check_sim h80 w0 _ M _ (sc4 hM)) ?_
  refine Lst.r (Ev.assign rfl) ?_
  refine nsr ?_
  refine mv0 rfl ?_
  refine Lst.r (Ev.neq rfl rfl) ?_
  refine nt0 ?_
  rcases Bool.eq_false_or_eq_true (r79 != (0 : Int)) with hb83 | hb83
  ·replace H := ite_t hb83 H
   refine Cd.condT rfl hb83 ?_
   refine sr0 ?_
   refine Lst.r (Ev.build (v := .agg (enc Note.zero).toArray) (pv := []) trivial (fun w => by kernel_rfl)) ?_
   refine mv0 rfl ?_
   refine Lst.store (i := 3) rfl rfl rfl rfl rfl Tryz.sizeOf132 (vs := enc Note.zero) rfl (Enc.len _) (Enc.one _) (cs' := enc Note.zero) (Put.here ((Enc.len _).trans (Enc.len _).symm)) (L' := (.blk b48 (enc y67) 132) :: (.own s24 5 1 (encs r22)) :: (.blk b12 (enc m5) 9) :: (.blk b1 (enc Note.zero) 132) :: L) rfl ?_
   refine Lst.r (Ev.assign rfl) ?_
   refine nt0 ?_
   obtain rfl := some_inj H
   refine Cd.ret ?_
   refine At.then_ret ?_
   exact At.ret2 rfl (Res.cellA (i := 3) rfl rfl Tryz.isAgg132 Tryz.sizeOf132 (Enc.len _)) (Res.tmp rfl) (FLe.trans (FLe.trans (FLe.trans hF17 hF27) hF65) hF69) (sc1 (sc1 (sc1 (sc1 (.refl _))))) ⟨rfl, rfl⟩
  replace H := ite_f hb83 H
  refine Cd.condF rfl hb83 ?_
  refine Cd.skip ?_
  refine At.then ?_
  refine sr0 ?_
  refine Lst.r (Ev.loadA (i := 0) rfl rfl Tryz.isAgg132 Tryz.sizeOf132 (ch := enc y67) (Enc.len _) gh0) ?_
  refine Lst.store (i := 3) rfl rfl rfl rfl rfl Tryz.sizeOf132 (vs := enc y67) rfl (Enc.len _) (Enc.one _) (cs' := enc y67) (Put.here ((Enc.len _).trans (Enc.len _).symm)) (L' := (.blk b48 (enc y67) 132) :: (.own s24 5 1 (encs r22)) :: (.blk b12 (enc m5) 9) :: (.blk b1 (enc y67) 132) :: L) rfl ?_
  refine Lst.r (Ev.assign rfl) ?_
  refine nt0 ?_
  obtain rfl := some_inj H
  refine Cd.ret ?_
  exact At.ret2 rfl (Res.cellA (i := 3) rfl rfl Tryz.isAgg132 Tryz.sizeOf132 (Enc.len _)) (Res.tmp rfl) (FLe.trans (FLe.trans (FLe.trans hF17 hF27) hF65) hF69) (sc1 (sc1 (sc1 (sc1 (.refl _))))) ⟨rfl, rfl⟩
 have hc66 : decide ((i66 : Int) < (6 : Int)) = true := decide_eq_true (by omega)
 obtain ⟨c66, H, hgo66⟩ := rangeF_go H
 unfold wire_Read_B1 at H
 try dsimp only at H
 refine sr0 ?_
 refine Lst.r (Ev.lss rfl rfl) ?_
 refine nt0 ?_
 refine Cd.seq ?_
 refine Cd.condT rfl hc66 ?_
 refine Cd.skip ?_
 refine At.then ?_
 refine Cd.seq ?_
 refine Cd.block ?_
 refine sr0 ?_
 refine mv0 rfl ?_
 refine Lst.r (Ev.assign rfl) ?_
 refine nt0 ?_
 refine Cd.region ?_
 refine mv0 rfl ?_
 refine mv0 rfl ?_
 refine mv0 rfl ?_
 refine Lst.r (Ev.add rfl rfl) ?_
 obtain ⟨r70, h71, H⟩ := bind_some H
 refine Lst.front (i := 2) rfl (L' := (.blk b12 (enc m5) 9) :: (.blk b48 (enc y67) 132) :: (.own s24 5 1 (encs r22)) :: (.blk b1 (enc Note.zero) 132) :: L) rfl ?_
 refine Lst.callV1 rfl rfl (by decide) (vs := [iv (w64 ((2 : Int) + (i66 : Int)))]) (cs := [pv b12 0]) rfl ⟨rfl, trivial⟩ Tryz.call117 (wire_Read_1_sim h71 w0 _ M _ (sc2 (sc1 hM))) ?_
 refine Lst.r (Ev.fieldAddr (off' := 5) rfl Tryz.runUnderlying132 rfl Tryz.sizeOf130 rfl rfl) ?_
 obtain ⟨x74, h75, H⟩ := bind_some H
 have g76 := vat_some h75
 refine Lst.r (Ev.indexAddr (off' := 5 + (i66 : Int).toNat * 1) rfl rfl Tryz.runUnderlying130 Tryz.sizeOf3 g76.1 g76.2.1 rfl) ?_
 obtain ⟨p77, h78, H⟩ := Let_some H
 refine Lst.store (i := 1) rfl rfl rfl rfl rfl Tryz.sizeOf3 (vs := [iv r70]) rfl rfl rfl (cs' := enc p77) (by rw [← h78]; exact (Note.put_At (Put.vecN (s := 1) (x := x74) rfl g76.2.2 (Put.here (vs := [iv r70]) rfl))).off (by omega)) (L' := (.blk b12 (enc m5) 9) :: (.blk b48 (enc p77) 132) :: (.own s24 5 1 (encs r22)) :: (.blk b1 (enc Note.zero) 132) :: L) rfl ?_
 refine Lst.nil ?_
 refine At.in_normal ?_
 refine At.then ?_
 refine Cd.region ?_
 refine Lst.r (Ev.incr (by omega) rfl rfl) ?_
 refine mv0 rfl ?_
 refine Lst.nil ?_
 refine At.front (i := 2) rfl rfl ?_
 refine At.front (i := 2) rfl (L' := (.blk b48 (enc p77) 132) :: (.own s24 5 1 (encs r22)) :: (.blk b12 (enc m5) 9) :: (.blk b1 (enc Note.zero) 132) :: L) rfl ?_
 exact At.meet (i66 + 1, k66, p77) hF69 ⟨rfl, rfl, rfl, rfl, trivial⟩ rfl ⟨⟨hgo66 _ (some_inj H).symm, by omega⟩, Nat.lt_succ_self _⟩
set_option maxRecDepth 20000 in
theorem lane_CheckTo_sim {a0 : To} {s_a0_1 : Sl} {r : Int} (H : lane_CheckTo a0 = some r) (w0 : World) (F : Frz) (M L : List Item) (hM : M.Sublist L) (hs_a0_1 : Rd w0 F M s_a0_1 a0.Early) : Ok Tryz.prog w0 215 [.agg (enc (ToR.mk a0 s_a0_1)).toArray] F (L) (Is (iv r) (L)) := by
 unfold lane_CheckTo at H
 refine Ok.enter (m := 1) (n := 45) Tryz.func215 rfl rfl rfl (by decide) ?_
 refine Cd.env (e' := [(0, .agg (enc (ToR.mk a0 s_a0_1)).toArray)]) rfl ?_
 refine sr0 ?_
 refine Lst.box rfl rfl (by decide) rfl (cs := enc (ToR.mk a0 s_a0_1)) rfl (fun b1 => ?_)
 refine Lst.r (Ev.assign rfl) ?_
 refine nt0 ?_
 refine Cd.seq ?_
 refine Cd.block ?_
 refine sr0 ?_
 refine Lst.r (Ev.fieldAddr (off' := 0) rfl Tryz.runUnderlying41 rfl Tryz.sizeOf3 rfl rfl) ?_
 refine Lst.r (Ev.load (i := 0) rfl rfl Tryz.isAgg3 (v := iv a0.Next) ((ToR.get_Next gh0).off (by rfl))) ?_
 obtain ⟨r3, h4, H⟩ := bind_some H
 refine Lst.call1 rfl rfl (by decide) (vs := [iv a0.Next, iv (0 : Int), iv (16777215 : Int)]) ⟨rfl, rfl, rfl, trivial⟩ Tryz.call168 (lane_in_sim h4 w0 _ M _ (sc1 hM)) ?_
 refine Lst.r (Ev.not rfl) ?_
 refine Lst.r (Ev.assign rfl) ?_
 refine nt0 ?_
 rcases Bool.eq_false_or_eq_true (!r3) with hb7 | hb7
 ·replace H := ite_t hb7 H
  refine Cd.condT rfl hb7 ?_
  refine sr0 ?_
  refine Lst.r (Ev.assign rfl) ?_
  refine nt0 ?_
  obtain rfl := some_inj H
  refine Cd.ret ?_
  refine At.in_ret ?_
  refine At.then_ret ?_
  exact At.ret1 rfl (Res.tmp rfl) fl (sc1 (.refl _)) ⟨rfl, rfl⟩
 replace H := ite_f hb7 H
 refine Cd.condF rfl hb7 ?_
 refine sr0 ?_
 refine Lst.r (Ev.fieldAddr (off' := 1) rfl Tryz.runUnderlying41 rfl Tryz.sizeOf39 rfl rfl) ?_
 refine Lst.r (Ev.load (i := 0) rfl rfl Tryz.isAgg39 (v := Sl.v s_a0_1) ((ToR.get_Early gh0).off (by rfl))) ?_
 refine Lst.r (Ev.lenS (α := Parcel) (xs := a0.Early) (by decide) rfl rfl Tryz.runUnderlying39 (hs_a0_1.mono fl (sc1 hM))) ?_
 refine Lst.r (Ev.gtr rfl rfl) ?_
 refine Lst.r (Ev.assign rfl) ?_
 refine nt0 ?_
 rcases Bool.eq_false_or_eq_true (decide ((a0.Early.length : Int) > (16 : Int))) with hb8 | hb8
 ·replace H := ite_t hb8 H
  refine Cd.condT rfl hb8 ?_
  refine sr0 ?_
  refine Lst.r (Ev.assign rfl) ?_
  refine nt0 ?_
  obtain rfl := some_inj H
  refine Cd.ret ?_
  refine At.in_ret ?_
  refine At.then_ret ?_
  exact At.ret1 rfl (Res.tmp rfl) fl (sc1 (.refl _)) ⟨rfl, rfl⟩
 replace H := ite_f hb8 H
 refine Cd.condF rfl hb8 ?_
 refine Cd.skip ?_
 refine At.in_normal ?_
 refine At.then ?_
 refine sr0 ?_
 refine Lst.r (Ev.fieldAddr (off' := 0) rfl Tryz.runUnderlying41 rfl Tryz.sizeOf3 rfl rfl) ?_
 refine Lst.r (Ev.load (i := 0) rfl rfl Tryz.isAgg3 (v := iv a0.Next) ((ToR.get_Next gh0).off (by rfl))) ?_
 refine Lst.r (Ev.assign rfl) ?_
 refine nt0 ?_
 refine Cd.seq ?_
 refine sr0 ?_
 refine Lst.r (Ev.fieldAddr (off' := 1) rfl Tryz.runUnderlying41 rfl Tryz.sizeOf39 rfl rfl) ?_
 refine Lst.r (Ev.load (i := 0) rfl rfl Tryz.isAgg39 (v := Sl.v s_a0_1) ((ToR.get_Early gh0).off (by rfl))) ?_
 refine Lst.r (Ev.lenS (α := Parcel) (xs := a0.Early) (by decide) rfl rfl Tryz.runUnderlying39 (hs_a0_1.mono fl (sc1 hM))) ?_
 refine mv0 rfl ?_
 refine nt0 ?_
 refine Cd.block ?_
 refine Cd.bound (Rd.le (α := Parcel) (xs := a0.Early) (by decide) (hs_a0_1.mono fl (sc1 hM))) (fun hN33 => ?_)
 obtain ⟨ol9, H, HKl9⟩ := andThen_some H
 refine Cd.loop (σ := Nat × Nat × Int) (fun (i9, k9, y10) => [(1, pv b1 0), (3, iv y10), (19, Sl.v s_a0_1), (20, iv (a0.Early.length : Int)), (21, iv (i9 : Int))]) (fun (i9, k9, y10) => (.blk b1 (enc (ToR.mk a0 s_a0_1)) 41) :: L) (fun _ => (fun (i9, k9, y10) => rangeM (lane_CheckTo_B1 a0) k9 i9 y10 = some ol9 ∧ i9 + k9 = a0.Early.length)) (fun (i9, k9, y10) => k9) (0, a0.Early.length, a0.Next) ⟨rfl, rfl, rfl, rfl, rfl, trivial⟩ rfl ⟨H, by omega⟩ ?_
 rintro F11 ⟨i9, k9, y10⟩ hF12 ⟨H, hik9⟩
 refine Cd.as (e' := [(1, pv b1 0), (3, iv y10), (19, Sl.v s_a0_1), (20, iv (a0.Early.length : Int)), (21, iv (i9 : Int))]) (L' := (.blk b1 (enc (ToR.mk a0 s_a0_1)) 41) :: L) ⟨rfl, rfl, rfl, rfl, rfl, trivial⟩ rfl ?_
 rcases k9 with _ | k9
 ·have hc9 : decide ((i9 : Int) < (a0.Early.length : Int)) = false := decide_eq_false (by omega)
  replace H := rangeM_end H
  refine sr0 ?_
  refine Lst.r (Ev.lss rfl rfl) ?_
  refine nt0 ?_
  refine Cd.seq ?_
  refine Cd.condF rfl hc9 ?_
  refine Cd.exit ?_
  refine At.then_exit ?_
  refine At.then_exit ?_
  refine At.in_exit ?_
  subst H
  replace H := HKl9
  refine At.then ?_
  refine sr0 ?_
  refine Lst.r (Ev.assign rfl) ?_
  refine nt0 ?_
  obtain rfl := some_inj H
  refine Cd.ret ?_
  exact At.ret1 rfl (Res.tmp rfl) hF12 (sc1 (.refl _)) ⟨rfl, rfl⟩
 have hc9 : decide ((i9 : Int) < (a0.Early.length : Int)) = true := decide_eq_true (by omega)
 obtain ⟨c9, H, hgo9, hbrk9, hret9⟩ := rangeM_go H
 unfold lane_CheckTo_B1 at H
 try dsimp only at H
 refine sr0 ?_
 refine Lst.r (Ev.lss rfl rfl) ?_
 refine nt0 ?_
 refine Cd.seq ?_
 refine Cd.condT rfl hc9 ?_
 refine Cd.skip ?_
 refine At.then ?_
 refine Cd.seq ?_
 refine Cd.block ?_
 refine sr0 ?_
 obtain ⟨x13, h14, H⟩ := bind_some H
 have g15 := lat_some h14
 refine Lst.r (Ev.indexS (α := Parcel) (xs := a0.Early) rfl rfl Tryz.runUnderlying39 Tryz.sizeOf146 rfl (by decide) (hs_a0_1.mono hF12 (sc1 hM)) g15.1 g15.2.1) ?_
 refine Lst.r (Ev.loadSA (α := Parcel) rfl (hs_a0_1.mono hF12 (sc1 hM)) Tryz.isAgg146 Tryz.sizeOf146 (ch := enc x13) (Enc.len _) (by decide) ((Get.elemN (s := 2) (x := x13) rfl g15.2.2 gh0).off (by omega))) ?_
 refine Lst.alloc (cs := enc Parcel.zero) rfl rfl (by decide) Tryz.zeroValue146 rfl (fun b16 => ?_)
 refine Lst.store (i := 0) rfl rfl rfl rfl rfl Tryz.sizeOf146 (vs := enc x13) rfl (Enc.len _) (Enc.one _) (cs' := enc x13) (Put.here ((Enc.len _).trans (Enc.len _).symm)) (L' := (.blk b16 (enc x13) 146) :: (.blk b1 (enc (ToR.mk a0 s_a0_1)) 41) :: L) rfl ?_
 refine nt0 ?_
 refine Cd.seq ?_
 refine sr0 ?_
 refine Lst.r (Ev.fieldAddr (off' := 0) rfl Tryz.runUnderlying146 rfl Tryz.sizeOf3 rfl rfl) ?_
 refine Lst.r (Ev.load (i := 0) rfl rfl Tryz.isAgg3 (v := iv x13.Seq) ((Parcel.get_Seq gh0).off (by rfl))) ?_
 refine mv0 rfl ?_
 refine Lst.r (Ev.leq rfl rfl) ?_
 refine mv0 rfl ?_
 obtain ⟨o18, H, HKo18⟩ := bind_some H
 refine Lst.join (σ := Bool) 7 (fun y19 => [(1, pv b1 0), (3, iv y10), (5, pv b16 0), (19, Sl.v s_a0_1), (20, iv (a0.Early.length : Int)), (21, iv (i9 : Int)), (36, .bool y19)]) (fun y19 => (.blk b16 (enc x13) 146) :: (.blk b1 (enc (ToR.mk a0 s_a0_1)) 41) :: L) (fun _ y19 => y19 = o18) ?_ ?_
 ·rcases Bool.eq_false_or_eq_true (decide (x13.Seq ≤ y10)) with hb20 | hb20
  ·replace H := ite_t hb20 H
   refine Lst.skip rfl rfl rfl hb20 rfl (by decide) ?_
   refine Lst.skip rfl rfl rfl hb20 rfl (by decide) ?_
   refine Lst.skip rfl rfl rfl hb20 rfl (by decide) ?_
   refine Lst.skip rfl rfl rfl hb20 rfl (by decide) ?_
   refine Lst.skip rfl rfl rfl hb20 rfl (by decide) ?_
   refine Lst.skip rfl rfl rfl hb20 rfl (by decide) ?_
   refine Lst.r (Ev.pickT rfl hb20 rfl) ?_
   refine Lst.nil ?_
   exact At.meet true fl ⟨rfl, rfl, rfl, rfl, rfl, rfl, rfl, trivial⟩ rfl (some_inj H)
  replace H := ite_f hb20 H
  refine Lst.rG hb20 (Ev.fieldAddr (off' := 0) rfl Tryz.runUnderlying146 rfl Tryz.sizeOf3 rfl rfl) ?_
  refine Lst.rG hb20 (Ev.load (i := 0) rfl rfl Tryz.isAgg3 (v := iv x13.Seq) ((Parcel.get_Seq gh0).off (by rfl))) ?_
  refine Lst.rG hb20 (Ev.fieldAddr (off' := 0) rfl Tryz.runUnderlying41 rfl Tryz.sizeOf3 rfl rfl) ?_
  refine Lst.rG hb20 (Ev.load (i := 1) rfl rfl Tryz.isAgg3 (v := iv a0.Next) ((ToR.get_Next gh0).off (by rfl))) ?_
  refine Lst.rG hb20 (Ev.add rfl rfl) ?_
  refine Lst.rG hb20 (Ev.geq rfl rfl) ?_
  refine Lst.r (Ev.pickF rfl hb20 rfl) ?_
  refine Lst.nil ?_
  exact At.meet (decide (x13.Seq ≥ (w64 (a0.Next + (16 : Int))))) fl ⟨rfl, rfl, rfl, rfl, rfl, rfl, rfl, trivial⟩ rfl (some_inj H)
 rintro F21 y19 hF22 hy
 subst hy
 refine Lst.as (e' := [(1, pv b1 0), (3, iv y10), (5, pv b16 0), (19, Sl.v s_a0_1), (20, iv (a0.Early.length : Int)), (21, iv (i9 : Int)), (36, .bool y19)]) (L' := (.blk b16 (enc x13) 146) :: (.blk b1 (enc (ToR.mk a0 s_a0_1)) 41) :: L) ⟨rfl, rfl, rfl, rfl, rfl, rfl, rfl, trivial⟩ rfl ?_
 replace H := HKo18
 refine mv0 rfl ?_
 obtain ⟨o23, H, HKo23⟩ := bind_some H
 refine Lst.join (σ := Bool) 4 (fun y24 => [(1, pv b1 0), (3, iv y10), (5, pv b16 0), (19, Sl.v s_a0_1), (20, iv (a0.Early.length : Int)), (21, iv (i9 : Int)), (41, .bool y24)]) (fun y24 => (.blk b16 (enc x13) 146) :: (.blk b1 (enc (ToR.mk a0 s_a0_1)) 41) :: L) (fun _ y24 => y24 = o23) ?_ ?_
 ·rcases Bool.eq_false_or_eq_true y19 with hb25 | hb25
  ·replace H := ite_t hb25 H
   refine Lst.skip rfl rfl rfl hb25 rfl (by decide) ?_
   refine Lst.skip rfl rfl rfl hb25 rfl (by decide) ?_
   refine Lst.skip rfl rfl rfl hb25 rfl (by decide) ?_
   refine Lst.r (Ev.pickT rfl hb25 rfl) ?_
   refine Lst.nil ?_
   exact At.meet true fl ⟨rfl, rfl, rfl, rfl, rfl, rfl, rfl, trivial⟩ rfl (some_inj H)
  replace H := ite_f hb25 H
  refine Lst.rG hb25 (Ev.fieldAddr (off' := 1) rfl Tryz.runUnderlying146 rfl Tryz.sizeOf9 rfl rfl) ?_
  refine Lst.rG hb25 (Ev.load (i := 0) rfl rfl Tryz.isAgg9 (v := Str.v x13.Text) ((Parcel.get_Text gh0).off (by rfl))) ?_
  obtain ⟨r26, h27, H⟩ := bind_some H
  refine Lst.call1G rfl rfl rfl hb25 rfl (by decide) (vs := [Str.v x13.Text]) ⟨rfl, trivial⟩ Tryz.call112 (lane_long_sim h27 w0 _ M _ (sc2 hM)) ?_
  refine Lst.r (Ev.pickF rfl hb25 rfl) ?_
  refine Lst.nil ?_
  exact At.meet r26 fl ⟨rfl, rfl, rfl, rfl, rfl, rfl, rfl, trivial⟩ rfl (some_inj H)
 rintro F30 y24 hF31 hy
 subst hy
 refine Lst.as (e' := [(1, pv b1 0), (3, iv y10), (5, pv b16 0), (19, Sl.v s_a0_1), (20, iv (a0.Early.length : Int)), (21, iv (i9 : Int)), (41, .bool y24)]) (L' := (.blk b16 (enc x13) 146) :: (.blk b1 (enc (ToR.mk a0 s_a0_1)) 41) :: L) ⟨rfl, rfl, rfl, rfl, rfl, rfl, rfl, trivial⟩ rfl ?_
 replace H := HKo23
 refine nt0 ?_
 rcases Bool.eq_false_or_eq_true y24 with hb32 | hb32
 ·replace H := ite_t hb32 H
  refine Cd.condT rfl hb32 ?_
  refine sr0 ?_
  refine Lst.r (Ev.assign rfl) ?_
  refine nt0 ?_
  have H := hret9 _ (some_inj H).symm
  subst H
  replace H := HKl9
  obtain rfl := some_inj H
  refine Cd.ret ?_
  refine At.then_ret ?_
  refine At.in_ret ?_
  refine At.then_ret ?_
  refine At.then_ret ?_
  refine At.in_ret ?_
  refine At.then_ret ?_
  exact At.ret1 rfl (Res.tmp rfl) (FLe.trans (FLe.trans hF12 hF22) hF31) (sc1 (sc1 (.refl _))) ⟨rfl, rfl⟩
 replace H := ite_f hb32 H
 refine Cd.condF rfl hb32 ?_
 refine Cd.skip ?_
 refine At.then ?_
 refine Cd.region ?_
 refine Lst.r (Ev.fieldAddr (off' := 0) rfl Tryz.runUnderlying146 rfl Tryz.sizeOf3 rfl rfl) ?_
 refine Lst.r (Ev.load (i := 0) rfl rfl Tryz.isAgg3 (v := iv x13.Seq) ((Parcel.get_Seq gh0).off (by rfl))) ?_
 refine Lst.r (Ev.assign rfl) ?_
 refine Lst.nil ?_
 refine At.in_normal ?_
 refine At.then ?_
 refine Cd.region ?_
 refine Lst.r (Ev.incr (by omega) rfl rfl) ?_
 refine mv0 rfl ?_
 refine Lst.nil ?_
 refine At.less (L' := (.blk b1 (enc (ToR.mk a0 s_a0_1)) 41) :: L) (sc1 (sk1 (.refl _))) ?_
 exact At.meet (i9 + 1, k9, x13.Seq) (FLe.trans (FLe.trans hF12 hF22) hF31) ⟨rfl, rfl, rfl, rfl, rfl, trivial⟩ rfl ⟨⟨hgo9 _ (some_inj H).symm, by omega⟩, Nat.lt_succ_self _⟩
set_option maxRecDepth 20000 in
theorem slices_Clone_api_Parcel_api_Parcel_sim {a0 : List Parcel} {s_a0 : Sl} {r : (List Parcel)} (H : slices_Clone_api_Parcel_api_Parcel a0 = some r) (w0 : World) (F : Frz) (M L : List Item) (hM : M.Sublist L) (hs_a0 : Rd w0 F M s_a0 a0) : Ok Tryz.prog w0 216 [Sl.v s_a0] F (L) (fun _ L' v => ∃ (s1 : Sl), v = Sl.v s1 ∧ L' = (.own s1 146 2 (encs r)) :: L) := by
 unfold slices_Clone_api_Parcel_api_Parcel at H
 refine Ok.enter (m := 1) (n := 8) Tryz.func216 rfl rfl rfl (by decide) ?_
 refine Cd.env (e' := [(0, Sl.v s_a0)]) rfl ?_
 refine sr0 ?_
 refine Lst.addNil 146 2 ?_
 refine Lst.r (Ev.assign rfl) ?_
 refine nt0 ?_
 refine Cd.seq ?_
 refine sr0 ?_
 refine mv0 rfl ?_
 refine Lst.r (Ev.eqlNil rfl Tryz.runUnderlying39) ?_
 refine nt0 ?_
 rcases Bool.eq_false_or_eq_true ((Sl.a s_a0).isNone) with hb2 | hb2
 ·refine Cd.bound (Rd.isNil (α := Parcel) (by decide) (hs_a0.mono fl (sc1 hM)) hb2) (fun hx9 => ?_)
  rw [clone_nil hx9] at H
  refine Cd.condT rfl hb2 ?_
  refine sr0 ?_
  refine Lst.addNil 146 2 ?_
  refine Lst.r (Ev.assign rfl) ?_
  refine nt0 ?_
  obtain rfl := some_inj H
  refine Cd.ret ?_
  refine At.then_ret ?_
  exact At.ret1 rfl (Res.tmp rfl) fl (sk1 (sc1 (.refl _))) ⟨Sl.nil, rfl, rfl⟩
 refine Cd.condF rfl hb2 ?_
 refine Cd.skip ?_
 refine At.then ?_
 refine sr0 ?_
 refine Lst.buildSlice0 rfl rfl (by decide) Tryz.runUnderlying39 Tryz.sizeOf146 (fun s3 => ?_)
 refine Lst.its (L' := (.own s3 146 2 (encs ([] : List Parcel))) :: (.own Sl.nil 146 2 (encs ([] : List Parcel))) :: L) rfl ?_
 refine mv0 rfl ?_
 obtain ⟨u5, h6, H⟩ := bind_some H
 refine Lst.append (i := 0) (α := Parcel) (xs := ([] : List Parcel)) (ys := a0) rfl rfl (by decide) rfl rfl Tryz.runUnderlying39 Tryz.typeInfo146 rfl rfl rfl rfl rfl rfl (hs_a0.mono fl (sc2 hM)) rfl (room_some h6) rfl (fun s7 => ?_)
 refine Lst.its (L' := (.own s7 146 2 (encs (([] : List Parcel) ++ a0))) :: (.own Sl.nil 146 2 (encs ([] : List Parcel))) :: L) rfl ?_
 refine Lst.r (Ev.assign rfl) ?_
 refine nt0 ?_
 obtain rfl := some_inj H
 refine Cd.ret ?_
 exact At.ret1 rfl (Res.tmp rfl) fl (sk1 (sc1 (.refl _))) ⟨s7, rfl, rfl⟩
set_option maxRecDepth 20000 in
theorem lane_Take_1_sim {a0 : Parcel} {a1 : Int} {r : Int} (H : lane_Take_1 a0 a1 = some r) (w0 : World) (F : Frz) (M L : List Item) (hM : M.Sublist L) : Ok Tryz.prog w0 218 [.agg (enc a0).toArray, iv a1] F (L) (Is (iv r) (L)) := by
 unfold lane_Take_1 at H
 refine Ok.enter (m := 2) (n := 9) Tryz.func218 rfl rfl rfl (by decide) ?_
 refine Cd.env (e' := [(0, .agg (enc a0).toArray), (1, iv a1)]) rfl ?_
 refine sr0 ?_
 refine Lst.box rfl rfl (by decide) rfl (cs := enc a0) rfl (fun b1 => ?_)
 refine Lst.r (Ev.assign rfl) ?_
 refine nsr ?_
 refine Lst.r (Ev.fieldAddr (off' := 0) rfl Tryz.runUnderlying146 rfl Tryz.sizeOf3 rfl rfl) ?_
 refine Lst.r (Ev.load (i := 0) rfl rfl Tryz.isAgg3 (v := iv a0.Seq) ((Parcel.get_Seq gh0).off (by rfl))) ?_
 refine mv0 rfl ?_
 refine Lst.r (Ev.sub rfl rfl) ?_
 refine Lst.r (Ev.assign rfl) ?_
 refine nt0 ?_
 obtain rfl := some_inj H
 refine Cd.ret ?_
 exact At.ret1 rfl (Res.tmp rfl) fl (sc1 (.refl _)) ⟨rfl, rfl⟩
set_option maxRecDepth 20000 in
theorem slices_BinarySearchFunc_api_Parcel_api_Parcel_int_Take_1_sim {fu : Nat} {a0 : List Parcel} {a1 : Int} {s_a0 : Sl} {r : Int × Bool} (H : slices_BinarySearchFunc_api_Parcel_api_Parcel_int_Take_1 fu a0 a1 = some r) (w0 : World) (F : Frz) (M L : List Item) (hM : M.Sublist L) (hs_a0 : Rd w0 F M s_a0 a0) : Ok Tryz.prog w0 217 [Sl.v s_a0, iv a1, .func (.func 218) #[] #[]] F (L) (Is (.tuple #[iv r.1, .bool r.2]) (L)) := by
 unfold slices_BinarySearchFunc_api_Parcel_api_Parcel_int_Take_1 at H
 refine Ok.enter (m := 3) (n := 49) Tryz.func217 rfl rfl rfl (by decide) ?_
 refine Cd.env (e' := [(0, Sl.v s_a0), (1, iv a1), (2, .func (.func 218) #[] #[])]) rfl ?_
 refine sr0 ?_
 refine Lst.r (Ev.assign rfl) ?_
 refine Lst.r (Ev.assign rfl) ?_
 refine nsr ?_
 refine mv0 rfl ?_
 refine Lst.r (Ev.lenS (α := Parcel) (xs := a0) (by decide) rfl rfl Tryz.runUnderlying39 (hs_a0.mono fl hM)) ?_
 refine Lst.r (Ev.assign rfl) ?_
 refine nsr ?_
 refine mv0 rfl ?_
 refine Lst.r (Ev.assign rfl) ?_
 refine Lst.r (Ev.assign rfl) ?_
 refine nt0 ?_
 refine Cd.seq ?_
 refine Cd.block ?_
 obtain ⟨ol1, H, HKl1⟩ := andThen_some H
 refine Cd.loop (σ := Nat × Int × Int) (fun (k1, y2, y3) => [(0, Sl.v s_a0), (1, iv a1), (2, .func (.func 218) #[] #[]), (8, iv (a0.length : Int)), (9, iv y2), (10, iv y3)]) (fun (k1, y2, y3) => L) (fun _ => (fun (k1, y2, y3) => whileM (slices_BinarySearchFunc_api_Parcel_api_Parcel_int_Take_1_B0 a0 a1) k1 (y2, y3) = some ol1)) (fun (k1, y2, y3) => k1) (fu, (0 : Int), (a0.length : Int)) ⟨rfl, rfl, rfl, rfl, rfl, rfl, trivial⟩ rfl H ?_
 rintro F4 ⟨k1, y2, y3⟩ hF5 H
 refine Cd.as (e' := [(0, Sl.v s_a0), (1, iv a1), (2, .func (.func 218) #[] #[]), (8, iv (a0.length : Int)), (9, iv y2), (10, iv y3)]) (L' := L) ⟨rfl, rfl, rfl, rfl, rfl, rfl, trivial⟩ rfl ?_
 rcases k1 with _ | k1
 ·cases H
 obtain ⟨c1, H, hgo1, hbrk1, hret1⟩ := whileM_go H
 unfold slices_BinarySearchFunc_api_Parcel_api_Parcel_int_Take_1_B0 at H
 try dsimp only at H
 refine Cd.seq ?_
 refine sr0 ?_
 refine mv0 rfl ?_
 refine mv0 rfl ?_
 refine Lst.r (Ev.lss rfl rfl) ?_
 refine nt0 ?_
 rcases (Bool.eq_false_or_eq_true (decide (y2 < y3))).symm with hb6 | hb6
 ·replace H := ite_f hb6 H
  refine Cd.condF rfl hb6 ?_
  refine Cd.exit ?_
  refine At.then_exit ?_
  refine At.then_exit ?_
  refine At.in_exit ?_
  have H := hbrk1 _ (some_inj H).symm
  subst H
  replace H := HKl1
  refine At.then ?_
  refine sr0 ?_
  refine mv0 rfl ?_
  refine mv0 rfl ?_
  refine mv0 rfl ?_
  refine Lst.r (Ev.lss rfl rfl) ?_
  refine mv0 rfl ?_
  obtain ⟨o7, H, HKo7⟩ := bind_some H
  refine Lst.join (σ := Bool) 9 (fun y8 => [(35, iv y2), (48, .bool y8)]) (fun y8 => L) (fun _ y8 => y8 = o7) ?_ ?_
  ·rcases (Bool.eq_false_or_eq_true (decide (y2 < (a0.length : Int)))).symm with hb9 | hb9
   ·replace H := ite_f hb9 H
    refine Lst.skip rfl rfl rfl hb9 rfl (by decide) ?_
    refine Lst.skip rfl rfl rfl hb9 rfl (by decide) ?_
    refine Lst.skip rfl rfl rfl hb9 rfl (by decide) ?_
    refine Lst.skip rfl rfl rfl hb9 rfl (by decide) ?_
    refine Lst.skip rfl rfl rfl hb9 rfl (by decide) ?_
    refine Lst.skip rfl rfl rfl hb9 rfl (by decide) ?_
    refine Lst.skip rfl rfl rfl hb9 rfl (by decide) ?_
    refine Lst.skip rfl rfl rfl hb9 rfl (by decide) ?_
    refine Lst.r (Ev.pickF rfl hb9 rfl) ?_
    refine Lst.nil ?_
    exact At.meet false fl ⟨rfl, rfl, trivial⟩ rfl (some_inj H)
   replace H := ite_t hb9 H
   refine Lst.rG hb9 (Ev.move rfl) ?_
   refine Lst.rG hb9 (Ev.move rfl) ?_
   refine Lst.rG hb9 (Ev.move rfl) ?_
   obtain ⟨x10, h11, H⟩ := bind_some H
   have g12 := lat_some h11
   refine Lst.rG hb9 (Ev.indexS (α := Parcel) (xs := a0) rfl rfl Tryz.runUnderlying39 Tryz.sizeOf146 rfl (by decide) (hs_a0.mono hF5 hM) g12.1 g12.2.1) ?_
   refine Lst.rG hb9 (Ev.loadSA (α := Parcel) rfl (hs_a0.mono hF5 hM) Tryz.isAgg146 Tryz.sizeOf146 (ch := enc x10) (Enc.len _) (by decide) ((Get.elemN (s := 2) (x := x10) rfl g12.2.2 gh0).off (by omega))) ?_
   refine Lst.rG hb9 (Ev.move rfl) ?_
   obtain ⟨r13, h14, H⟩ := bind_some H
   refine Lst.callV1G rfl rfl rfl hb9 rfl (by decide) (vs := [.agg (enc x10).toArray, iv a1]) (cs := []) rfl ⟨rfl, rfl, trivial⟩ Tryz.call218 (lane_Take_1_sim h14 w0 _ M _ hM) ?_
   refine Lst.rG hb9 (Ev.eql rfl rfl) ?_
   refine Lst.r (Ev.pickT rfl hb9 rfl) ?_
   refine Lst.nil ?_
   exact At.meet (r13 == (0 : Int)) fl ⟨rfl, rfl, trivial⟩ rfl (some_inj H)
  rintro F17 y8 hF18 hy
  subst hy
  refine Lst.as (e' := [(35, iv y2), (48, .bool y8)]) (L' := L) ⟨rfl, rfl, trivial⟩ rfl ?_
  replace H := HKo7
  refine Lst.r (Ev.assign rfl) ?_
  refine Lst.r (Ev.assign rfl) ?_
  refine nt0 ?_
  obtain rfl := some_inj H
  refine Cd.ret ?_
  exact At.ret2 rfl (Res.tmp rfl) (Res.tmp rfl) (FLe.trans hF5 hF18) (.refl _) ⟨rfl, rfl⟩
 replace H := ite_t hb6 H
 refine Cd.condT rfl hb6 ?_
 refine Cd.skip ?_
 refine At.then ?_
 refine Cd.block ?_
 refine sr0 ?_
 refine mv0 rfl ?_
 refine mv0 rfl ?_
 refine Lst.r (Ev.add rfl rfl) ?_
 refine Lst.r (Ev.convTo64 rfl Tryz.runUnderlying3 Tryz.runUnderlying159) ?_
 refine Lst.r (Ev.shrU64 (i := BitVec.ofInt 64 (w64 (y2 + y3))) (m := 1) rfl rfl) ?_
 refine Lst.r (Ev.conv64 rfl Tryz.runUnderlying159 Tryz.runUnderlying3) ?_
 refine Lst.r (Ev.assign rfl) ?_
 refine nsr ?_
 refine mv0 rfl ?_
 refine mv0 rfl ?_
 refine mv0 rfl ?_
 obtain ⟨x19, h20, H⟩ := bind_some H
 have g21 := lat_some h20
 refine Lst.r (Ev.indexS (α := Parcel) (xs := a0) rfl rfl Tryz.runUnderlying39 Tryz.sizeOf146 rfl (by decide) (hs_a0.mono hF5 hM) g21.1 g21.2.1) ?_
 refine Lst.r (Ev.loadSA (α := Parcel) rfl (hs_a0.mono hF5 hM) Tryz.isAgg146 Tryz.sizeOf146 (ch := enc x19) (Enc.len _) (by decide) ((Get.elemN (s := 2) (x := x19) rfl g21.2.2 gh0).off (by omega))) ?_
 refine mv0 rfl ?_
 obtain ⟨r22, h23, H⟩ := bind_some H
 refine Lst.callV1 rfl rfl (by decide) (vs := [.agg (enc x19).toArray, iv a1]) (cs := []) rfl ⟨rfl, rfl, trivial⟩ Tryz.call218 (lane_Take_1_sim h23 w0 _ M _ hM) ?_
 refine Lst.r (Ev.lss rfl rfl) ?_
 refine nt0 ?_
 rcases (Bool.eq_false_or_eq_true (decide (r22 < (0 : Int)))).symm with hb26 | hb26
 ·replace H := ite_f hb26 H
  refine Cd.condF rfl hb26 ?_
  refine Cd.as (e' := [(0, Sl.v s_a0), (1, iv a1), (2, .func (.func 218) #[] #[]), (8, iv (a0.length : Int)), (9, iv y2), (11, iv (w64 (((BitVec.ofInt 64 (w64 (y2 + y3))) >>> 1).toNat : Int)))]) (L' := L) ⟨rfl, rfl, rfl, rfl, rfl, rfl, trivial⟩ rfl ?_
  refine Cd.region ?_
  refine mv0 rfl ?_
  refine Lst.r (Ev.assign rfl) ?_
  refine Lst.nil ?_
  refine At.in_normal ?_
  exact At.meet (k1, y2, w64 (((BitVec.ofInt 64 (w64 (y2 + y3))) >>> 1).toNat : Int)) hF5 ⟨rfl, rfl, rfl, rfl, rfl, rfl, trivial⟩ rfl ⟨hgo1 _ (some_inj H).symm, Nat.lt_succ_self _⟩
 replace H := ite_t hb26 H
 refine Cd.condT rfl hb26 ?_
 refine Cd.as (e' := [(0, Sl.v s_a0), (1, iv a1), (2, .func (.func 218) #[] #[]), (8, iv (a0.length : Int)), (10, iv y3), (11, iv (w64 (((BitVec.ofInt 64 (w64 (y2 + y3))) >>> 1).toNat : Int)))]) (L' := L) ⟨rfl, rfl, rfl, rfl, rfl, rfl, trivial⟩ rfl ?_
 refine Cd.region ?_
 refine mv0 rfl ?_
 refine Lst.r (Ev.add rfl rfl) ?_
 refine Lst.r (Ev.assign rfl) ?_
 refine Lst.nil ?_
 refine At.in_normal ?_
 exact At.meet (k1, w64 ((w64 (((BitVec.ofInt 64 (w64 (y2 + y3))) >>> 1).toNat : Int)) + (1 : Int)), y3) hF5 ⟨rfl, rfl, rfl, rfl, rfl, rfl, trivial⟩ rfl ⟨hgo1 _ (some_inj H).symm, Nat.lt_succ_self _⟩
set_option maxRecDepth 20000 in
theorem slices_Insert_api_Parcel_api_Parcel_sim {a0 : List Parcel} {a1 : Int} {a2 : List Parcel} {s0 s2 : Sl} {r : List Parcel} (H : slices_Insert_api_Parcel_api_Parcel a0 a1 a2 = some r) (w0 : World) (F : Frz) (M L : List Item) (hM : M.Sublist L) : Ok Tryz.prog w0 219 [Sl.v s0, iv a1, Sl.v s2] F ((.own s0 146 2 (encs a0)) :: (.own s2 146 2 (encs a2)) :: L) (fun _ L' v => ∃ (s1 : Sl), v = Sl.v s1 ∧ L' = (.own s1 146 2 (encs r)) :: L) := by
 unfold slices_Insert_api_Parcel_api_Parcel at H
 obtain ⟨m1, h1, H⟩ := bind_some H
 obtain ⟨u1, h2, H⟩ := bind_some H
 replace H := some_inj H
 have g := (cutL_some h1).1
 have hro := room_some h2
 obtain ⟨i, rfl⟩ := Int.eq_ofNat_of_zero_le g.1
 have hi : i ≤ a0.length := by omega
 rw [Int.toNat_natCast] at H
 refine Ok.enter (m := 3) (n := 95) Tryz.func219 rfl rfl rfl (by decide) ?_
 refine Cd.env (e' := [(0, Sl.v s0), (1, iv (i : Int)), (2, Sl.v s2)]) rfl ?_
 refine Cd.seq ?_
 refine Cd.region ?_
 refine Lst.capOwn (α := Parcel) (i := 0) (xs := a0) rfl rfl rfl (by decide) (fun hl0 hc0 => ?_)
 refine Lst.capOwn (α := Parcel) (i := 1) (xs := a2) rfl rfl rfl (by decide) (fun hl2 hc2 => ?_)
 refine Lst.r (Ev.assign rfl) ?_
 refine Lst.nil ?_
 refine At.then ?_
 refine Cd.seq ?_
 refine Cd.region ?_
 refine Lst.r (Ev.move rfl) ?_
 refine Lst.r (Ev.move rfl) ?_
 refine Lst.r (Ev.cut (α := Parcel) (xs := a0) (i := (i : Int)) (j := (a0.length : Int)) rfl rfl rfl Tryz.runUnderlying39 Tryz.sizeOf146 rfl (by decide) (Rd.own (i := 0) rfl rfl rfl) g.1 g.2.1 g.2.2) ?_
 refine Lst.nil ?_
 refine At.then ?_
 refine Cd.seq ?_
 refine Cd.region ?_
 refine Lst.r (Ev.move rfl) ?_
 refine Lst.r (Ev.lenS (α := Parcel) (xs := a2) (by decide) rfl rfl Tryz.runUnderlying39 (Rd.own (i := 1) rfl rfl rfl)) ?_
 refine Lst.r (Ev.assign rfl) ?_
 refine Lst.nil ?_
 refine At.then ?_
 refine Cd.seq ?_
 refine Cd.seq ?_
 refine Cd.region ?_
 refine Lst.r (Ev.move rfl) ?_
 refine Lst.r (Ev.eql rfl rfl) ?_
 refine Lst.nil ?_
 refine At.then ?_
 rcases Bool.eq_false_or_eq_true ((a2.length : Int) == (0 : Int)) with hb | hb
 ·refine Cd.condT rfl hb ?_
  refine Cd.seq ?_
  refine Cd.region ?_
  refine Lst.r (Ev.move rfl) ?_
  refine Lst.r (Ev.assign rfl) ?_
  refine Lst.nil ?_
  refine At.then ?_
  refine Cd.ret ?_
  repeat refine At.then_ret ?_
  have e0 : r = a0 := by
    have : a2 = [] := List.length_eq_zero_iff.1 (by simpa using hb)
    rw [← H, this]; simp
  exact At.ret1 (L' := (.own s0 146 2 (encs a0)) :: L) rfl (Res.tmp rfl) (FLe.refl _) (sk1 (sc1 (.refl _))) ⟨s0, rfl, by rw [e0]⟩
 refine Cd.condF rfl hb ?_
 refine Cd.skip ?_
 refine At.then ?_
 have hm : 0 < a2.length := Nat.pos_of_ne_zero fun h => by rw [h] at hb; cases hb
 refine Cd.seq ?_
 refine Cd.region ?_
 refine Lst.r (Ev.move rfl) ?_
 refine Lst.r (Ev.lenS (α := Parcel) (xs := a0) (by decide) rfl rfl Tryz.runUnderlying39 (Rd.own (i := 0) rfl rfl rfl)) ?_
 refine Lst.r (Ev.assign rfl) ?_
 refine Lst.nil ?_
 refine At.then ?_
 refine Cd.seq ?_
 refine Cd.seq ?_
 refine Cd.region ?_
 refine Lst.r (Ev.move rfl) ?_
 refine Lst.r (Ev.move rfl) ?_
 refine Lst.r (Ev.eql rfl rfl) ?_
 refine Lst.nil ?_
 refine At.then ?_
 rcases Bool.eq_false_or_eq_true ((i : Int) == (a0.length : Int)) with hb2 | hb2
 ·refine Cd.condT rfl hb2 ?_
  refine Cd.seq ?_
  refine Cd.region ?_
  refine Lst.r (Ev.move rfl) ?_
  refine Lst.r (Ev.move rfl) ?_
  refine Lst.append (i := 0) (α := Parcel) (xs := a0) (ys := a2) rfl rfl (by decide) rfl rfl Tryz.runUnderlying39 Tryz.typeInfo146 rfl rfl rfl rfl rfl rfl (Rd.own (i := 1) rfl rfl rfl) rfl hro rfl (fun s' => ?_)
  refine Lst.its (L' := (.own s' 146 2 (encs (a0 ++ a2))) :: (.own s2 146 2 (encs a2)) :: L) rfl ?_
  refine Lst.r (Ev.assign rfl) ?_
  refine Lst.nil ?_
  refine At.then ?_
  refine Cd.ret ?_
  repeat refine At.then_ret ?_
  have e0 : r = a0 ++ a2 := by
    have : i = a0.length := by have := beq_iff_eq.1 hb2; omega
    rw [← H, this]; simp
  exact At.ret1 (L' := (.own s' 146 2 (encs (a0 ++ a2))) :: L) rfl (Res.tmp rfl) (FLe.refl _) (sk1 (sc1 (.refl _))) ⟨s', rfl, by rw [e0]⟩
 refine Cd.condF rfl hb2 ?_
 refine Cd.skip ?_
 refine At.then ?_
 have hin : i < a0.length := by
   have : i ≠ a0.length := fun h => by rw [h] at hb2; simp at hb2
   omega
 refine Cd.seq ?_
 refine Cd.seq ?_
 refine Cd.region ?_
 refine Lst.r (Ev.move rfl) ?_
 refine Lst.r (Ev.move rfl) ?_
 refine Lst.r (Ev.add rfl rfl) ?_
 refine Lst.r (Ev.move rfl) ?_
 refine Lst.r (Ev.capS rfl rfl Tryz.runUnderlying39) ?_
 refine Lst.r (Ev.gtr rfl rfl) ?_
 refine Lst.nil ?_
 refine At.then ?_
 have ws : w64 ((a0.length : Int) + (a2.length : Int)) = ((a0.length + a2.length : Nat) : Int) := by rw [w64_id (by omega) (by omega)]; rfl
 have wim : w64 ((i : Int) + (a2.length : Int)) = ((i + a2.length : Nat) : Int) := by rw [w64_id (by omega) (by omega)]; rfl
 rcases Bool.eq_false_or_eq_true (decide (w64 ((a0.length : Int) + (a2.length : Int)) > (s0.cap : Int))) with hb3 | hb3
 ·refine Cd.condT rfl hb3 ?_
  have hgr : s0.cap < a0.length + a2.length := by rw [ws] at hb3; have := of_decide_eq_true hb3; omega
  have wk : w64 (w64 ((a0.length : Int) + (a2.length : Int)) - (i : Int)) = ((a0.length + a2.length - i : Nat) : Int) := by rw [ws, w64_id (by omega) (by omega)]; omega
  refine Cd.seq ?_
  refine Cd.region ?_
  refine Lst.r (Ev.move rfl) ?_
  refine Lst.r (Ev.move rfl) ?_
  refine Lst.r (Ev.cut (α := Parcel) (xs := a0) (i := 0) (j := (i : Int)) rfl rfl rfl Tryz.runUnderlying39 Tryz.sizeOf146 rfl (by decide) (Rd.own (i := 0) rfl rfl rfl) (by omega) (by omega) (by omega)) ?_
  refine Lst.r (Ev.move rfl) ?_
  refine Lst.r (Ev.move rfl) ?_
  refine Lst.r (Ev.add rfl rfl) ?_
  refine Lst.r (Ev.move rfl) ?_
  refine Lst.r (Ev.sub rfl rfl) ?_
  refine Lst.appendGrow (α := Parcel) (j := 0) (i := i) (k := a0.length + a2.length - i) (xs := a0) Parcel.zero rfl rfl (by decide) rfl (congrArg some (congrArg (Value.int .i64) wk)) Tryz.runUnderlying39 Tryz.runUnderlying3 Tryz.typeInfo146 rfl rfl rfl rfl rfl (by omega) rfl rfl rfl hi (by omega) (fun s' => ?_)
  have hfin := insert_grow (ys := a2) (z := Parcel.zero) hi
  have hX1l : (a0.take i ++ List.replicate (a0.length + a2.length - i) Parcel.zero).length = a0.length + a2.length := by simp; omega
  generalize hX1 : a0.take i ++ List.replicate (a0.length + a2.length - i) Parcel.zero = X1 at hfin hX1l ⊢
  refine Lst.r (Ev.assign rfl) ?_
  refine Lst.nil ?_
  refine At.then ?_
  refine Cd.seq ?_
  refine Cd.region ?_
  refine Lst.r (Ev.move rfl) ?_
  refine Lst.r (Ev.move rfl) ?_
  refine Lst.r (Ev.cut (α := Parcel) (xs := X1) (i := (i : Int)) (j := (X1.length : Int)) rfl rfl rfl Tryz.runUnderlying39 Tryz.sizeOf146 rfl (by decide) (Rd.own (i := 0) rfl rfl rfl) (by omega) (by omega) (by omega)) ?_
  refine Lst.r (Ev.move rfl) ?_
  refine Lst.copy (i := 0) (α := Parcel) (lo := i) (hi := X1.length) (xs := X1) (ys := a2) rfl rfl (by decide) rfl rfl Tryz.runUnderlying39 Tryz.sizeOf146 rfl (by decide) rfl rfl (Rd.own (i := 2) rfl rfl rfl) (by omega) (by omega) ?_
  have hX2l := copyL_length (xs := X1) (ys := a2) (lo := i) (hi := X1.length) (by omega) (Nat.le_refl _)
  generalize hX2 : copyL X1 i X1.length a2 = X2 at hfin hX2l ⊢
  refine Lst.its (L' := (.own s' 146 2 (encs X2)) :: (.own s0 146 2 (encs a0)) :: (.own s2 146 2 (encs a2)) :: L) rfl ?_
  refine Lst.nil ?_
  refine At.then ?_
  refine Cd.seq ?_
  refine Cd.tail 8 (by kernel_rfl) (by kernel_rfl) ?_
  refine Qt.r (Ev.move rfl) ?_
  refine Qt.r (Ev.move rfl) ?_
  refine Qt.r (Ev.move rfl) ?_
  refine Qt.r (Ev.add rfl rfl) ?_
  refine Qt.r (Ev.cut (α := Parcel) (xs := X2) (i := (w64 ((i : Int) + (a2.length : Int)))) (j := (X2.length : Int)) rfl rfl rfl Tryz.runUnderlying39 Tryz.sizeOf146 rfl (by decide) (Rd.own (i := 0) rfl rfl rfl) (by rw [wim]; omega) (by rw [wim]; omega) (by omega)) ?_
  refine Qt.r (Ev.move rfl) ?_
  refine Qt.r (Ev.move rfl) ?_
  refine Qt.r (Ev.cut (α := Parcel) (xs := a0) (i := (i : Int)) (j := (a0.length : Int)) rfl rfl rfl Tryz.runUnderlying39 Tryz.sizeOf146 rfl (by decide) (Rd.own (i := 1) rfl rfl rfl) (by omega) (by omega) (by omega)) ?_
  refine Qt.tail ?_
  have hlo : (w64 ((i : Int) + (a2.length : Int))).toNat = i + a2.length := by rw [wim]; rfl
  refine Lst.copy (i := 0) (α := Parcel) (lo := (w64 ((i : Int) + (a2.length : Int))).toNat) (hi := X2.length) (xs := X2) (ys := a0.drop i) rfl rfl (by decide) rfl rfl Tryz.runUnderlying39 Tryz.sizeOf146 rfl (by decide) rfl rfl (Rd.cutEnd (by decide) (Rd.own (i := 1) rfl rfl rfl) hi) (by omega) (by omega) ?_
  refine Lst.its (L' := (.own s' 146 2 (encs (copyL X2 (i + a2.length) X2.length (a0.drop i)))) :: (.own s0 146 2 (encs a0)) :: (.own s2 146 2 (encs a2)) :: L) (by rw [hlo]; rfl) ?_
  refine Lst.nil ?_
  refine At.then ?_
  refine Cd.seq ?_
  refine Cd.region ?_
  refine Lst.r (Ev.move rfl) ?_
  refine Lst.r (Ev.assign rfl) ?_
  refine Lst.nil ?_
  refine At.then ?_
  refine Cd.ret ?_
  repeat refine At.then_ret ?_
  have e0 : r = copyL X2 (i + a2.length) X2.length (a0.drop i) := by rw [hfin, ← H]
  exact At.ret1 (L' := (.own s' 146 2 (encs (copyL X2 (i + a2.length) X2.length (a0.drop i)))) :: L) rfl (Res.tmp rfl) (FLe.refl _) (sk1 (sc1 (sc1 (.refl _)))) ⟨s', rfl, by rw [e0]⟩
 refine Cd.condF rfl hb3 ?_
 refine Cd.skip ?_
 refine At.then ?_
 have hcap : a0.length + a2.length ≤ s0.cap := by rw [ws] at hb3; have := of_decide_eq_false hb3; omega
 refine Cd.seq ?_
 refine Cd.region ?_
 refine Lst.r (Ev.move rfl) ?_
 refine Lst.r (Ev.move rfl) ?_
 refine Lst.r (Ev.move rfl) ?_
 refine Lst.r (Ev.add rfl rfl) ?_
 refine Lst.r (Ev.cutTo rfl rfl ws Tryz.runUnderlying39 Tryz.sizeOf146 hcap) ?_
 refine Lst.extend (α := Parcel) (j := 0) (q := a2.length) (xs := a0) rfl rfl rfl (by decide) hcap (by omega) (fun js hjs => ?_)
 refine Lst.r (Ev.assign rfl) ?_
 refine Lst.nil ?_
 refine At.then ?_
 obtain ⟨s1, hs1⟩ : ∃ s1 : Sl, s1 = ⟨s0.a, a0.length + a2.length, s0.cap⟩ := ⟨_, rfl⟩
 rw [← hs1]
 have hl1 : s1.len = a0.length + a2.length := by rw [hs1]
 refine Cd.as (e' := [(0, Sl.v s1), (1, iv (i : Int)), (2, Sl.v s2), (7, iv (a2.length : Int)), (8, iv (a0.length : Int))]) (L' := (.own s1 146 2 (encs a0 ++ js)) :: (.own s2 146 2 (encs a2)) :: L) ⟨rfl, rfl, rfl, rfl, rfl, trivial⟩ rfl ?_
 refine Cd.seq ?_
 refine Cd.seq ?_
 refine Cd.region ?_
 refine Lst.r (Ev.move rfl) ?_
 refine Lst.r (Ev.move rfl) ?_
 refine Lst.r (Ev.move rfl) ?_
 refine Lst.r (Ev.move rfl) ?_
 refine Lst.r (Ev.add rfl rfl) ?_
 refine Lst.r (Ev.cutFrom rfl rfl wim Tryz.runUnderlying39 Tryz.sizeOf146 (by omega)) ?_
 refine Lst.overlapsNo (t := 39) (r := 4) (i := 0) (j := 1) rfl rfl (by decide) rfl rfl (by kernel_rfl) Tryz.sizeOf146 Tryz.func253 (by kernel_rfl) (by kernel_rfl) (by kernel_rfl) (by kernel_rfl) rfl rfl (by decide) (by omega) (by omega) (by decide) ?_
 refine Lst.r (Ev.not rfl) ?_
 refine Lst.nil ?_
 refine At.then ?_
 refine Cd.condT rfl rfl ?_
 have hdrop : (encs a0 ++ js).drop (i * 2) = encs (a0.drop i) ++ js := by
   rw [List.drop_append_of_le_length (by rw [encs_len]; exact Nat.mul_le_mul_right _ hi), show i * 2 = i * sz Parcel from rfl, ← encs_drop]
 refine Cd.seq ?_
 refine Cd.tail 8 (by kernel_rfl) (by kernel_rfl) ?_
 refine Qt.r (Ev.move rfl) ?_
 refine Qt.r (Ev.move rfl) ?_
 refine Qt.r (Ev.move rfl) ?_
 refine Qt.r (Ev.add rfl rfl) ?_
 refine Qt.r (Ev.cutFrom rfl rfl wim Tryz.runUnderlying39 Tryz.sizeOf146 (by omega)) ?_
 refine Qt.r (Ev.move rfl) ?_
 refine Qt.r (Ev.move rfl) ?_
 refine Qt.r (Ev.cutFrom (q := i) rfl rfl rfl Tryz.runUnderlying39 Tryz.sizeOf146 (by omega)) ?_
 refine Qt.tail ?_
 refine Lst.copyRaw (α := Parcel) (i := 0) (lo := i + a2.length) (hi := s1.len) (ys := a0.drop i) rfl rfl (by decide) rfl rfl Tryz.runUnderlying39 Tryz.sizeOf146 rfl (by decide) rfl (raw_from (i := 0) (rest := js) rfl (by omega) hdrop rfl) (by have : (s1.cut i s1.len 2).len = s1.len - i := rfl; rw [this, List.length_drop]; omega) (by omega) (Nat.le_refl _) ?_
 refine Lst.nil ?_
 refine At.then ?_
 refine Cd.seq ?_
 refine Cd.region ?_
 refine Lst.r (Ev.move rfl) ?_
 refine Lst.r (Ev.move rfl) ?_
 refine Lst.r (Ev.cutFrom (q := i) rfl rfl rfl Tryz.runUnderlying39 Tryz.sizeOf146 (by omega)) ?_
 refine Lst.r (Ev.move rfl) ?_
 refine Lst.copyRaw (α := Parcel) (i := 0) (lo := i) (hi := s1.len) (ys := a2) rfl rfl (by decide) rfl rfl Tryz.runUnderlying39 Tryz.sizeOf146 rfl (by decide) rfl (rd_raw (Rd.own (i := 1) rfl rfl rfl) rfl) (by omega) (by omega) (Nat.le_refl _) ?_
 have hcells : ((encs a0 ++ js).take ((i + a2.length) * 2) ++ (encs (a0.drop i) ++ (encs a0 ++ js).drop ((i + a2.length + (a0.drop i).length) * 2))).take (i * 2) ++ (encs a2 ++ ((encs a0 ++ js).take ((i + a2.length) * 2) ++ (encs (a0.drop i) ++ (encs a0 ++ js).drop ((i + a2.length + (a0.drop i).length) * 2))).drop ((i + a2.length) * 2)) = encs r := by
  have eA : encs a0 = encs (a0.take i) ++ encs (a0.drop i) := by rw [← encs_append, List.take_append_drop]
  have lA : (encs (a0.take i)).length = i * 2 := by rw [encs_len, List.length_take, Nat.min_eq_left hi]; rfl
  have lV : (encs a2).length = a2.length * 2 := encs_len _
  have lB : (encs (a0.drop i)).length = (a0.drop i).length * 2 := encs_len _
  have := insert_cells (V := encs a2) (J := js) (A := encs (a0.take i)) (B := encs (a0.drop i)) (by rw [lV, hjs])
  rw [lA, lV, lB, ← eA, ← Nat.add_mul, ← Nat.add_mul] at this
  rw [← H, encs_append, encs_append]; exact this
 refine Lst.its (L' := (.own s1 146 2 (encs r)) :: (.own s2 146 2 (encs a2)) :: L) (congrArg (fun c => Item.own s1 146 2 c :: (.own s2 146 2 (encs a2)) :: L) hcells) ?_
 refine Lst.nil ?_
 refine At.then ?_
 refine Cd.seq ?_
 refine Cd.region ?_
 refine Lst.r (Ev.move rfl) ?_
 refine Lst.r (Ev.assign rfl) ?_
 refine Lst.nil ?_
 refine At.then ?_
 refine Cd.ret ?_
 repeat refine At.then_ret ?_
 exact At.ret1 (L' := (.own s1 146 2 (encs r)) :: L) rfl (Res.tmp rfl) (FLe.refl _) (sk1 (sc1 (.refl _))) ⟨s1, rfl, rfl⟩
set_option maxRecDepth 20000 in
theorem lane_Take_sim {fu : Nat} {a0 : To} {a1 : Parcel} {s_a0_1 : Sl} {r : To × (List Str) × Int} (H : lane_Take fu a0 a1 = some r) (w0 : World) (F : Frz) (M L : List Item) (hM : M.Sublist L) (hs_a0_1 : Rd w0 F M s_a0_1 a0.Early) : Ok Tryz.prog w0 176 [.agg (enc (ToR.mk a0 s_a0_1)).toArray, .agg (enc a1).toArray] F (L) (fun _ L' v => ∃ (s1 : Sl) (s3 : Sl), v = .tuple #[.agg (enc (ToR.mk r.1 s1)).toArray, Sl.v s3, iv r.2.2] ∧ L' = (.own s1 146 2 (encs r.1.Early)) :: (.own s3 9 1 (encs r.2.1)) :: L) := by
 unfold lane_Take at H
 refine Ok.enter (m := 2) (n := 116) Tryz.func176 rfl rfl rfl (by decide) ?_
 refine Cd.env (e' := [(0, .agg (enc (ToR.mk a0 s_a0_1)).toArray), (1, .agg (enc a1).toArray)]) rfl ?_
 refine sr0 ?_
 refine Lst.box rfl rfl (by decide) rfl (cs := enc (ToR.mk a0 s_a0_1)) rfl (fun b1 => ?_)
 refine Lst.box rfl rfl (by decide) rfl (cs := enc a1) rfl (fun b3 => ?_)
 refine Lst.addNil 146 2 ?_
 refine Lst.alloc (cs := enc (ToR.mk ({ To.zero with Early := ([] : List Parcel) } : To) Sl.nil)) rfl rfl (by decide) Tryz.zeroValue41 rfl (fun b6 => ?_)
 refine Lst.addNil 9 1 ?_
 refine Lst.r (Ev.assign rfl) ?_
 refine Lst.r (Ev.assign rfl) ?_
 refine nt0 ?_
 refine Cd.seq ?_
 refine sr0 ?_
 refine Lst.r (Ev.loadA (i := 4) rfl rfl Tryz.isAgg41 Tryz.sizeOf41 (ch := enc (ToR.mk a0 s_a0_1)) (Enc.len _) gh0) ?_
 obtain ⟨r9, h10, H⟩ := bind_some H
 refine Lst.call1 rfl rfl (by decide) (vs := [.agg (enc (ToR.mk a0 s_a0_1)).toArray]) ⟨rfl, trivial⟩ Tryz.call215 (lane_CheckTo_sim h10 w0 _ M _ (sc4 (sc1 hM)) (hs_a0_1.mono fl (.refl _))) ?_
 refine Lst.r (Ev.assign rfl) ?_
 refine nsr ?_
 refine mv0 rfl ?_
 refine Lst.r (Ev.neq rfl rfl) ?_
 refine nt0 ?_
 rcases Bool.eq_false_or_eq_true (r9 != (0 : Int)) with hb13 | hb13
 ·replace H := ite_t hb13 H
  refine Cd.condT rfl hb13 ?_
  refine sr0 ?_
  refine Lst.r (Ev.build (v := .agg (enc (ToR.mk To.zero Sl.nil)).toArray) (pv := []) trivial (fun w => by kernel_rfl)) ?_
  refine mv0 rfl ?_
  refine Lst.store (i := 1) rfl rfl rfl rfl rfl Tryz.sizeOf41 (vs := enc (ToR.mk To.zero Sl.nil)) rfl (Enc.len _) (Enc.one _) (cs' := enc (ToR.mk To.zero Sl.nil)) (Put.here ((Enc.len _).trans (Enc.len _).symm)) (L' := (.own Sl.nil 9 1 (encs ([] : List Str))) :: (.blk b6 (enc (ToR.mk To.zero Sl.nil)) 41) :: (.own Sl.nil 146 2 (encs ([] : List Parcel))) :: (.blk b3 (enc a1) 146) :: (.blk b1 (enc (ToR.mk a0 s_a0_1)) 41) :: L) rfl ?_
  refine Lst.addNil 9 1 ?_
  refine Lst.r (Ev.assign rfl) ?_
  refine Lst.r (Ev.assign rfl) ?_
  refine nt0 ?_
  obtain rfl := some_inj H
  refine Cd.ret ?_
  refine At.then_ret ?_
  refine At.addNil 146 2 ?_
  exact At.ret3 rfl (Res.cellA (i := 3) rfl rfl Tryz.isAgg41 Tryz.sizeOf41 (Enc.len _)) (Res.tmp rfl) (Res.tmp rfl) fl (sk1 (sk1 (sc1 (sc1 (sc1 (sc1 (sc1 (.refl _)))))))) ⟨Sl.nil, Sl.nil, rfl, rfl⟩
 replace H := ite_f hb13 H
 refine Cd.condF rfl hb13 ?_
 refine Cd.skip ?_
 refine At.then ?_
 refine Cd.seq ?_
 refine Cd.block ?_
 refine sr0 ?_
 refine Lst.r (Ev.fieldAddr (off' := 0) rfl Tryz.runUnderlying146 rfl Tryz.sizeOf3 rfl rfl) ?_
 refine Lst.r (Ev.load (i := 3) rfl rfl Tryz.isAgg3 (v := iv a1.Seq) ((Parcel.get_Seq gh0).off (by rfl))) ?_
 obtain ⟨r16, h17, H⟩ := bind_some H
 refine Lst.call1 rfl rfl (by decide) (vs := [iv a1.Seq, iv (0 : Int), iv (16777214 : Int)]) ⟨rfl, rfl, rfl, trivial⟩ Tryz.call168 (lane_in_sim h17 w0 _ M _ (sc4 (sc1 hM))) ?_
 refine Lst.r (Ev.not rfl) ?_
 refine Lst.r (Ev.assign rfl) ?_
 refine nt0 ?_
 rcases Bool.eq_false_or_eq_true (!r16) with hb20 | hb20
 ·replace H := ite_t hb20 H
  refine Cd.condT rfl hb20 ?_
  refine Cd.seq ?_
  refine Cd.as (e' := [(4, pv b6 0)]) (L' := (.own Sl.nil 9 1 (encs ([] : List Str))) :: (.blk b6 (enc (ToR.mk ({ To.zero with Early := ([] : List Parcel) } : To) Sl.nil)) 41) :: (.own Sl.nil 146 2 (encs ([] : List Parcel))) :: (.blk b3 (enc a1) 146) :: (.blk b1 (enc (ToR.mk a0 s_a0_1)) 41) :: L) ⟨rfl, trivial⟩ rfl ?_
  refine Cd.region ?_
  refine Lst.r (Ev.build (v := .agg (enc (ToR.mk To.zero Sl.nil)).toArray) (pv := []) trivial (fun w => by kernel_rfl)) ?_
  refine Lst.store (i := 1) rfl rfl rfl rfl rfl Tryz.sizeOf41 (vs := enc (ToR.mk To.zero Sl.nil)) rfl (Enc.len _) (Enc.one _) (cs' := enc (ToR.mk To.zero Sl.nil)) (Put.here ((Enc.len _).trans (Enc.len _).symm)) (L' := (.own Sl.nil 9 1 (encs ([] : List Str))) :: (.blk b6 (enc (ToR.mk To.zero Sl.nil)) 41) :: (.own Sl.nil 146 2 (encs ([] : List Parcel))) :: (.blk b3 (enc a1) 146) :: (.blk b1 (enc (ToR.mk a0 s_a0_1)) 41) :: L) rfl ?_
  refine Lst.addNil 9 1 ?_
  refine Lst.r (Ev.assign rfl) ?_
  refine Lst.r (Ev.assign rfl) ?_
  refine nt0 ?_
  obtain rfl := some_inj H
  refine Cd.ret ?_
  refine At.in_ret ?_
  refine At.then_ret ?_
  refine At.addNil 146 2 ?_
  exact At.ret3 rfl (Res.cellA (i := 3) rfl rfl Tryz.isAgg41 Tryz.sizeOf41 (Enc.len _)) (Res.tmp rfl) (Res.tmp rfl) fl (sk1 (sk1 (sc1 (sc1 (sc1 (sc1 (sc1 (.refl _)))))))) ⟨Sl.nil, Sl.nil, rfl, rfl⟩
 replace H := ite_f hb20 H
 refine Cd.condF rfl hb20 ?_
 refine sr0 ?_
 refine Lst.r (Ev.fieldAddr (off' := 1) rfl Tryz.runUnderlying146 rfl Tryz.sizeOf9 rfl rfl) ?_
 refine Lst.r (Ev.load (i := 3) rfl rfl Tryz.isAgg9 (v := Str.v a1.Text) ((Parcel.get_Text gh0).off (by rfl))) ?_
 obtain ⟨r23, h24, H⟩ := bind_some H
 refine Lst.call1 rfl rfl (by decide) (vs := [Str.v a1.Text]) ⟨rfl, trivial⟩ Tryz.call112 (lane_long_sim h24 w0 _ M _ (sc4 (sc1 hM))) ?_
 refine Lst.r (Ev.assign rfl) ?_
 refine nt0 ?_
 rcases Bool.eq_false_or_eq_true r23 with hb27 | hb27
 ·replace H := ite_t hb27 H
  refine Cd.condT rfl hb27 ?_
  refine Cd.seq ?_
  refine Cd.as (e' := [(4, pv b6 0)]) (L' := (.own Sl.nil 9 1 (encs ([] : List Str))) :: (.blk b6 (enc (ToR.mk ({ To.zero with Early := ([] : List Parcel) } : To) Sl.nil)) 41) :: (.own Sl.nil 146 2 (encs ([] : List Parcel))) :: (.blk b3 (enc a1) 146) :: (.blk b1 (enc (ToR.mk a0 s_a0_1)) 41) :: L) ⟨rfl, trivial⟩ rfl ?_
  refine Cd.region ?_
  refine Lst.r (Ev.build (v := .agg (enc (ToR.mk To.zero Sl.nil)).toArray) (pv := []) trivial (fun w => by kernel_rfl)) ?_
  refine Lst.store (i := 1) rfl rfl rfl rfl rfl Tryz.sizeOf41 (vs := enc (ToR.mk To.zero Sl.nil)) rfl (Enc.len _) (Enc.one _) (cs' := enc (ToR.mk To.zero Sl.nil)) (Put.here ((Enc.len _).trans (Enc.len _).symm)) (L' := (.own Sl.nil 9 1 (encs ([] : List Str))) :: (.blk b6 (enc (ToR.mk To.zero Sl.nil)) 41) :: (.own Sl.nil 146 2 (encs ([] : List Parcel))) :: (.blk b3 (enc a1) 146) :: (.blk b1 (enc (ToR.mk a0 s_a0_1)) 41) :: L) rfl ?_
  refine Lst.addNil 9 1 ?_
  refine Lst.r (Ev.assign rfl) ?_
  refine Lst.r (Ev.assign rfl) ?_
  refine nt0 ?_
  obtain rfl := some_inj H
  refine Cd.ret ?_
  refine At.in_ret ?_
  refine At.then_ret ?_
  refine At.addNil 146 2 ?_
  exact At.ret3 rfl (Res.cellA (i := 3) rfl rfl Tryz.isAgg41 Tryz.sizeOf41 (Enc.len _)) (Res.tmp rfl) (Res.tmp rfl) fl (sk1 (sk1 (sc1 (sc1 (sc1 (sc1 (sc1 (.refl _)))))))) ⟨Sl.nil, Sl.nil, rfl, rfl⟩
 replace H := ite_f hb27 H
 refine Cd.condF rfl hb27 ?_
 refine Cd.skip ?_
 refine At.in_normal ?_
 refine At.then ?_
 refine Cd.seq ?_
 refine Cd.as (e' := [(2, pv b1 0), (3, pv b3 0), (4, pv b6 0)]) (L' := (.own Sl.nil 9 1 (encs ([] : List Str))) :: (.blk b6 (enc (ToR.mk ({ To.zero with Early := ([] : List Parcel) } : To) Sl.nil)) 41) :: (.own Sl.nil 146 2 (encs ([] : List Parcel))) :: (.blk b3 (enc a1) 146) :: (.blk b1 (enc (ToR.mk a0 s_a0_1)) 41) :: L) ⟨rfl, rfl, rfl, trivial⟩ rfl ?_
 obtain ⟨r30, h31, H⟩ := bind_some H
 obtain ⟨o45, h46, H⟩ := Let_some H
 refine Cd.headMeet (σ := Nat × Sl × (List Parcel) × Sl × (List Parcel)) 7 (fun (b40, s41, l42, s43, l44) => [(2, pv b1 0), (3, pv b3 0), (4, pv b6 0), (8, pv b40 0), (34, .agg (enc (ToR.mk ({ To.zero with Next := a0.Next, Early := l44 } : To) s43)).toArray)]) (fun (b40, s41, l42, s43, l44) => (.blk b40 (enc (ToR.mk ({ To.zero with Early := l42 } : To) s41)) 41) :: (.own s41 146 2 (encs l42)) :: (.own s43 146 2 (encs l44)) :: (.own Sl.nil 9 1 (encs ([] : List Str))) :: (.blk b6 (enc (ToR.mk ({ To.zero with Early := ([] : List Parcel) } : To) Sl.nil)) 41) :: (.own Sl.nil 146 2 (encs ([] : List Parcel))) :: (.blk b3 (enc a1) 146) :: (.blk b1 (enc (ToR.mk a0 s_a0_1)) 41) :: L) (fun _ (b40, s41, l42, s43, l44) => (l42, l44) = o45) (by kernel_rfl) (by kernel_rfl) (behind_sink (by kernel_rfl) (by kernel_rfl) (by kernel_rfl)) (by kernel_rfl) (fun hsel hlt => ?_) ?_
 ·refine HdJ.keep (fun w => St w0 F ((.own Sl.nil 9 1 (encs ([] : List Str))) :: (.blk b6 (enc (ToR.mk ({ To.zero with Early := ([] : List Parcel) } : To) Sl.nil)) 41) :: (.own Sl.nil 146 2 (encs ([] : List Parcel))) :: (.blk b3 (enc a1) 146) :: (.blk b1 (enc (ToR.mk a0 s_a0_1)) 41) :: L) w) (fun w h => trivial) ?_
  refine HdJ.ts hsel hlt 0 (sk1 (sk1 (sk1 (sk1 (sk1 (.refl _)))))) rfl (Ev.fieldAddr (off' := 0) rfl Tryz.runUnderlying41 rfl Tryz.sizeOf3 rfl rfl) ?_
  refine HdJ.ts hsel hlt 1 (sk1 (sk1 (sk1 (sk1 (sk1 (.refl _)))))) rfl (Ev.load (i := 4) rfl rfl Tryz.isAgg3 (v := iv a0.Next) ((ToR.get_Next gh0).off (by rfl))) ?_
  refine HdJ.ts hsel hlt 2 (sk1 (sk1 (sk1 (sk1 (sk1 (.refl _)))))) rfl (Ev.fieldAddr (off' := 1) rfl Tryz.runUnderlying41 rfl Tryz.sizeOf39 rfl rfl) ?_
  refine HdJ.ts hsel hlt 3 (sk1 (sk1 (sk1 (sk1 (sk1 (.refl _)))))) rfl (Ev.load (i := 4) rfl rfl Tryz.isAgg39 (v := Sl.v s_a0_1) ((ToR.get_Early gh0).off (by rfl))) ?_
  refine HdJ.step [4, 6] (by kernel_rfl) rfl ?_
  refine HdStep.c (fun inv => ?_) ?_
  ·refine Lst.call rfl rfl (by decide) (vs := [Sl.v s_a0_1]) ⟨rfl, trivial⟩ Tryz.call216 (slices_Clone_api_Parcel_api_Parcel_sim h31 w0 _ M _ (sc4 (sc1 hM)) (hs_a0_1.mono fl (.refl _))) (fun F48 L' v hF49 hv => ?_)
   obtain ⟨s47, rfl, rfl⟩ := hv
   refine Lst.nil ?_
   refine At.hd inv (fun w h => (h.weaken hF49).sublist (sc1 (sk1 (sk1 (sk1 (sk1 (sk1 (.refl _)))))))) ?_
   refine HdJ.keep (fun w => St w0 F48 ((.own s47 146 2 (encs r30)) :: (.own Sl.nil 9 1 (encs ([] : List Str))) :: (.blk b6 (enc (ToR.mk ({ To.zero with Early := ([] : List Parcel) } : To) Sl.nil)) 41) :: (.own Sl.nil 146 2 (encs ([] : List Parcel))) :: (.blk b3 (enc a1) 146) :: (.blk b1 (enc (ToR.mk a0 s_a0_1)) 41) :: L) w) (fun w h => (h.weaken hF49).sublist (sc1 (sk1 (sk1 (sk1 (sk1 (sk1 (.refl _)))))))) ?_
   refine HdJ.ts hsel hlt 5 (sk1 (sk1 (sk1 (sk1 (sk1 (sk1 (.refl _))))))) rfl (Ev.build (v := .agg (enc (ToR.mk ({ To.zero with Next := a0.Next, Early := r30 } : To) s47)).toArray) (pv := [(0, iv a0.Next), (1, Sl.v s47)]) ⟨rfl, rfl, ⟨rfl, rfl, trivial⟩⟩ (run_buildStruct (places := #[(0, 1), (1, 1)]) Tryz.zeroValue41 (zs := enc (ToR.mk To.zero Sl.nil)) rfl Tryz.runUnderlying41 (fun w => by kernel_rfl) (fill_cons (cs := enc (ToR.mk To.zero Sl.nil)) (cs' := enc (ToR.mk ({ To.zero with Next := a0.Next } : To) Sl.nil)) (vs := [iv a0.Next]) rfl rfl rfl ((ToR.put_Next (p := (ToR.mk To.zero Sl.nil)) (y := a0.Next) (Put.here (vs := [iv a0.Next]) rfl)).off rfl) (fill_cons (cs := enc (ToR.mk ({ To.zero with Next := a0.Next } : To) Sl.nil)) (cs' := enc (ToR.mk ({ To.zero with Next := a0.Next, Early := r30 } : To) s47)) (vs := [Sl.v s47]) rfl rfl rfl ((ToR.put_Early (p := (ToR.mk ({ To.zero with Next := a0.Next } : To) Sl.nil)) (y := s47) (Put.here (vs := [Sl.v s47]) rfl)).off rfl) fill_nil)))) ?_
   refine HdJ.o1 6 (fun inv => ?_)
   refine Lst.addNil 146 2 ?_
   refine Lst.alloc (cs := enc (ToR.mk ({ To.zero with Early := ([] : List Parcel) } : To) Sl.nil)) rfl rfl (by decide) Tryz.zeroValue41 rfl (fun b50 => ?_)
   refine hds inv (sc1 (sc1 (sk1 (sk1 (sk1 (sk1 (sk1 (sk1 (.refl _))))))))) ?_
   refine HdJ.done (by kernel_rfl) ?_
   exact At.meetN (b50, Sl.nil, ([] : List Parcel), s47, r30) hF49 ⟨rfl, rfl, rfl, rfl, rfl, trivial⟩ rfl h46
  refine HdStep.c (fun inv => ?_) trivial
  refine Lst.addNil 146 2 ?_
  refine Lst.alloc (cs := enc (ToR.mk ({ To.zero with Early := ([] : List Parcel) } : To) Sl.nil)) rfl rfl (by decide) Tryz.zeroValue41 rfl (fun b51 => ?_)
  refine hds inv (sc1 (sc1 (sk1 (sk1 (sk1 (sk1 (sk1 (.refl _)))))))) ?_
  refine HdJ.o1 4 (fun inv => ?_)
  refine Lst.call rfl rfl (by decide) (vs := [Sl.v s_a0_1]) ⟨rfl, trivial⟩ Tryz.call216 (slices_Clone_api_Parcel_api_Parcel_sim h31 w0 _ M _ (sc4 (sc2 (sc1 hM))) (hs_a0_1.mono fl (.refl _))) (fun F53 L' v hF54 hv => ?_)
  obtain ⟨s52, rfl, rfl⟩ := hv
  refine Lst.nil ?_
  refine At.hd inv (fun w h => (h.weaken hF54).sublist (sc1 (sc1 (sc1 (sk1 (sk1 (sk1 (sk1 (sk1 (.refl _)))))))))) ?_
  refine HdJ.keep (fun w => St w0 F53 ((.own s52 146 2 (encs r30)) :: (.blk b51 (enc (ToR.mk ({ To.zero with Early := ([] : List Parcel) } : To) Sl.nil)) 41) :: (.own Sl.nil 146 2 (encs ([] : List Parcel))) :: (.own Sl.nil 9 1 (encs ([] : List Str))) :: (.blk b6 (enc (ToR.mk ({ To.zero with Early := ([] : List Parcel) } : To) Sl.nil)) 41) :: (.own Sl.nil 146 2 (encs ([] : List Parcel))) :: (.blk b3 (enc a1) 146) :: (.blk b1 (enc (ToR.mk a0 s_a0_1)) 41) :: L) w) (fun w h => (h.weaken hF54).sublist (sc1 (sc1 (sc1 (sk1 (sk1 (sk1 (sk1 (sk1 (.refl _)))))))))) ?_
  refine HdJ.ts hsel hlt 5 (sk1 (sk1 (sk1 (sk1 (sk1 (sk1 (sk1 (sk1 (.refl _))))))))) rfl (Ev.build (v := .agg (enc (ToR.mk ({ To.zero with Next := a0.Next, Early := r30 } : To) s52)).toArray) (pv := [(0, iv a0.Next), (1, Sl.v s52)]) ⟨rfl, rfl, ⟨rfl, rfl, trivial⟩⟩ (run_buildStruct (places := #[(0, 1), (1, 1)]) Tryz.zeroValue41 (zs := enc (ToR.mk To.zero Sl.nil)) rfl Tryz.runUnderlying41 (fun w => by kernel_rfl) (fill_cons (cs := enc (ToR.mk To.zero Sl.nil)) (cs' := enc (ToR.mk ({ To.zero with Next := a0.Next } : To) Sl.nil)) (vs := [iv a0.Next]) rfl rfl rfl ((ToR.put_Next (p := (ToR.mk To.zero Sl.nil)) (y := a0.Next) (Put.here (vs := [iv a0.Next]) rfl)).off rfl) (fill_cons (cs := enc (ToR.mk ({ To.zero with Next := a0.Next } : To) Sl.nil)) (cs' := enc (ToR.mk ({ To.zero with Next := a0.Next, Early := r30 } : To) s52)) (vs := [Sl.v s52]) rfl rfl rfl ((ToR.put_Early (p := (ToR.mk ({ To.zero with Next := a0.Next } : To) Sl.nil)) (y := s52) (Put.here (vs := [Sl.v s52]) rfl)).off rfl) fill_nil)))) ?_
  refine HdJ.done (by kernel_rfl) ?_
  refine At.front (i := 2) rfl rfl ?_
  refine At.front (i := 2) rfl (L' := (.blk b51 (enc (ToR.mk ({ To.zero with Early := ([] : List Parcel) } : To) Sl.nil)) 41) :: (.own Sl.nil 146 2 (encs ([] : List Parcel))) :: (.own s52 146 2 (encs r30)) :: (.own Sl.nil 9 1 (encs ([] : List Str))) :: (.blk b6 (enc (ToR.mk ({ To.zero with Early := ([] : List Parcel) } : To) Sl.nil)) 41) :: (.own Sl.nil 146 2 (encs ([] : List Parcel))) :: (.blk b3 (enc a1) 146) :: (.blk b1 (enc (ToR.mk a0 s_a0_1)) 41) :: L) rfl ?_
  exact At.meetN (b51, Sl.nil, ([] : List Parcel), s52, r30) hF54 ⟨rfl, rfl, rfl, rfl, rfl, trivial⟩ rfl h46
 rintro F55 ⟨b40, s41, l42, s43, l44⟩ hF56 hy
 subst hy
 try dsimp only at H
 refine Lst.as (e' := [(2, pv b1 0), (3, pv b3 0), (4, pv b6 0), (8, pv b40 0), (34, .agg (enc (ToR.mk ({ To.zero with Next := a0.Next, Early := l44 } : To) s43)).toArray)]) (L' := (.blk b40 (enc (ToR.mk ({ To.zero with Early := l42 } : To) s41)) 41) :: (.own s41 146 2 (encs l42)) :: (.own s43 146 2 (encs l44)) :: (.own Sl.nil 9 1 (encs ([] : List Str))) :: (.blk b6 (enc (ToR.mk ({ To.zero with Early := ([] : List Parcel) } : To) Sl.nil)) 41) :: (.own Sl.nil 146 2 (encs ([] : List Parcel))) :: (.blk b3 (enc a1) 146) :: (.blk b1 (enc (ToR.mk a0 s_a0_1)) 41) :: L) ⟨rfl, rfl, rfl, rfl, rfl, trivial⟩ rfl ?_
 refine Lst.store (i := 0) rfl rfl rfl rfl rfl Tryz.sizeOf41 (vs := enc (ToR.mk ({ To.zero with Next := a0.Next, Early := l44 } : To) s43)) rfl (Enc.len _) (Enc.one _) (cs' := enc (ToR.mk ({ To.zero with Next := a0.Next, Early := l44 } : To) s43)) (Put.here ((Enc.len _).trans (Enc.len _).symm)) (L' := (.blk b40 (enc (ToR.mk ({ To.zero with Next := a0.Next, Early := l44 } : To) s43)) 41) :: (.own s41 146 2 (encs l42)) :: (.own s43 146 2 (encs l44)) :: (.own Sl.nil 9 1 (encs ([] : List Str))) :: (.blk b6 (enc (ToR.mk ({ To.zero with Early := ([] : List Parcel) } : To) Sl.nil)) 41) :: (.own Sl.nil 146 2 (encs ([] : List Parcel))) :: (.blk b3 (enc a1) 146) :: (.blk b1 (enc (ToR.mk a0 s_a0_1)) 41) :: L) rfl ?_
 refine nsr ?_
 refine Lst.r (Ev.fieldAddr (off' := 1) rfl Tryz.runUnderlying41 rfl Tryz.sizeOf39 rfl rfl) ?_
 refine Lst.r (Ev.load (i := 0) rfl rfl Tryz.isAgg39 (v := Sl.v s43) ((ToR.get_Early gh0).off (by rfl))) ?_
 refine Lst.r (Ev.fieldAddr (off' := 0) rfl Tryz.runUnderlying146 rfl Tryz.sizeOf3 rfl rfl) ?_
 refine Lst.r (Ev.load (i := 6) rfl rfl Tryz.isAgg3 (v := iv a1.Seq) ((Parcel.get_Seq gh0).off (by rfl))) ?_
 obtain ⟨r57, h58, H⟩ := bind_some H
 refine Lst.call1 rfl rfl (by decide) (vs := [Sl.v s43, iv a1.Seq, .func (.func 218) #[] #[]]) ⟨rfl, rfl, rfl, trivial⟩ Tryz.call217 (slices_BinarySearchFunc_api_Parcel_api_Parcel_int_Take_1_sim h58 w0 _ _ _ (.refl _) (rdo 2 rfl rfl rfl)) ?_
 refine mv0 rfl ?_
 refine Lst.r (Ev.extract rfl rfl) ?_
 refine Lst.r (Ev.extract rfl rfl) ?_
 refine Lst.r (Ev.assign rfl) ?_
 refine Lst.r (Ev.assign rfl) ?_
 refine nt0 ?_
 refine Cd.seq ?_
 refine sr0 ?_
 refine Lst.r (Ev.fieldAddr (off' := 0) rfl Tryz.runUnderlying146 rfl Tryz.sizeOf3 rfl rfl) ?_
 refine Lst.r (Ev.load (i := 6) rfl rfl Tryz.isAgg3 (v := iv a1.Seq) ((Parcel.get_Seq gh0).off (by rfl))) ?_
 refine Lst.r (Ev.fieldAddr (off' := 0) rfl Tryz.runUnderlying41 rfl Tryz.sizeOf3 rfl rfl) ?_
 refine Lst.r (Ev.load (i := 7) rfl rfl Tryz.isAgg3 (v := iv a0.Next) ((ToR.get_Next gh0).off (by rfl))) ?_
 refine Lst.r (Ev.lss rfl rfl) ?_
 refine mv0 rfl ?_
 obtain ⟨o61, H, HKo61⟩ := bind_some H
 refine Lst.join (σ := Bool) 7 (fun y62 => [(2, pv b1 0), (3, pv b3 0), (4, pv b6 0), (8, pv b40 0), (9, iv r57.1), (10, .bool r57.2), (55, .bool y62)]) (fun y62 => (.blk b40 (enc (ToR.mk ({ To.zero with Next := a0.Next, Early := l44 } : To) s43)) 41) :: (.own s41 146 2 (encs l42)) :: (.own s43 146 2 (encs l44)) :: (.own Sl.nil 9 1 (encs ([] : List Str))) :: (.blk b6 (enc (ToR.mk ({ To.zero with Early := ([] : List Parcel) } : To) Sl.nil)) 41) :: (.own Sl.nil 146 2 (encs ([] : List Parcel))) :: (.blk b3 (enc a1) 146) :: (.blk b1 (enc (ToR.mk a0 s_a0_1)) 41) :: L) (fun _ y62 => y62 = o61) ?_ ?_
 ·rcases Bool.eq_false_or_eq_true (decide (a1.Seq < a0.Next)) with hb63 | hb63
  ·replace H := ite_t hb63 H
   refine Lst.skip rfl rfl rfl hb63 rfl (by decide) ?_
   refine Lst.skip rfl rfl rfl hb63 rfl (by decide) ?_
   refine Lst.skip rfl rfl rfl hb63 rfl (by decide) ?_
   refine Lst.skip rfl rfl rfl hb63 rfl (by decide) ?_
   refine Lst.skip rfl rfl rfl hb63 rfl (by decide) ?_
   refine Lst.skip rfl rfl rfl hb63 rfl (by decide) ?_
   refine Lst.r (Ev.pickT rfl hb63 rfl) ?_
   refine Lst.nil ?_
   exact At.meet true fl ⟨rfl, rfl, rfl, rfl, rfl, rfl, rfl, trivial⟩ rfl (some_inj H)
  replace H := ite_f hb63 H
  refine Lst.rG hb63 (Ev.fieldAddr (off' := 0) rfl Tryz.runUnderlying146 rfl Tryz.sizeOf3 rfl rfl) ?_
  refine Lst.rG hb63 (Ev.load (i := 6) rfl rfl Tryz.isAgg3 (v := iv a1.Seq) ((Parcel.get_Seq gh0).off (by rfl))) ?_
  refine Lst.rG hb63 (Ev.fieldAddr (off' := 0) rfl Tryz.runUnderlying41 rfl Tryz.sizeOf3 rfl rfl) ?_
  refine Lst.rG hb63 (Ev.load (i := 7) rfl rfl Tryz.isAgg3 (v := iv a0.Next) ((ToR.get_Next gh0).off (by rfl))) ?_
  refine Lst.rG hb63 (Ev.add rfl rfl) ?_
  refine Lst.rG hb63 (Ev.geq rfl rfl) ?_
  refine Lst.r (Ev.pickF rfl hb63 rfl) ?_
  refine Lst.nil ?_
  exact At.meet (decide (a1.Seq ≥ (w64 (a0.Next + (16 : Int))))) fl ⟨rfl, rfl, rfl, rfl, rfl, rfl, rfl, trivial⟩ rfl (some_inj H)
 rintro F64 y62 hF65 hy
 subst hy
 refine Lst.as (e' := [(2, pv b1 0), (3, pv b3 0), (4, pv b6 0), (8, pv b40 0), (9, iv r57.1), (10, .bool r57.2), (55, .bool y62)]) (L' := (.blk b40 (enc (ToR.mk ({ To.zero with Next := a0.Next, Early := l44 } : To) s43)) 41) :: (.own s41 146 2 (encs l42)) :: (.own s43 146 2 (encs l44)) :: (.own Sl.nil 9 1 (encs ([] : List Str))) :: (.blk b6 (enc (ToR.mk ({ To.zero with Early := ([] : List Parcel) } : To) Sl.nil)) 41) :: (.own Sl.nil 146 2 (encs ([] : List Parcel))) :: (.blk b3 (enc a1) 146) :: (.blk b1 (enc (ToR.mk a0 s_a0_1)) 41) :: L) ⟨rfl, rfl, rfl, rfl, rfl, rfl, rfl, trivial⟩ rfl ?_
 replace H := HKo61
 refine mv0 rfl ?_
 obtain ⟨o66, H, HKo66⟩ := bind_some H
 refine Lst.join (σ := Bool) 2 (fun y67 => [(2, pv b1 0), (3, pv b3 0), (4, pv b6 0), (8, pv b40 0), (9, iv r57.1), (58, .bool y67)]) (fun y67 => (.blk b40 (enc (ToR.mk ({ To.zero with Next := a0.Next, Early := l44 } : To) s43)) 41) :: (.own s41 146 2 (encs l42)) :: (.own s43 146 2 (encs l44)) :: (.own Sl.nil 9 1 (encs ([] : List Str))) :: (.blk b6 (enc (ToR.mk ({ To.zero with Early := ([] : List Parcel) } : To) Sl.nil)) 41) :: (.own Sl.nil 146 2 (encs ([] : List Parcel))) :: (.blk b3 (enc a1) 146) :: (.blk b1 (enc (ToR.mk a0 s_a0_1)) 41) :: L) (fun _ y67 => y67 = o66) ?_ ?_
 ·rcases Bool.eq_false_or_eq_true y62 with hb68 | hb68
  ·replace H := ite_t hb68 H
   refine Lst.skip rfl rfl rfl hb68 rfl (by decide) ?_
   refine Lst.r (Ev.pickT rfl hb68 rfl) ?_
   refine Lst.nil ?_
   exact At.meet true fl ⟨rfl, rfl, rfl, rfl, rfl, rfl, trivial⟩ rfl (some_inj H)
  replace H := ite_f hb68 H
  refine Lst.rG hb68 (Ev.move rfl) ?_
  refine Lst.r (Ev.pickF rfl hb68 rfl) ?_
  refine Lst.nil ?_
  exact At.meet r57.2 fl ⟨rfl, rfl, rfl, rfl, rfl, rfl, trivial⟩ rfl (some_inj H)
 rintro F69 y67 hF70 hy
 subst hy
 refine Lst.as (e' := [(2, pv b1 0), (3, pv b3 0), (4, pv b6 0), (8, pv b40 0), (9, iv r57.1), (58, .bool y67)]) (L' := (.blk b40 (enc (ToR.mk ({ To.zero with Next := a0.Next, Early := l44 } : To) s43)) 41) :: (.own s41 146 2 (encs l42)) :: (.own s43 146 2 (encs l44)) :: (.own Sl.nil 9 1 (encs ([] : List Str))) :: (.blk b6 (enc (ToR.mk ({ To.zero with Early := ([] : List Parcel) } : To) Sl.nil)) 41) :: (.own Sl.nil 146 2 (encs ([] : List Parcel))) :: (.blk b3 (enc a1) 146) :: (.blk b1 (enc (ToR.mk a0 s_a0_1)) 41) :: L) ⟨rfl, rfl, rfl, rfl, rfl, rfl, trivial⟩ rfl ?_
 replace H := HKo66
 refine nt0 ?_
 rcases Bool.eq_false_or_eq_true y67 with hb71 | hb71
 ·replace H := ite_t hb71 H
  refine Cd.condT rfl hb71 ?_
  refine sr0 ?_
  refine Lst.r (Ev.loadA (i := 0) rfl rfl Tryz.isAgg41 Tryz.sizeOf41 (ch := enc (ToR.mk ({ To.zero with Next := a0.Next, Early := l44 } : To) s43)) (Enc.len _) gh0) ?_
  refine Lst.store (i := 4) rfl rfl rfl rfl rfl Tryz.sizeOf41 (vs := enc (ToR.mk ({ To.zero with Next := a0.Next, Early := l44 } : To) s43)) rfl (Enc.len _) (Enc.one _) (cs' := enc (ToR.mk ({ To.zero with Next := a0.Next, Early := l44 } : To) s43)) (Put.here ((Enc.len _).trans (Enc.len _).symm)) (L' := (.blk b40 (enc (ToR.mk ({ To.zero with Next := a0.Next, Early := l44 } : To) s43)) 41) :: (.own s41 146 2 (encs l42)) :: (.own s43 146 2 (encs l44)) :: (.own Sl.nil 9 1 (encs ([] : List Str))) :: (.blk b6 (enc (ToR.mk ({ To.zero with Next := a0.Next, Early := l44 } : To) s43)) 41) :: (.own Sl.nil 146 2 (encs ([] : List Parcel))) :: (.blk b3 (enc a1) 146) :: (.blk b1 (enc (ToR.mk a0 s_a0_1)) 41) :: L) rfl ?_
  refine Lst.addNil 9 1 ?_
  refine Lst.r (Ev.assign rfl) ?_
  refine Lst.r (Ev.assign rfl) ?_
  refine nt0 ?_
  obtain rfl := some_inj H
  refine Cd.ret ?_
  refine At.then_ret ?_
  refine At.front (i := 3) rfl (L' := (.own s43 146 2 (encs l44)) :: (.own Sl.nil 9 1 (encs ([] : List Str))) :: (.blk b40 (enc (ToR.mk ({ To.zero with Next := a0.Next, Early := l44 } : To) s43)) 41) :: (.own s41 146 2 (encs l42)) :: (.own Sl.nil 9 1 (encs ([] : List Str))) :: (.blk b6 (enc (ToR.mk ({ To.zero with Next := a0.Next, Early := l44 } : To) s43)) 41) :: (.own Sl.nil 146 2 (encs ([] : List Parcel))) :: (.blk b3 (enc a1) 146) :: (.blk b1 (enc (ToR.mk a0 s_a0_1)) 41) :: L) rfl ?_
  exact At.ret3 rfl (Res.cellA (i := 5) rfl rfl Tryz.isAgg41 Tryz.sizeOf41 (Enc.len _)) (Res.tmp rfl) (Res.tmp rfl) (FLe.trans (FLe.trans hF56 hF65) hF70) (sk1 (sk1 (sc1 (sc1 (sc1 (sc1 (sc1 (sc1 (sc1 (.refl _)))))))))) ⟨s43, Sl.nil, rfl, rfl⟩
 replace H := ite_f hb71 H
 refine Cd.condF rfl hb71 ?_
 refine Cd.skip ?_
 refine At.then ?_
 refine Cd.seq ?_
 refine sr0 ?_
 refine Lst.r (Ev.fieldAddr (off' := 0) rfl Tryz.runUnderlying146 rfl Tryz.sizeOf3 rfl rfl) ?_
 refine Lst.r (Ev.load (i := 6) rfl rfl Tryz.isAgg3 (v := iv a1.Seq) ((Parcel.get_Seq gh0).off (by rfl))) ?_
 refine Lst.r (Ev.fieldAddr (off' := 0) rfl Tryz.runUnderlying41 rfl Tryz.sizeOf3 rfl rfl) ?_
 refine Lst.r (Ev.load (i := 7) rfl rfl Tryz.isAgg3 (v := iv a0.Next) ((ToR.get_Next gh0).off (by rfl))) ?_
 refine Lst.r (Ev.gtr rfl rfl) ?_
 refine nt0 ?_
 rcases Bool.eq_false_or_eq_true (decide (a1.Seq > a0.Next)) with hb73 | hb73
 ·replace H := ite_t hb73 H
  refine Cd.condT rfl hb73 ?_
  refine sr0 ?_
  refine Lst.r (Ev.fieldAddr (off' := 1) rfl Tryz.runUnderlying41 rfl Tryz.sizeOf39 rfl rfl) ?_
  refine Lst.r (Ev.load (i := 0) rfl rfl Tryz.isAgg39 (v := Sl.v s43) ((ToR.get_Early gh0).off (by rfl))) ?_
  refine mv0 rfl ?_
  refine Lst.r (Ev.loadA (i := 6) rfl rfl Tryz.isAgg146 Tryz.sizeOf146 (ch := enc a1) (Enc.len _) gh0) ?_
  refine Lst.buildSlice (α := Parcel) (xs := ([a1] : List Parcel)) (pv := [(0, .agg (enc a1).toArray)]) rfl rfl (by decide) ⟨rfl, rfl, trivial⟩ (run_buildSlice (α := Parcel) (z0 := Parcel.zero) (xs := ([a1] : List Parcel)) Tryz.runUnderlying39 Tryz.sizeOf146 Tryz.zeroValue146 rfl rfl rfl (by decide) rfl (fill_cons (cs := encs (List.replicate 1 Parcel.zero)) (cs' := encs ((List.replicate 1 Parcel.zero).set 0 a1)) (vs := enc a1) rfl rfl (Enc.len _) ((Put.elemN (s := 2) (i := 0) (x := Parcel.zero) (y := a1) rfl rfl (Put.here ((Enc.len _).trans (Enc.len _).symm))).off rfl) fill_nil)) rfl rfl (by decide) (fun s74 _ => ?_)
  obtain ⟨r76, h77, H⟩ := bind_some H
  refine Lst.front (i := 3) rfl (L' := (.own s43 146 2 (encs l44)) :: (.own s74 146 2 (encs ([a1] : List Parcel))) :: (.blk b40 (enc (ToR.mk ({ To.zero with Next := a0.Next, Early := l44 } : To) s43)) 41) :: (.own s41 146 2 (encs l42)) :: (.own Sl.nil 9 1 (encs ([] : List Str))) :: (.blk b6 (enc (ToR.mk ({ To.zero with Early := ([] : List Parcel) } : To) Sl.nil)) 41) :: (.own Sl.nil 146 2 (encs ([] : List Parcel))) :: (.blk b3 (enc a1) 146) :: (.blk b1 (enc (ToR.mk a0 s_a0_1)) 41) :: L) rfl ?_
  refine Lst.call rfl rfl (by decide) (vs := [Sl.v s43, iv r57.1, Sl.v s74]) ⟨rfl, rfl, rfl, trivial⟩ Tryz.call219 (slices_Insert_api_Parcel_api_Parcel_sim h77 w0 _ M _ (sc4 (sc2 (sc1 hM)))) (fun F80 L' v hF81 hv => ?_)
  obtain ⟨s78, rfl, rfl⟩ := hv
  refine Lst.r (Ev.fieldAddr (off' := 1) rfl Tryz.runUnderlying41 rfl Tryz.sizeOf39 rfl rfl) ?_
  refine Lst.store (i := 1) rfl rfl rfl rfl rfl Tryz.sizeOf39 (vs := [Sl.v s78]) rfl rfl rfl (cs' := enc (ToR.mk ({ To.zero with Next := a0.Next, Early := r76 } : To) s78)) ((ToR.put_Early (Put.here (vs := [Sl.v s78]) rfl)).off (by rfl)) (L' := (.own s78 146 2 (encs r76)) :: (.blk b40 (enc (ToR.mk ({ To.zero with Next := a0.Next, Early := r76 } : To) s78)) 41) :: (.own s41 146 2 (encs l42)) :: (.own Sl.nil 9 1 (encs ([] : List Str))) :: (.blk b6 (enc (ToR.mk ({ To.zero with Early := ([] : List Parcel) } : To) Sl.nil)) 41) :: (.own Sl.nil 146 2 (encs ([] : List Parcel))) :: (.blk b3 (enc a1) 146) :: (.blk b1 (enc (ToR.mk a0 s_a0_1)) 41) :: L) rfl ?_
  refine nt0 ?_
  refine Cd.seq ?_
  refine Cd.as (e' := [(4, pv b6 0), (8, pv b40 0)]) (L' := (.own s78 146 2 (encs r76)) :: (.blk b40 (enc (ToR.mk ({ To.zero with Next := a0.Next, Early := r76 } : To) s78)) 41) :: (.own s41 146 2 (encs l42)) :: (.own Sl.nil 9 1 (encs ([] : List Str))) :: (.blk b6 (enc (ToR.mk ({ To.zero with Early := ([] : List Parcel) } : To) Sl.nil)) 41) :: (.own Sl.nil 146 2 (encs ([] : List Parcel))) :: (.blk b3 (enc a1) 146) :: (.blk b1 (enc (ToR.mk a0 s_a0_1)) 41) :: L) ⟨rfl, rfl, trivial⟩ rfl ?_
  refine Cd.region ?_
  refine Lst.r (Ev.loadA (i := 1) rfl rfl Tryz.isAgg41 Tryz.sizeOf41 (ch := enc (ToR.mk ({ To.zero with Next := a0.Next, Early := r76 } : To) s78)) (Enc.len _) gh0) ?_
  refine Lst.store (i := 4) rfl rfl rfl rfl rfl Tryz.sizeOf41 (vs := enc (ToR.mk ({ To.zero with Next := a0.Next, Early := r76 } : To) s78)) rfl (Enc.len _) (Enc.one _) (cs' := enc (ToR.mk ({ To.zero with Next := a0.Next, Early := r76 } : To) s78)) (Put.here ((Enc.len _).trans (Enc.len _).symm)) (L' := (.own s78 146 2 (encs r76)) :: (.blk b40 (enc (ToR.mk ({ To.zero with Next := a0.Next, Early := r76 } : To) s78)) 41) :: (.own s41 146 2 (encs l42)) :: (.own Sl.nil 9 1 (encs ([] : List Str))) :: (.blk b6 (enc (ToR.mk ({ To.zero with Next := a0.Next, Early := r76 } : To) s78)) 41) :: (.own Sl.nil 146 2 (encs ([] : List Parcel))) :: (.blk b3 (enc a1) 146) :: (.blk b1 (enc (ToR.mk a0 s_a0_1)) 41) :: L) rfl ?_
  refine Lst.addNil 9 1 ?_
  refine Lst.r (Ev.assign rfl) ?_
  refine Lst.r (Ev.assign rfl) ?_
  refine nt0 ?_
  obtain rfl := some_inj H
  refine Cd.ret ?_
  refine At.then_ret ?_
  refine At.front (i := 1) rfl (L' := (.own s78 146 2 (encs r76)) :: (.own Sl.nil 9 1 (encs ([] : List Str))) :: (.blk b40 (enc (ToR.mk ({ To.zero with Next := a0.Next, Early := r76 } : To) s78)) 41) :: (.own s41 146 2 (encs l42)) :: (.own Sl.nil 9 1 (encs ([] : List Str))) :: (.blk b6 (enc (ToR.mk ({ To.zero with Next := a0.Next, Early := r76 } : To) s78)) 41) :: (.own Sl.nil 146 2 (encs ([] : List Parcel))) :: (.blk b3 (enc a1) 146) :: (.blk b1 (enc (ToR.mk a0 s_a0_1)) 41) :: L) rfl ?_
  exact At.ret3 rfl (Res.cellA (i := 5) rfl rfl Tryz.isAgg41 Tryz.sizeOf41 (Enc.len _)) (Res.tmp rfl) (Res.tmp rfl) (FLe.trans (FLe.trans (FLe.trans hF56 hF65) hF70) hF81) (sk1 (sk1 (sc1 (sc1 (sc1 (sc1 (sc1 (sc1 (sc1 (.refl _)))))))))) ⟨s78, Sl.nil, rfl, rfl⟩
 replace H := ite_f hb73 H
 refine Cd.condF rfl hb73 ?_
 refine Cd.skip ?_
 refine At.then ?_
 refine sr0 ?_
 refine Lst.r (Ev.fieldAddr (off' := 1) rfl Tryz.runUnderlying146 rfl Tryz.sizeOf9 rfl rfl) ?_
 refine Lst.r (Ev.load (i := 6) rfl rfl Tryz.isAgg9 (v := Str.v a1.Text) ((Parcel.get_Text gh0).off (by rfl))) ?_
 refine Lst.buildSlice (α := Str) (xs := ([a1.Text] : List Str)) (pv := [(0, Str.v a1.Text)]) rfl rfl (by decide) ⟨rfl, rfl, trivial⟩ (run_buildSlice (α := Str) (z0 := ([] : Str)) (xs := ([a1.Text] : List Str)) Tryz.runUnderlying43 Tryz.sizeOf9 Tryz.zeroValue9 rfl rfl rfl (by decide) rfl (fill_cons (cs := encs (List.replicate 1 ([] : Str))) (cs' := encs ((List.replicate 1 ([] : Str)).set 0 a1.Text)) (vs := [Str.v a1.Text]) rfl rfl rfl ((Put.elemN (s := 1) (i := 0) (x := ([] : Str)) (y := a1.Text) rfl rfl (Put.here (vs := [Str.v a1.Text]) rfl)).off rfl) fill_nil)) rfl rfl (by decide) (fun s83 _ => ?_)
 refine Lst.r (Ev.assign rfl) ?_
 refine nsr ?_
 refine Lst.r (Ev.fieldAddr (off' := 0) rfl Tryz.runUnderlying41 rfl Tryz.sizeOf3 rfl rfl) ?_
 refine Lst.r (Ev.load (i := 1) rfl rfl Tryz.isAgg3 (v := iv a0.Next) ((ToR.get_Next gh0).off (by rfl))) ?_
 refine Lst.r (Ev.add rfl rfl) ?_
 refine Lst.r (Ev.fieldAddr (off' := 0) rfl Tryz.runUnderlying41 rfl Tryz.sizeOf3 rfl rfl) ?_
 obtain ⟨p85, h86, H⟩ := Let_some H
 refine Lst.store (i := 1) rfl rfl rfl rfl rfl Tryz.sizeOf3 (vs := [iv (w64 (a0.Next + (1 : Int)))]) rfl rfl rfl (cs' := enc (ToR.mk ({ To.zero with Next := p85, Early := l44 } : To) s43)) (by rw [← h86]; exact (ToR.put_Next (Put.here (vs := [iv (w64 (a0.Next + (1 : Int)))]) rfl)).off (by rfl)) (L' := (.own s83 9 1 (encs ([a1.Text] : List Str))) :: (.blk b40 (enc (ToR.mk ({ To.zero with Next := p85, Early := l44 } : To) s43)) 41) :: (.own s41 146 2 (encs l42)) :: (.own s43 146 2 (encs l44)) :: (.own Sl.nil 9 1 (encs ([] : List Str))) :: (.blk b6 (enc (ToR.mk ({ To.zero with Early := ([] : List Parcel) } : To) Sl.nil)) 41) :: (.own Sl.nil 146 2 (encs ([] : List Parcel))) :: (.blk b3 (enc a1) 146) :: (.blk b1 (enc (ToR.mk a0 s_a0_1)) 41) :: L) rfl ?_
 refine nt0 ?_
 refine Cd.seq ?_
 refine Cd.block ?_
 obtain ⟨ol87, H, HKl87⟩ := andThen_some H
 refine Cd.loop (σ := Nat × To × Sl × (List Str) × Sl × (List Parcel)) (fun (k87, y88, s89, l90, s91, l92) => [(4, pv b6 0), (8, pv b40 0), (11, Sl.v s89)]) (fun (k87, y88, s89, l90, s91, l92) => (.own s89 9 1 (encs l90)) :: (.blk b40 (enc (ToR.mk ({ y88 with Early := l92 } : To) s91)) 41) :: (.own s41 146 2 (encs l42)) :: (.own s91 146 2 (encs l92)) :: (.own Sl.nil 9 1 (encs ([] : List Str))) :: (.blk b6 (enc (ToR.mk ({ To.zero with Early := ([] : List Parcel) } : To) Sl.nil)) 41) :: (.own Sl.nil 146 2 (encs ([] : List Parcel))) :: (.blk b3 (enc a1) 146) :: (.blk b1 (enc (ToR.mk a0 s_a0_1)) 41) :: L) (fun _ => (fun (k87, y88, s89, l90, s91, l92) => whileM (lane_Take_B1) k87 (y88, l90, l92) = some ol87)) (fun (k87, y88, s89, l90, s91, l92) => k87) (fu, ({ To.zero with Next := p85, Early := l44 } : To), s83, ([a1.Text] : List Str), s43, l44) ⟨rfl, rfl, rfl, trivial⟩ rfl H ?_
 rintro F93 ⟨k87, y88, s89, l90, s91, l92⟩ hF94 H
 refine Cd.as (e' := [(4, pv b6 0), (8, pv b40 0), (11, Sl.v s89)]) (L' := (.own s89 9 1 (encs l90)) :: (.blk b40 (enc (ToR.mk ({ y88 with Early := l92 } : To) s91)) 41) :: (.own s41 146 2 (encs l42)) :: (.own s91 146 2 (encs l92)) :: (.own Sl.nil 9 1 (encs ([] : List Str))) :: (.blk b6 (enc (ToR.mk ({ To.zero with Early := ([] : List Parcel) } : To) Sl.nil)) 41) :: (.own Sl.nil 146 2 (encs ([] : List Parcel))) :: (.blk b3 (enc a1) 146) :: (.blk b1 (enc (ToR.mk a0 s_a0_1)) 41) :: L) ⟨rfl, rfl, rfl, trivial⟩ rfl ?_
 rcases k87 with _ | k87
 ·cases H
 obtain ⟨c87, H, hgo87, hbrk87, hret87⟩ := whileM_go H
 unfold lane_Take_B1 at H
 try dsimp only at H
 refine Cd.seq ?_
 refine Cd.seq ?_
 refine Cd.quiet (by kernel_rfl) (by kernel_rfl) ?_
 refine Qt.r (Ev.fieldAddr (off' := 1) rfl Tryz.runUnderlying41 rfl Tryz.sizeOf39 rfl rfl) ?_
 refine Qt.r (Ev.load (i := 1) rfl rfl Tryz.isAgg39 (v := Sl.v s91) ((ToR.get_Early gh0).off (by rfl))) ?_
 refine Qt.r (Ev.lenS (α := Parcel) (xs := l92) (by decide) rfl rfl Tryz.runUnderlying39 (rdo 3 rfl rfl rfl)) ?_
 refine Qt.r (Ev.gtr rfl rfl) ?_
 refine Qt.r (Ev.move rfl) ?_
 obtain ⟨o95, H, HKo95⟩ := bind_some H
 refine Qt.join (σ := Bool) 9 (fun y96 => [(4, pv b6 0), (8, pv b40 0), (11, Sl.v s89), (93, .bool y96)]) (fun y96 => y96 = o95) ?_ ?_
 ·rcases (Bool.eq_false_or_eq_true (decide ((l92.length : Int) > (0 : Int)))).symm with hb97 | hb97
  ·replace H := ite_f hb97 H
   refine Qt.skip rfl rfl rfl hb97 rfl (by decide) ?_
   refine Qt.skip rfl rfl rfl hb97 rfl (by decide) ?_
   refine Qt.skip rfl rfl rfl hb97 rfl (by decide) ?_
   refine Qt.skip rfl rfl rfl hb97 rfl (by decide) ?_
   refine Qt.skip rfl rfl rfl hb97 rfl (by decide) ?_
   refine Qt.skip rfl rfl rfl hb97 rfl (by decide) ?_
   refine Qt.skip rfl rfl rfl hb97 rfl (by decide) ?_
   refine Qt.skip rfl rfl rfl hb97 rfl (by decide) ?_
   refine Qt.r (Ev.pickF rfl hb97 rfl) ?_
   exact Qt.meet false ⟨rfl, rfl, rfl, rfl, trivial⟩ (some_inj H)
  replace H := ite_t hb97 H
  refine Qt.rG hb97 (Ev.fieldAddr (off' := 1) rfl Tryz.runUnderlying41 rfl Tryz.sizeOf39 rfl rfl) ?_
  refine Qt.rG hb97 (Ev.load (i := 1) rfl rfl Tryz.isAgg39 (v := Sl.v s91) ((ToR.get_Early gh0).off (by rfl))) ?_
  obtain ⟨x98, h99, H⟩ := bind_some H
  have g100 := lat_some h99
  refine Qt.rG hb97 (Ev.indexS (α := Parcel) (xs := l92) rfl rfl Tryz.runUnderlying39 Tryz.sizeOf146 rfl (by decide) (rdo 3 rfl rfl rfl) g100.1 g100.2.1) ?_
  refine Qt.rG hb97 (Ev.fieldS (α := Parcel) (f' := (0 : Int).toNat * 2 + 0) rfl (rdo 3 rfl rfl rfl) ((Get.elemN (s := 2) (x := x98) rfl g100.2.2 gh0).off (by omega)) rfl Tryz.runUnderlying146 rfl Tryz.sizeOf3 rfl rfl rfl) ?_
  refine Qt.rG hb97 (Ev.loadS (α := Parcel) rfl (rdo 3 rfl rfl rfl) Tryz.isAgg3 (v := iv x98.Seq) ((Get.elemN (s := 2) (x := x98) rfl g100.2.2 (Parcel.get_Seq gh0)).off (by omega))) ?_
  refine Qt.rG hb97 (Ev.fieldAddr (off' := 0) rfl Tryz.runUnderlying41 rfl Tryz.sizeOf3 rfl rfl) ?_
  refine Qt.rG hb97 (Ev.load (i := 1) rfl rfl Tryz.isAgg3 (v := iv y88.Next) ((ToR.get_Next gh0).off (by rfl))) ?_
  refine Qt.rG hb97 (Ev.eql rfl rfl) ?_
  refine Qt.r (Ev.pickT rfl hb97 rfl) ?_
  exact Qt.meet (x98.Seq == y88.Next) ⟨rfl, rfl, rfl, rfl, trivial⟩ (some_inj H)
 rintro y96 hy
 subst hy
 refine Qt.as (e' := [(4, pv b6 0), (8, pv b40 0), (11, Sl.v s89), (93, .bool y96)]) ⟨rfl, rfl, rfl, rfl, trivial⟩ ?_
 replace H := HKo95
 refine Qt.done ?_
 refine At.then ?_
 rcases (Bool.eq_false_or_eq_true y96).symm with hb101 | hb101
 ·replace H := ite_f hb101 H
  refine Cd.condF rfl hb101 ?_
  refine Cd.exit ?_
  refine At.then_exit ?_
  refine At.then_exit ?_
  refine At.in_exit ?_
  have H := hbrk87 _ (some_inj H).symm
  subst H
  replace H := HKl87
  refine At.then ?_
  refine sr0 ?_
  refine Lst.r (Ev.fieldAddr (off' := 1) rfl Tryz.runUnderlying41 rfl Tryz.sizeOf39 rfl rfl) ?_
  refine Lst.r (Ev.load (i := 1) rfl rfl Tryz.isAgg39 (v := Sl.v s91) ((ToR.get_Early gh0).off (by rfl))) ?_
  obtain ⟨r102, h103, H⟩ := bind_some H
  refine Lst.call rfl rfl (by decide) (vs := [Sl.v s91]) ⟨rfl, trivial⟩ Tryz.call216 (slices_Clone_api_Parcel_api_Parcel_sim h103 w0 _ _ _ (.refl _) (rdo 3 rfl rfl rfl)) (fun F106 L' v hF107 hv => ?_)
  obtain ⟨s104, rfl, rfl⟩ := hv
  refine Lst.r (Ev.fieldAddr (off' := 1) rfl Tryz.runUnderlying41 rfl Tryz.sizeOf39 rfl rfl) ?_
  refine Lst.store (i := 2) rfl rfl rfl rfl rfl Tryz.sizeOf39 (vs := [Sl.v s104]) rfl rfl rfl (cs' := enc (ToR.mk ({ y88 with Early := r102 } : To) s104)) ((ToR.put_Early (Put.here (vs := [Sl.v s104]) rfl)).off (by rfl)) (L' := (.own s104 146 2 (encs r102)) :: (.own s89 9 1 (encs l90)) :: (.blk b40 (enc (ToR.mk ({ y88 with Early := r102 } : To) s104)) 41) :: (.own s41 146 2 (encs l42)) :: (.own s91 146 2 (encs l92)) :: (.own Sl.nil 9 1 (encs ([] : List Str))) :: (.blk b6 (enc (ToR.mk ({ To.zero with Early := ([] : List Parcel) } : To) Sl.nil)) 41) :: (.own Sl.nil 146 2 (encs ([] : List Parcel))) :: (.blk b3 (enc a1) 146) :: (.blk b1 (enc (ToR.mk a0 s_a0_1)) 41) :: L) rfl ?_
  refine nsr ?_
  refine Lst.r (Ev.loadA (i := 2) rfl rfl Tryz.isAgg41 Tryz.sizeOf41 (ch := enc (ToR.mk ({ y88 with Early := r102 } : To) s104)) (Enc.len _) gh0) ?_
  refine mv0 rfl ?_
  refine Lst.store (i := 6) rfl rfl rfl rfl rfl Tryz.sizeOf41 (vs := enc (ToR.mk ({ y88 with Early := r102 } : To) s104)) rfl (Enc.len _) (Enc.one _) (cs' := enc (ToR.mk ({ y88 with Early := r102 } : To) s104)) (Put.here ((Enc.len _).trans (Enc.len _).symm)) (L' := (.own s104 146 2 (encs r102)) :: (.own s89 9 1 (encs l90)) :: (.blk b40 (enc (ToR.mk ({ y88 with Early := r102 } : To) s104)) 41) :: (.own s41 146 2 (encs l42)) :: (.own s91 146 2 (encs l92)) :: (.own Sl.nil 9 1 (encs ([] : List Str))) :: (.blk b6 (enc (ToR.mk ({ y88 with Early := r102 } : To) s104)) 41) :: (.own Sl.nil 146 2 (encs ([] : List Parcel))) :: (.blk b3 (enc a1) 146) :: (.blk b1 (enc (ToR.mk a0 s_a0_1)) 41) :: L) rfl ?_
  refine Lst.r (Ev.assign rfl) ?_
  refine Lst.r (Ev.assign rfl) ?_
  refine nt0 ?_
  obtain rfl := some_inj H
  refine Cd.ret ?_
  exact At.ret3 rfl (Res.cellA (i := 6) rfl rfl Tryz.isAgg41 Tryz.sizeOf41 (Enc.len _)) (Res.tmp rfl) (Res.tmp rfl) (FLe.trans (FLe.trans (FLe.trans (FLe.trans hF56 hF65) hF70) hF94) hF107) (sk1 (sk1 (sc1 (sc1 (sc1 (sc1 (sc1 (sc1 (sc1 (sc1 (.refl _))))))))))) ⟨s104, s89, rfl, rfl⟩
 replace H := ite_t hb101 H
 refine Cd.condT rfl hb101 ?_
 refine Cd.skip ?_
 refine At.then ?_
 refine Cd.block ?_
 refine sr0 ?_
 refine mv0 rfl ?_
 refine Lst.r (Ev.fieldAddr (off' := 1) rfl Tryz.runUnderlying41 rfl Tryz.sizeOf39 rfl rfl) ?_
 refine Lst.r (Ev.load (i := 1) rfl rfl Tryz.isAgg39 (v := Sl.v s91) ((ToR.get_Early gh0).off (by rfl))) ?_
 obtain ⟨x108, h109, H⟩ := bind_some H
 have g110 := lat_some h109
 refine Lst.r (Ev.indexS (α := Parcel) (xs := l92) rfl rfl Tryz.runUnderlying39 Tryz.sizeOf146 rfl (by decide) (rdo 3 rfl rfl rfl) g110.1 g110.2.1) ?_
 refine Lst.r (Ev.fieldS (α := Parcel) (f' := (0 : Int).toNat * 2 + 1) rfl (rdo 3 rfl rfl rfl) ((Get.elemN (s := 2) (x := x108) rfl g110.2.2 gh0).off (by omega)) rfl Tryz.runUnderlying146 rfl Tryz.sizeOf9 rfl rfl rfl) ?_
 refine Lst.r (Ev.loadS (α := Parcel) rfl (rdo 3 rfl rfl rfl) Tryz.isAgg9 (v := Str.v x108.Text) ((Get.elemN (s := 2) (x := x108) rfl g110.2.2 (Parcel.get_Text gh0)).off (by omega))) ?_
 refine Lst.buildSlice (α := Str) (xs := ([x108.Text] : List Str)) (pv := [(0, Str.v x108.Text)]) rfl rfl (by decide) ⟨rfl, rfl, trivial⟩ (run_buildSlice (α := Str) (z0 := ([] : Str)) (xs := ([x108.Text] : List Str)) Tryz.runUnderlying43 Tryz.sizeOf9 Tryz.zeroValue9 rfl rfl rfl (by decide) rfl (fill_cons (cs := encs (List.replicate 1 ([] : Str))) (cs' := encs ((List.replicate 1 ([] : Str)).set 0 x108.Text)) (vs := [Str.v x108.Text]) rfl rfl rfl ((Put.elemN (s := 1) (i := 0) (x := ([] : Str)) (y := x108.Text) rfl rfl (Put.here (vs := [Str.v x108.Text]) rfl)).off rfl) fill_nil)) rfl rfl (by decide) (fun s111 _ => ?_)
 obtain ⟨u113, h114, H⟩ := bind_some H
 refine Lst.append (i := 1) (α := Str) (xs := l90) (ys := ([x108.Text] : List Str)) rfl rfl (by decide) rfl rfl Tryz.runUnderlying43 Tryz.typeInfo9 rfl rfl rfl rfl rfl rfl (rdo 0 rfl rfl rfl) rfl (room_some h114) rfl (fun s115 => ?_)
 refine Lst.its (L' := (.own s111 9 1 (encs ([x108.Text] : List Str))) :: (.own s115 9 1 (encs (l90 ++ ([x108.Text] : List Str)))) :: (.blk b40 (enc (ToR.mk ({ y88 with Early := l92 } : To) s91)) 41) :: (.own s41 146 2 (encs l42)) :: (.own s91 146 2 (encs l92)) :: (.own Sl.nil 9 1 (encs ([] : List Str))) :: (.blk b6 (enc (ToR.mk ({ To.zero with Early := ([] : List Parcel) } : To) Sl.nil)) 41) :: (.own Sl.nil 146 2 (encs ([] : List Parcel))) :: (.blk b3 (enc a1) 146) :: (.blk b1 (enc (ToR.mk a0 s_a0_1)) 41) :: L) rfl ?_
 refine Lst.r (Ev.assign rfl) ?_
 refine nsr ?_
 refine Lst.r (Ev.fieldAddr (off' := 1) rfl Tryz.runUnderlying41 rfl Tryz.sizeOf39 rfl rfl) ?_
 refine Lst.r (Ev.load (i := 2) rfl rfl Tryz.isAgg39 (v := Sl.v s91) ((ToR.get_Early gh0).off (by rfl))) ?_
 obtain ⟨m116, h117, H⟩ := bind_some H
 obtain ⟨g118, gl119⟩ := cutL_some h117
 try dsimp only at g118
 refine Lst.r (Ev.cut (α := Parcel) (xs := l92) (i := (1 : Int)) (j := (l92.length : Int)) rfl rfl rfl Tryz.runUnderlying39 Tryz.sizeOf146 rfl (by decide) (rdo 4 rfl rfl rfl) g118.1 g118.2.1 g118.2.2) ?_
 refine Lst.cutOwn (i := 4) (α := Parcel) (lo := ((1 : Int) : Int).toNat) (hi := ((l92.length : Int) : Int).toNat) rfl rfl rfl (by decide) (by omega) (by omega) (L' := (.own s111 9 1 (encs ([x108.Text] : List Str))) :: (.own s115 9 1 (encs (l90 ++ ([x108.Text] : List Str)))) :: (.blk b40 (enc (ToR.mk y88 s91)) 41) :: (.own s41 146 2 (encs l42)) :: (.own (s91.cut ((1 : Int) : Int).toNat ((l92.length : Int) : Int).toNat 2) 146 2 (encs m116)) :: (.own Sl.nil 9 1 (encs ([] : List Str))) :: (.blk b6 (enc (ToR.mk ({ To.zero with Early := ([] : List Parcel) } : To) Sl.nil)) 41) :: (.own Sl.nil 146 2 (encs ([] : List Parcel))) :: (.blk b3 (enc a1) 146) :: (.blk b1 (enc (ToR.mk a0 s_a0_1)) 41) :: L) (by subst gl119; rfl) ?_
 refine Lst.r (Ev.fieldAddr (off' := 1) rfl Tryz.runUnderlying41 rfl Tryz.sizeOf39 rfl rfl) ?_
 refine Lst.store (i := 2) rfl rfl rfl rfl rfl Tryz.sizeOf39 (vs := [Sl.v (s91.cut ((1 : Int) : Int).toNat ((l92.length : Int) : Int).toNat 2)]) rfl rfl rfl (cs' := enc (ToR.mk ({ y88 with Early := m116 } : To) (s91.cut ((1 : Int) : Int).toNat ((l92.length : Int) : Int).toNat 2))) ((ToR.put_Early (Put.here (vs := [Sl.v (s91.cut ((1 : Int) : Int).toNat ((l92.length : Int) : Int).toNat 2)]) rfl)).off (by rfl)) (L' := (.own s111 9 1 (encs ([x108.Text] : List Str))) :: (.own s115 9 1 (encs (l90 ++ ([x108.Text] : List Str)))) :: (.blk b40 (enc (ToR.mk ({ y88 with Early := m116 } : To) (s91.cut ((1 : Int) : Int).toNat ((l92.length : Int) : Int).toNat 2))) 41) :: (.own s41 146 2 (encs l42)) :: (.own (s91.cut ((1 : Int) : Int).toNat ((l92.length : Int) : Int).toNat 2) 146 2 (encs m116)) :: (.own Sl.nil 9 1 (encs ([] : List Str))) :: (.blk b6 (enc (ToR.mk ({ To.zero with Early := ([] : List Parcel) } : To) Sl.nil)) 41) :: (.own Sl.nil 146 2 (encs ([] : List Parcel))) :: (.blk b3 (enc a1) 146) :: (.blk b1 (enc (ToR.mk a0 s_a0_1)) 41) :: L) rfl ?_
 refine nt0 ?_
 refine Cd.region ?_
 refine Lst.r (Ev.fieldAddr (off' := 0) rfl Tryz.runUnderlying41 rfl Tryz.sizeOf3 rfl rfl) ?_
 refine Lst.r (Ev.load (i := 2) rfl rfl Tryz.isAgg3 (v := iv y88.Next) ((ToR.get_Next gh0).off (by rfl))) ?_
 refine Lst.r (Ev.add rfl rfl) ?_
 refine Lst.r (Ev.fieldAddr (off' := 0) rfl Tryz.runUnderlying41 rfl Tryz.sizeOf3 rfl rfl) ?_
 obtain ⟨p121, h122, H⟩ := Let_some H
 refine Lst.store (i := 2) rfl rfl rfl rfl rfl Tryz.sizeOf3 (vs := [iv (w64 (y88.Next + (1 : Int)))]) rfl rfl rfl (cs' := enc (ToR.mk ({ y88 with Next := p121, Early := m116 } : To) (s91.cut ((1 : Int) : Int).toNat ((l92.length : Int) : Int).toNat 2))) (by rw [← h122]; exact (ToR.put_Next (Put.here (vs := [iv (w64 (y88.Next + (1 : Int)))]) rfl)).off (by rfl)) (L' := (.own s111 9 1 (encs ([x108.Text] : List Str))) :: (.own s115 9 1 (encs (l90 ++ ([x108.Text] : List Str)))) :: (.blk b40 (enc (ToR.mk ({ y88 with Next := p121, Early := m116 } : To) (s91.cut ((1 : Int) : Int).toNat ((l92.length : Int) : Int).toNat 2))) 41) :: (.own s41 146 2 (encs l42)) :: (.own (s91.cut ((1 : Int) : Int).toNat ((l92.length : Int) : Int).toNat 2) 146 2 (encs m116)) :: (.own Sl.nil 9 1 (encs ([] : List Str))) :: (.blk b6 (enc (ToR.mk ({ To.zero with Early := ([] : List Parcel) } : To) Sl.nil)) 41) :: (.own Sl.nil 146 2 (encs ([] : List Parcel))) :: (.blk b3 (enc a1) 146) :: (.blk b1 (enc (ToR.mk a0 s_a0_1)) 41) :: L) rfl ?_
 refine Lst.nil ?_
 refine At.in_normal ?_
 refine At.less (L' := (.own s115 9 1 (encs (l90 ++ ([x108.Text] : List Str)))) :: (.blk b40 (enc (ToR.mk ({ y88 with Next := p121, Early := m116 } : To) (s91.cut ((1 : Int) : Int).toNat ((l92.length : Int) : Int).toNat 2))) 41) :: (.own s41 146 2 (encs l42)) :: (.own (s91.cut ((1 : Int) : Int).toNat ((l92.length : Int) : Int).toNat 2) 146 2 (encs m116)) :: (.own Sl.nil 9 1 (encs ([] : List Str))) :: (.blk b6 (enc (ToR.mk ({ To.zero with Early := ([] : List Parcel) } : To) Sl.nil)) 41) :: (.own Sl.nil 146 2 (encs ([] : List Parcel))) :: (.blk b3 (enc a1) 146) :: (.blk b1 (enc (ToR.mk a0 s_a0_1)) 41) :: L) (sc1 (sk1 (sk1 (sk1 (sk1 (sk1 (sk1 (sk1 (sk1 (sk1 (.refl _))))))))))) ?_
 exact At.meet (k87, ({ y88 with Next := p121, Early := m116 } : To), s115, l90 ++ ([x108.Text] : List Str), (s91.cut ((1 : Int) : Int).toNat ((l92.length : Int) : Int).toNat 2), m116) hF94 ⟨rfl, rfl, rfl, trivial⟩ rfl ⟨hgo87 _ (some_inj H).symm, Nat.lt_succ_self _⟩
end Go.Proofs.YtchmclllcdknjaaGreatDoor
