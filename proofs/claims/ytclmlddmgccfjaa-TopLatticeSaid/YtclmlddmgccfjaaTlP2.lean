/-
  The functions compute their specs; printed by a program.
-/
import Derived.Test.YtclmlddmgccfjaaTlP1
namespace Go.Proofs.Ytclmlddmgccfjaa
open Go.RowKit Enc
set_option linter.unusedVariables false
set_option linter.unusedSimpArgs false
set_option maxRecDepth 20000 in
theorem lat_Downs_sim {fu : Nat} {a0 : Poset} {s_a0_1 : Sl} {r : (List (BitVec 16)) × Int} (H : lat_Downs fu a0 = some r) (w0 : World) (F : Frz) (M L : List Item) (hM : M.Sublist L) (hs_a0_1 : Rd w0 F M s_a0_1 a0.Pairs) : Ok Try.prog w0 46 [.agg (enc (PosetR.mk a0 s_a0_1)).toArray] F (L) (fun _ L' v => ∃ (s1 : Sl), v = .tuple #[Sl.v s1, .int .i64 r.2] ∧ L' = (.own s1 101 1 (encs r.1)) :: L) := by
  unfold lat_Downs at H
  refine Ok.enter (m := 1) (n := 75) Try.func46 rfl rfl rfl (by decide) ?_
  refine Cd.env (e' := [(0, .agg (enc (PosetR.mk a0 s_a0_1)).toArray)]) rfl ?_
  refine Cd.seq ?_
  refine Cd.region ?_
  refine Lst.box rfl rfl (by decide) rfl (cs := enc (PosetR.mk a0 s_a0_1)) rfl (fun b1 => ?_)
  refine Lst.addNil 101 1 ?_
  refine Lst.run rfl rfl (by decide) (Ev.assign rfl) ?_
  refine Lst.run rfl rfl (by decide) (Ev.assign rfl) ?_
  refine Lst.nil ?_
  refine At.then ?_
  refine Cd.seq ?_
  refine Cd.region ?_
  refine Lst.run rfl rfl (by decide) (Ev.loadA (i := 1) rfl rfl Try.isAgg71 Try.sizeOf71 (ch := enc (PosetR.mk a0 s_a0_1)) (Enc.len _) (Get.here _)) ?_
  obtain ⟨r4, h5, H⟩ := bind_some H
  refine Lst.call rfl rfl (by decide) (vs := [.agg (enc (PosetR.mk a0 s_a0_1)).toArray]) ⟨rfl, trivial⟩ Try.call66 (poset_Close_sim h5 w0 _ M _ (List.Sublist.cons _ (List.Sublist.cons _ hM)) (hs_a0_1.mono (FLe.refl _) (List.Sublist.refl _))) (fun F8 L' v hF9 hv => ?_)
  obtain ⟨s6, rfl, rfl⟩ := hv
  refine Lst.run rfl rfl (by decide) (Ev.move rfl) ?_
  refine Lst.run rfl rfl (by decide) (Ev.extract rfl rfl) ?_
  refine Lst.run rfl rfl (by decide) (Ev.extract rfl rfl) ?_
  refine Lst.run rfl rfl (by decide) (Ev.assign rfl) ?_
  refine Lst.run rfl rfl (by decide) (Ev.assign rfl) ?_
  refine Lst.nil ?_
  refine At.then ?_
  refine Cd.seq ?_
  refine Cd.seq ?_
  refine Cd.region ?_
  refine Lst.run rfl rfl (by decide) (Ev.move rfl) ?_
  refine Lst.run rfl rfl (by decide) (Ev.neq rfl rfl) ?_
  refine Lst.nil ?_
  refine At.then ?_
  rcases Bool.eq_false_or_eq_true (r4.2 != (0 : Int)) with hb10 | hb10
  · replace H := ite_t hb10 H
    refine Cd.condT rfl hb10 ?_
    refine Cd.seq ?_
    refine Cd.region ?_
    refine Lst.run rfl rfl (by decide) (Ev.move rfl) ?_
    refine Lst.addNil 101 1 ?_
    refine Lst.run rfl rfl (by decide) (Ev.assign rfl) ?_
    refine Lst.run rfl rfl (by decide) (Ev.assign rfl) ?_
    refine Lst.nil ?_
    refine At.then ?_
    obtain rfl := some_inj H
    refine Cd.ret ?_
    refine At.then_ret ?_
    exact At.ret2 rfl (Res.tmp rfl) (Res.tmp rfl) hF9 (List.Sublist.cons_cons _ (List.Sublist.cons _ (List.Sublist.cons _ (List.Sublist.cons _ (List.Sublist.refl _))))) ⟨Sl.nil, rfl, rfl⟩
  replace H := ite_f hb10 H
  refine Cd.condF rfl hb10 ?_
  refine Cd.skip ?_
  refine At.then ?_
  refine Cd.seq ?_
  refine Cd.seq ?_
  refine Cd.region ?_
  refine Lst.run rfl rfl (by decide) (Ev.fieldAddr (off' := 0) rfl Try.runUnderlying71 rfl Try.sizeOf3 rfl rfl) ?_
  refine Lst.run rfl rfl (by decide) (Ev.load (i := 2) rfl rfl Try.isAgg3 (v := .int .i64 a0.N) ((PosetR.get_N (Get.here _)).off (by rfl))) ?_
  refine Lst.run rfl rfl (by decide) (Ev.gtr rfl rfl) ?_
  refine Lst.nil ?_
  refine At.then ?_
  rcases Bool.eq_false_or_eq_true (decide (a0.N > (12 : Int))) with hb12 | hb12
  · replace H := ite_t hb12 H
    refine Cd.condT rfl hb12 ?_
    refine Cd.seq ?_
    refine Cd.as (e' := []) (L' := (.own s6 46 2 (encs r4.1)) :: (.own Sl.nil 101 1 (encs ([] : List (BitVec 16)))) :: (.blk b1 (enc (PosetR.mk a0 s_a0_1)) 71) :: L) trivial rfl ?_
    refine Cd.region ?_
    refine Lst.addNil 101 1 ?_
    refine Lst.run rfl rfl (by decide) (Ev.assign rfl) ?_
    refine Lst.run rfl rfl (by decide) (Ev.assign rfl) ?_
    refine Lst.nil ?_
    refine At.then ?_
    obtain rfl := some_inj H
    refine Cd.ret ?_
    refine At.then_ret ?_
    exact At.ret2 rfl (Res.tmp rfl) (Res.tmp rfl) hF9 (List.Sublist.cons_cons _ (List.Sublist.cons _ (List.Sublist.cons _ (List.Sublist.cons _ (List.Sublist.refl _))))) ⟨Sl.nil, rfl, rfl⟩
  replace H := ite_f hb12 H
  refine Cd.condF rfl hb12 ?_
  refine Cd.skip ?_
  refine At.then ?_
  refine Cd.seq ?_
  refine Cd.region ?_
  refine Lst.alloc (cs := enc (Vector.replicate 12 (0 : BitVec 16))) rfl rfl (by decide) Try.zeroValue102 rfl (fun b14 => ?_)
  refine Lst.nil ?_
  refine At.then ?_
  refine Cd.seq ?_
  refine Cd.seq ?_
  refine Cd.region ?_
  refine Lst.run rfl rfl (by decide) (Ev.move rfl) ?_
  refine Lst.run rfl rfl (by decide) (Ev.lenS (α := Pair) (xs := r4.1) (by decide) rfl rfl Try.runUnderlying39 (Rd.own (i := 1) rfl rfl rfl)) ?_
  refine Lst.run rfl rfl (by decide) (Ev.move rfl) ?_
  refine Lst.nil ?_
  refine At.then ?_
  refine Cd.block ?_
  refine Cd.bound (Rd.le (α := Pair) (xs := r4.1) (by decide) (Rd.own (i := 1) rfl rfl rfl)) (fun hN71 => ?_)
  obtain ⟨ol16, H, HKl16⟩ := bind_some H
  refine Cd.loop (σ := Nat × Nat × (Vector (BitVec 16) 12)) (fun (i16, k16, y17) => [(1, .pointer (some ⟨b1, 0, none⟩)), (6, .pointer (some ⟨b14, 0, none⟩)), (24, Sl.v s6), (25, .int .i64 (r4.1.length : Int)), (26, .int .i64 (i16 : Int))]) (fun (i16, k16, y17) => (.blk b14 (enc y17) 102) :: (.own s6 46 2 (encs r4.1)) :: (.own Sl.nil 101 1 (encs ([] : List (BitVec 16)))) :: (.blk b1 (enc (PosetR.mk a0 s_a0_1)) 71) :: L) (fun _ => (fun (i16, k16, y17) => rangeF (lat_Downs_B0 r4) k16 i16 y17 = some ol16 ∧ i16 + k16 = r4.1.length)) (fun (i16, k16, y17) => k16) (0, r4.1.length, (Vector.replicate 12 (0 : BitVec 16))) ⟨rfl, rfl, rfl, rfl, rfl, trivial⟩ rfl ⟨H, by omega⟩ ?_
  rintro F18 ⟨i16, k16, y17⟩ hF19 ⟨H, hik16⟩
  refine Cd.as (e' := [(1, .pointer (some ⟨b1, 0, none⟩)), (6, .pointer (some ⟨b14, 0, none⟩)), (24, Sl.v s6), (25, .int .i64 (r4.1.length : Int)), (26, .int .i64 (i16 : Int))]) (L' := (.blk b14 (enc y17) 102) :: (.own s6 46 2 (encs r4.1)) :: (.own Sl.nil 101 1 (encs ([] : List (BitVec 16)))) :: (.blk b1 (enc (PosetR.mk a0 s_a0_1)) 71) :: L) ⟨rfl, rfl, rfl, rfl, rfl, trivial⟩ rfl ?_
  rcases k16 with _ | k16
  · have hc16 : decide ((i16 : Int) < (r4.1.length : Int)) = false := decide_eq_false (by omega)
    replace H := rangeF_end H
    refine Cd.seq ?_
    refine Cd.region ?_
    refine Lst.run rfl rfl (by decide) (Ev.lss rfl rfl) ?_
    refine Lst.nil ?_
    refine At.then ?_
    refine Cd.seq ?_
    refine Cd.condF rfl hc16 ?_
    refine Cd.exit ?_
    refine At.then_exit ?_
    refine At.then_exit ?_
    refine At.in_exit ?_
    subst H
    replace H := HKl16
    refine At.then ?_
    refine Cd.seq ?_
    refine Cd.region ?_
    refine Lst.addNil 101 1 ?_
    refine Lst.run rfl rfl (by decide) (Ev.assign rfl) ?_
    refine Lst.nil ?_
    refine At.then ?_
    refine Cd.seq ?_
    refine Cd.seq ?_
    refine Cd.region ?_
    refine Lst.run rfl rfl (by decide) (Ev.fieldAddr (off' := 0) rfl Try.runUnderlying71 rfl Try.sizeOf3 rfl rfl) ?_
    refine Lst.run rfl rfl (by decide) (Ev.load (i := 4) rfl rfl Try.isAgg3 (v := .int .i64 a0.N) ((PosetR.get_N (Get.here _)).off (by rfl))) ?_
    obtain ⟨n37, h38, H⟩ := bind_some H
    refine Lst.run rfl rfl (by decide) (Ev.shlU16 (i := (1 : BitVec 16)) (m := n37) rfl (congrArg some (congrArg (Value.int .i64) (cnt_some h38)))) ?_
    refine Lst.run rfl rfl (by decide) (Ev.move rfl) ?_
    refine Lst.nil ?_
    refine At.then ?_
    refine Cd.block ?_
    obtain ⟨ol40, H, HKl40⟩ := andThen_some H
    refine Cd.loop (σ := Nat × (BitVec 16) × Sl × (List (BitVec 16))) (fun (k40, y41, s42, l43) => [(1, .pointer (some ⟨b1, 0, none⟩)), (6, .pointer (some ⟨b14, 0, none⟩)), (9, Sl.v s42), (42, .int .u16 ((1 : BitVec 16) <<< n37).toNat), (43, .int .u16 y41.toNat)]) (fun (k40, y41, s42, l43) => (.own s42 101 1 (encs l43)) :: (.blk b14 (enc y17) 102) :: (.own s6 46 2 (encs r4.1)) :: (.own Sl.nil 101 1 (encs ([] : List (BitVec 16)))) :: (.blk b1 (enc (PosetR.mk a0 s_a0_1)) 71) :: L) (fun _ => (fun (k40, y41, s42, l43) => whileM (lat_Downs_B2 a0 y17 n37) k40 (y41, l43) = some ol40)) (fun (k40, y41, s42, l43) => k40) (fu, (0 : BitVec 16), Sl.nil, ([] : List (BitVec 16))) ⟨rfl, rfl, rfl, rfl, rfl, trivial⟩ rfl H ?_
    rintro F44 ⟨k40, y41, s42, l43⟩ hF45 H
    refine Cd.as (e' := [(1, .pointer (some ⟨b1, 0, none⟩)), (6, .pointer (some ⟨b14, 0, none⟩)), (9, Sl.v s42), (42, .int .u16 ((1 : BitVec 16) <<< n37).toNat), (43, .int .u16 y41.toNat)]) (L' := (.own s42 101 1 (encs l43)) :: (.blk b14 (enc y17) 102) :: (.own s6 46 2 (encs r4.1)) :: (.own Sl.nil 101 1 (encs ([] : List (BitVec 16)))) :: (.blk b1 (enc (PosetR.mk a0 s_a0_1)) 71) :: L) ⟨rfl, rfl, rfl, rfl, rfl, trivial⟩ rfl ?_
    rcases k40 with _ | k40
    · cases H
    obtain ⟨c40, H, hgo40, hbrk40, hret40⟩ := whileM_go H
    unfold lat_Downs_B2 at H
    try dsimp only at H
    refine Cd.seq ?_
    refine Cd.region ?_
    refine Lst.run rfl rfl (by decide) (Ev.lss rfl rfl) ?_
    refine Lst.nil ?_
    refine At.then ?_
    refine Cd.seq ?_
    rcases (Bool.eq_false_or_eq_true (decide ((y41.toNat : Int) < (((1 : BitVec 16) <<< n37).toNat : Int)))).symm with hb46 | hb46
    · replace H := ite_f hb46 H
      refine Cd.condF rfl hb46 ?_
      refine Cd.exit ?_
      refine At.then_exit ?_
      refine At.then_exit ?_
      refine At.in_exit ?_
      have H := hbrk40 _ (some_inj H).symm
      subst H
      replace H := HKl40
      refine At.then ?_
      refine Cd.seq ?_
      refine Cd.region ?_
      refine Lst.run rfl rfl (by decide) (Ev.move rfl) ?_
      refine Lst.run rfl rfl (by decide) (Ev.assign rfl) ?_
      refine Lst.run rfl rfl (by decide) (Ev.assign rfl) ?_
      refine Lst.nil ?_
      refine At.then ?_
      obtain rfl := some_inj H
      refine Cd.ret ?_
      exact At.ret2 rfl (Res.tmp rfl) (Res.tmp rfl) (FLe.trans (FLe.trans hF9 hF19) hF45) (List.Sublist.cons_cons _ (List.Sublist.cons _ (List.Sublist.cons _ (List.Sublist.cons _ (List.Sublist.cons _ (List.Sublist.refl _)))))) ⟨s42, rfl, rfl⟩
    replace H := ite_t hb46 H
    refine Cd.condT rfl hb46 ?_
    refine Cd.skip ?_
    refine At.then ?_
    refine Cd.seq ?_
    refine Cd.block ?_
    refine Cd.seq ?_
    refine Cd.region ?_
    refine Lst.run rfl rfl (by decide) (Ev.move rfl) ?_
    refine Lst.run rfl rfl (by decide) (Ev.assign rfl) ?_
    refine Lst.nil ?_
    refine At.then ?_
    refine Cd.seq ?_
    refine Cd.region ?_
    refine Lst.run rfl rfl (by decide) (Ev.assign rfl) ?_
    refine Lst.nil ?_
    refine At.then ?_
    refine Cd.seq ?_
    refine Cd.seq ?_
    refine Cd.region ?_
    refine Lst.run rfl rfl (by decide) (Ev.fieldAddr (off' := 0) rfl Try.runUnderlying71 rfl Try.sizeOf3 rfl rfl) ?_
    refine Lst.run rfl rfl (by decide) (Ev.load (i := 4) rfl rfl Try.isAgg3 (v := .int .i64 a0.N) ((PosetR.get_N (Get.here _)).off (by rfl))) ?_
    refine Lst.run rfl rfl (by decide) (Ev.move rfl) ?_
    refine Lst.nil ?_
    refine At.then ?_
    refine Cd.block ?_
    obtain ⟨nn51, hN70, H⟩ := bind_some H
    replace hN70 := upTo_some hN70
    obtain ⟨ol47, H, HKl47⟩ := bind_some H
    refine Cd.loop (σ := Nat × Nat × Bool) (fun (i47, k47, y48) => [(1, .pointer (some ⟨b1, 0, none⟩)), (6, .pointer (some ⟨b14, 0, none⟩)), (9, Sl.v s42), (10, .int .u16 y41.toNat), (11, .bool y48), (42, .int .u16 ((1 : BitVec 16) <<< n37).toNat), (43, .int .u16 y41.toNat), (47, .int .i64 a0.N), (48, .int .i64 (i47 : Int))]) (fun (i47, k47, y48) => (.own s42 101 1 (encs l43)) :: (.blk b14 (enc y17) 102) :: (.own s6 46 2 (encs r4.1)) :: (.own Sl.nil 101 1 (encs ([] : List (BitVec 16)))) :: (.blk b1 (enc (PosetR.mk a0 s_a0_1)) 71) :: L) (fun _ => (fun (i47, k47, y48) => rangeF (lat_Downs_B4 y17 y41) k47 i47 y48 = some ol47 ∧ i47 + k47 = nn51)) (fun (i47, k47, y48) => k47) (0, nn51, true) ⟨rfl, rfl, rfl, rfl, rfl, rfl, rfl, rfl, rfl, trivial⟩ rfl ⟨H, by omega⟩ ?_
    rintro F49 ⟨i47, k47, y48⟩ hF50 ⟨H, hik47⟩
    refine Cd.as (e' := [(1, .pointer (some ⟨b1, 0, none⟩)), (6, .pointer (some ⟨b14, 0, none⟩)), (9, Sl.v s42), (10, .int .u16 y41.toNat), (11, .bool y48), (42, .int .u16 ((1 : BitVec 16) <<< n37).toNat), (43, .int .u16 y41.toNat), (47, .int .i64 a0.N), (48, .int .i64 (i47 : Int))]) (L' := (.own s42 101 1 (encs l43)) :: (.blk b14 (enc y17) 102) :: (.own s6 46 2 (encs r4.1)) :: (.own Sl.nil 101 1 (encs ([] : List (BitVec 16)))) :: (.blk b1 (enc (PosetR.mk a0 s_a0_1)) 71) :: L) ⟨rfl, rfl, rfl, rfl, rfl, rfl, rfl, rfl, rfl, trivial⟩ rfl ?_
    rcases k47 with _ | k47
    · have hc47 : decide ((i47 : Int) < a0.N) = false := decide_eq_false (by omega)
      replace H := rangeF_end H
      refine Cd.seq ?_
      refine Cd.region ?_
      refine Lst.run rfl rfl (by decide) (Ev.lss rfl rfl) ?_
      refine Lst.nil ?_
      refine At.then ?_
      refine Cd.seq ?_
      refine Cd.condF rfl hc47 ?_
      refine Cd.exit ?_
      refine At.then_exit ?_
      refine At.then_exit ?_
      refine At.in_exit ?_
      subst H
      replace H := HKl47
      refine At.then ?_
      refine Cd.seq ?_
      refine Cd.region ?_
      refine Lst.run rfl rfl (by decide) (Ev.move rfl) ?_
      refine Lst.nil ?_
      refine At.then ?_
      rcases (Bool.eq_false_or_eq_true y48).symm with hb64 | hb64
      · replace H := ite_f hb64 H
        refine Cd.condF rfl hb64 ?_
        refine Cd.skip ?_
        refine At.in_normal ?_
        refine At.then ?_
        refine Cd.region ?_
        refine Lst.run rfl rfl (by decide) (Ev.addU16 (i := y41) (j := (1 : BitVec 16)) rfl rfl) ?_
        refine Lst.run rfl rfl (by decide) (Ev.move rfl) ?_
        refine Lst.nil ?_
        exact At.meet (k40, y41 + (1 : BitVec 16), s42, l43) (FLe.trans hF45 hF50) ⟨rfl, rfl, rfl, rfl, rfl, trivial⟩ rfl ⟨hgo40 _ (some_inj H).symm, Nat.lt_succ_self _⟩
      replace H := ite_t hb64 H
      refine Cd.condT rfl hb64 ?_
      refine Cd.region ?_
      refine Lst.run rfl rfl (by decide) (Ev.move rfl) ?_
      refine Lst.run rfl rfl (by decide) (Ev.move rfl) ?_
      refine Lst.buildSlice (α := BitVec 16) (xs := ([y41] : List (BitVec 16))) (pv := [(0, .int .u16 y41.toNat)]) rfl rfl (by decide) ⟨rfl, rfl, trivial⟩ (run_buildSlice (α := BitVec 16) (z0 := (0 : BitVec 16)) (xs := ([y41] : List (BitVec 16))) Try.runUnderlying67 Try.sizeOf101 Try.zeroValue101 rfl rfl rfl (by decide) rfl (fill_cons (cs := encs (List.replicate 1 (0 : BitVec 16))) (cs' := encs ((List.replicate 1 (0 : BitVec 16)).set 0 y41)) (vs := [.int .u16 y41.toNat]) rfl rfl rfl ((Put.elemN (s := 1) (i := 0) (x := (0 : BitVec 16)) (y := y41) rfl rfl (Put.here (vs := [.int .u16 y41.toNat]) rfl)).off rfl) fill_nil)) rfl rfl (by decide) (fun s65 _ => ?_)
      obtain ⟨u67, h68, H⟩ := bind_some H
      refine Lst.append (i := 1) (α := BitVec 16) (xs := l43) (ys := ([y41] : List (BitVec 16))) rfl rfl (by decide) rfl rfl Try.runUnderlying67 Try.typeInfo101 rfl rfl rfl rfl rfl rfl (Rd.own (i := 0) rfl rfl rfl) rfl (room_some h68) rfl (fun s69 => ?_)
      refine Lst.its (L' := (.own s65 101 1 (encs ([y41] : List (BitVec 16)))) :: (.own s69 101 1 (encs (l43 ++ ([y41] : List (BitVec 16))))) :: (.blk b14 (enc y17) 102) :: (.own s6 46 2 (encs r4.1)) :: (.own Sl.nil 101 1 (encs ([] : List (BitVec 16)))) :: (.blk b1 (enc (PosetR.mk a0 s_a0_1)) 71) :: L) rfl ?_
      refine Lst.run rfl rfl (by decide) (Ev.assign rfl) ?_
      refine Lst.nil ?_
      refine At.in_normal ?_
      refine At.then ?_
      refine Cd.region ?_
      refine Lst.run rfl rfl (by decide) (Ev.addU16 (i := y41) (j := (1 : BitVec 16)) rfl rfl) ?_
      refine Lst.run rfl rfl (by decide) (Ev.move rfl) ?_
      refine Lst.nil ?_
      refine At.less (L' := (.own s69 101 1 (encs (l43 ++ ([y41] : List (BitVec 16))))) :: (.blk b14 (enc y17) 102) :: (.own s6 46 2 (encs r4.1)) :: (.own Sl.nil 101 1 (encs ([] : List (BitVec 16)))) :: (.blk b1 (enc (PosetR.mk a0 s_a0_1)) 71) :: L) (List.Sublist.cons _ (List.Sublist.cons_cons _ (List.Sublist.cons_cons _ (List.Sublist.cons_cons _ (List.Sublist.cons_cons _ (List.Sublist.cons_cons _ (List.Sublist.refl _))))))) ?_
      exact At.meet (k40, y41 + (1 : BitVec 16), s69, l43 ++ ([y41] : List (BitVec 16))) (FLe.trans hF45 hF50) ⟨rfl, rfl, rfl, rfl, rfl, trivial⟩ rfl ⟨hgo40 _ (some_inj H).symm, Nat.lt_succ_self _⟩
    have hc47 : decide ((i47 : Int) < a0.N) = true := decide_eq_true (by omega)
    obtain ⟨c47, H, hgo47⟩ := rangeF_go H
    unfold lat_Downs_B4 at H
    try dsimp only at H
    refine Cd.seq ?_
    refine Cd.region ?_
    refine Lst.run rfl rfl (by decide) (Ev.lss rfl rfl) ?_
    refine Lst.nil ?_
    refine At.then ?_
    refine Cd.seq ?_
    refine Cd.condT rfl hc47 ?_
    refine Cd.skip ?_
    refine At.then ?_
    refine Cd.seq ?_
    refine Cd.block ?_
    refine Cd.seq ?_
    refine Cd.region ?_
    refine Lst.run rfl rfl (by decide) (Ev.move rfl) ?_
    refine Lst.run rfl rfl (by decide) (Ev.assign rfl) ?_
    refine Lst.nil ?_
    refine At.then ?_
    refine Cd.region ?_
    refine Lst.run rfl rfl (by decide) (Ev.move rfl) ?_
    refine Lst.run rfl rfl (by decide) (Ev.move rfl) ?_
    rcases (Bool.eq_false_or_eq_true y48).symm with hb52 | hb52
    · replace H := ite_f hb52 H
      refine Lst.skip rfl rfl rfl hb52 rfl (by decide) ?_
      refine Lst.skip rfl rfl rfl hb52 rfl (by decide) ?_
      refine Lst.skip rfl rfl rfl hb52 rfl (by decide) ?_
      refine Lst.skip rfl rfl rfl hb52 rfl (by decide) ?_
      refine Lst.skip rfl rfl rfl hb52 rfl (by decide) ?_
      refine Lst.skip rfl rfl rfl hb52 rfl (by decide) ?_
      refine Lst.skipU rfl rfl rfl rfl (by decide) ?_
      refine Lst.skipU rfl rfl rfl rfl (by decide) ?_
      refine Lst.skipU rfl rfl rfl rfl (by decide) ?_
      refine Lst.skipU rfl rfl rfl rfl (by decide) ?_
      refine Lst.skipU rfl rfl rfl rfl (by decide) ?_
      refine Lst.skipU rfl rfl rfl rfl (by decide) ?_
      refine Lst.skip rfl rfl rfl hb52 rfl (by decide) ?_
      refine Lst.run rfl rfl (by decide) (Ev.pickF rfl hb52 rfl) ?_
      refine Lst.run rfl rfl (by decide) (Ev.assign rfl) ?_
      refine Lst.nil ?_
      refine At.in_normal ?_
      refine At.then ?_
      refine Cd.as (e' := [(1, .pointer (some ⟨b1, 0, none⟩)), (6, .pointer (some ⟨b14, 0, none⟩)), (9, Sl.v s42), (10, .int .u16 y41.toNat), (11, .bool false), (42, .int .u16 ((1 : BitVec 16) <<< n37).toNat), (43, .int .u16 y41.toNat), (47, .int .i64 a0.N), (48, .int .i64 (i47 : Int))]) (L' := (.own s42 101 1 (encs l43)) :: (.blk b14 (enc y17) 102) :: (.own s6 46 2 (encs r4.1)) :: (.own Sl.nil 101 1 (encs ([] : List (BitVec 16)))) :: (.blk b1 (enc (PosetR.mk a0 s_a0_1)) 71) :: L) ⟨rfl, rfl, rfl, rfl, rfl, rfl, rfl, rfl, rfl, trivial⟩ rfl ?_
      refine Cd.region ?_
      refine Lst.run rfl rfl (by decide) (Ev.incr (by omega) rfl rfl) ?_
      refine Lst.run rfl rfl (by decide) (Ev.move rfl) ?_
      refine Lst.nil ?_
      exact At.meet (i47 + 1, k47, false) hF50 ⟨rfl, rfl, rfl, rfl, rfl, rfl, rfl, rfl, rfl, trivial⟩ rfl ⟨⟨hgo47 _ (some_inj H).symm, by omega⟩, Nat.lt_succ_self _⟩
    replace H := ite_t hb52 H
    refine Lst.runG rfl rfl rfl hb52 rfl (by decide) (Ev.move rfl) ?_
    refine Lst.runG rfl rfl rfl hb52 rfl (by decide) (Ev.move rfl) ?_
    obtain ⟨n53, h54, H⟩ := bind_some H
    refine Lst.runG rfl rfl rfl hb52 rfl (by decide) (Ev.shrU16 (i := y41) (m := n53) rfl (congrArg some (congrArg (Value.int .i64) (cnt_some h54)))) ?_
    refine Lst.runG rfl rfl rfl hb52 rfl (by decide) (Ev.andU16 (i := y41 >>> n53) (j := (1 : BitVec 16)) rfl rfl) ?_
    refine Lst.runG rfl rfl rfl hb52 rfl (by decide) (Ev.eql rfl rfl) ?_
    refine Lst.runG rfl rfl rfl hb52 rfl (by decide) (Ev.move rfl) ?_
    obtain ⟨o56, H, HKo56⟩ := bind_some H
    refine Lst.join (σ := Bool) 7 (fun y57 => [(1, .pointer (some ⟨b1, 0, none⟩)), (6, .pointer (some ⟨b14, 0, none⟩)), (9, Sl.v s42), (10, .int .u16 y41.toNat), (11, .bool y48), (42, .int .u16 ((1 : BitVec 16) <<< n37).toNat), (43, .int .u16 y41.toNat), (47, .int .i64 a0.N), (48, .int .i64 (i47 : Int)), (52, .bool y48), (65, .bool y57)]) (fun y57 => (.own s42 101 1 (encs l43)) :: (.blk b14 (enc y17) 102) :: (.own s6 46 2 (encs r4.1)) :: (.own Sl.nil 101 1 (encs ([] : List (BitVec 16)))) :: (.blk b1 (enc (PosetR.mk a0 s_a0_1)) 71) :: L) (fun _ y57 => y57 = o56) ?_ ?_
    · rcases Bool.eq_false_or_eq_true ((((y41 >>> n53) &&& (1 : BitVec 16)).toNat : Int) == ((0 : BitVec 16).toNat : Int)) with hb58 | hb58
      · replace H := ite_t hb58 H
        refine Lst.skip rfl rfl rfl hb58 rfl (by decide) ?_
        refine Lst.skip rfl rfl rfl hb58 rfl (by decide) ?_
        refine Lst.skip rfl rfl rfl hb58 rfl (by decide) ?_
        refine Lst.skip rfl rfl rfl hb58 rfl (by decide) ?_
        refine Lst.skip rfl rfl rfl hb58 rfl (by decide) ?_
        refine Lst.skip rfl rfl rfl hb58 rfl (by decide) ?_
        refine Lst.runG rfl rfl rfl hb52 rfl (by decide) (Ev.pickT rfl hb58 rfl) ?_
        refine Lst.nil ?_
        exact At.meet true (FLe.refl _) ⟨rfl, rfl, rfl, rfl, rfl, rfl, rfl, rfl, rfl, rfl, rfl, trivial⟩ rfl (some_inj H)
      replace H := ite_f hb58 H
      refine Lst.runG rfl rfl rfl hb58 rfl (by decide) (Ev.move rfl) ?_
      obtain ⟨x59, h60, H⟩ := bind_some H
      have g61 := vat_some h60
      refine Lst.runG rfl rfl rfl hb58 rfl (by decide) (Ev.indexAddr (off' := 0 + (i47 : Int).toNat * 1) rfl rfl Try.runUnderlying102 Try.sizeOf101 g61.1 g61.2.1 rfl) ?_
      refine Lst.runG rfl rfl rfl hb58 rfl (by decide) (Ev.load (i := 1) rfl rfl Try.isAgg101 (v := .int .u16 x59.toNat) ((Get.vecN (s := 1) (x := x59) rfl g61.2.2 (Get.here _)).off (by omega))) ?_
      refine Lst.runG rfl rfl rfl hb58 rfl (by decide) (Ev.move rfl) ?_
      refine Lst.runG rfl rfl rfl hb58 rfl (by decide) (Ev.andNotU16 (i := x59) (j := y41) rfl rfl) ?_
      refine Lst.runG rfl rfl rfl hb58 rfl (by decide) (Ev.eql rfl rfl) ?_
      refine Lst.runG rfl rfl rfl hb52 rfl (by decide) (Ev.pickF rfl hb58 rfl) ?_
      refine Lst.nil ?_
      exact At.meet (((x59 &&& ~~~y41).toNat : Int) == ((0 : BitVec 16).toNat : Int)) (FLe.refl _) ⟨rfl, rfl, rfl, rfl, rfl, rfl, rfl, rfl, rfl, rfl, rfl, trivial⟩ rfl (some_inj H)
    rintro F62 y57 hF63 hy
    subst hy
    refine Lst.as (e' := [(1, .pointer (some ⟨b1, 0, none⟩)), (6, .pointer (some ⟨b14, 0, none⟩)), (9, Sl.v s42), (10, .int .u16 y41.toNat), (11, .bool y48), (42, .int .u16 ((1 : BitVec 16) <<< n37).toNat), (43, .int .u16 y41.toNat), (47, .int .i64 a0.N), (48, .int .i64 (i47 : Int)), (52, .bool y48), (65, .bool y57)]) (L' := (.own s42 101 1 (encs l43)) :: (.blk b14 (enc y17) 102) :: (.own s6 46 2 (encs r4.1)) :: (.own Sl.nil 101 1 (encs ([] : List (BitVec 16)))) :: (.blk b1 (enc (PosetR.mk a0 s_a0_1)) 71) :: L) ⟨rfl, rfl, rfl, rfl, rfl, rfl, rfl, rfl, rfl, rfl, rfl, trivial⟩ rfl ?_
    replace H := HKo56
    refine Lst.run rfl rfl (by decide) (Ev.pickT rfl hb52 rfl) ?_
    refine Lst.run rfl rfl (by decide) (Ev.assign rfl) ?_
    refine Lst.nil ?_
    refine At.in_normal ?_
    refine At.then ?_
    refine Cd.region ?_
    refine Lst.run rfl rfl (by decide) (Ev.incr (by omega) rfl rfl) ?_
    refine Lst.run rfl rfl (by decide) (Ev.move rfl) ?_
    refine Lst.nil ?_
    exact At.meet (i47 + 1, k47, y57) (FLe.trans hF50 hF63) ⟨rfl, rfl, rfl, rfl, rfl, rfl, rfl, rfl, rfl, trivial⟩ rfl ⟨⟨hgo47 _ (some_inj H).symm, by omega⟩, Nat.lt_succ_self _⟩
  have hc16 : decide ((i16 : Int) < (r4.1.length : Int)) = true := decide_eq_true (by omega)
  obtain ⟨c16, H, hgo16⟩ := rangeF_go H
  unfold lat_Downs_B0 at H
  try dsimp only at H
  refine Cd.seq ?_
  refine Cd.region ?_
  refine Lst.run rfl rfl (by decide) (Ev.lss rfl rfl) ?_
  refine Lst.nil ?_
  refine At.then ?_
  refine Cd.seq ?_
  refine Cd.condT rfl hc16 ?_
  refine Cd.skip ?_
  refine At.then ?_
  refine Cd.seq ?_
  refine Cd.block ?_
  refine Cd.seq ?_
  refine Cd.region ?_
  obtain ⟨x20, h21, H⟩ := bind_some H
  have g22 := lat_some h21
  refine Lst.run rfl rfl (by decide) (Ev.indexS (α := Pair) (xs := r4.1) rfl rfl Try.runUnderlying39 Try.sizeOf46 rfl (by decide) (Rd.own (i := 1) rfl rfl rfl) g22.1 g22.2.1) ?_
  refine Lst.run rfl rfl (by decide) (Ev.loadSA (α := Pair) rfl (Rd.own (i := 1) rfl rfl rfl) Try.isAgg46 Try.sizeOf46 (ch := enc x20) (Enc.len _) (by decide) ((Get.elemN (s := 2) (x := x20) rfl g22.2.2 (Get.here _)).off (by omega))) ?_
  refine Lst.alloc (cs := enc Pair.zero) rfl rfl (by decide) Try.zeroValue46 rfl (fun b23 => ?_)
  refine Lst.store (i := 0) rfl rfl rfl rfl rfl Try.sizeOf46 (vs := enc x20) rfl (Enc.len _) (Enc.one _) (cs' := enc x20) (Put.here ((Enc.len _).trans (Enc.len _).symm)) (L' := (.blk b23 (enc x20) 46) :: (.blk b14 (enc y17) 102) :: (.own s6 46 2 (encs r4.1)) :: (.own Sl.nil 101 1 (encs ([] : List (BitVec 16)))) :: (.blk b1 (enc (PosetR.mk a0 s_a0_1)) 71) :: L) rfl ?_
  refine Lst.nil ?_
  refine At.then ?_
  refine Cd.tail 9 (by kernel_rfl) (by kernel_rfl) ?_
  refine Qt.run rfl rfl (by decide) (Ev.fieldAddr (off' := 1) rfl Try.runUnderlying46 rfl Try.sizeOf3 rfl rfl) ?_
  refine Qt.run rfl rfl (by decide) (Ev.load (i := 0) rfl rfl Try.isAgg3 (v := .int .i64 x20.B) ((Pair.get_B (Get.here _)).off (by rfl))) ?_
  obtain ⟨x25, h26, H⟩ := bind_some H
  have g27 := vat_some h26
  refine Qt.run rfl rfl (by decide) (Ev.indexAddr (off' := 0 + x20.B.toNat * 1) rfl rfl Try.runUnderlying102 Try.sizeOf101 g27.1 g27.2.1 rfl) ?_
  refine Qt.run rfl rfl (by decide) (Ev.load (i := 1) rfl rfl Try.isAgg101 (v := .int .u16 x25.toNat) ((Get.vecN (s := 1) (x := x25) rfl g27.2.2 (Get.here _)).off (by omega))) ?_
  refine Qt.run rfl rfl (by decide) (Ev.fieldAddr (off' := 0) rfl Try.runUnderlying46 rfl Try.sizeOf3 rfl rfl) ?_
  refine Qt.run rfl rfl (by decide) (Ev.load (i := 0) rfl rfl Try.isAgg3 (v := .int .i64 x20.A) ((Pair.get_A (Get.here _)).off (by rfl))) ?_
  obtain ⟨n28, h29, H⟩ := bind_some H
  refine Qt.run rfl rfl (by decide) (Ev.shlU16 (i := (1 : BitVec 16)) (m := n28) rfl (congrArg some (congrArg (Value.int .i64) (cnt_some h29)))) ?_
  refine Qt.run rfl rfl (by decide) (Ev.orU16 (i := x25) (j := (1 : BitVec 16) <<< n28) rfl rfl) ?_
  obtain ⟨x31, h32, H⟩ := bind_some H
  have g33 := vat_some h32
  refine Qt.run rfl rfl (by decide) (Ev.indexAddr (off' := 0 + x20.B.toNat * 1) rfl rfl Try.runUnderlying102 Try.sizeOf101 g33.1 g33.2.1 rfl) ?_
  refine Qt.tail ?_
  obtain ⟨p34, h35, H⟩ := Let_some H
  refine Lst.store (i := 1) rfl rfl rfl rfl rfl Try.sizeOf101 (vs := [.int .u16 (x25 ||| ((1 : BitVec 16) <<< n28)).toNat]) rfl rfl rfl (cs' := enc p34) (by rw [← h35]; exact (Put.vecN (s := 1) (x := x31) rfl g33.2.2 (Put.here (vs := [.int .u16 (x25 ||| ((1 : BitVec 16) <<< n28)).toNat]) rfl)).off (by omega)) (L' := (.blk b23 (enc x20) 46) :: (.blk b14 (enc p34) 102) :: (.own s6 46 2 (encs r4.1)) :: (.own Sl.nil 101 1 (encs ([] : List (BitVec 16)))) :: (.blk b1 (enc (PosetR.mk a0 s_a0_1)) 71) :: L) rfl ?_
  refine Lst.nil ?_
  refine At.in_normal ?_
  refine At.then ?_
  refine Cd.region ?_
  refine Lst.run rfl rfl (by decide) (Ev.incr (by omega) rfl rfl) ?_
  refine Lst.run rfl rfl (by decide) (Ev.move rfl) ?_
  refine Lst.nil ?_
  refine At.less (L' := (.blk b14 (enc p34) 102) :: (.own s6 46 2 (encs r4.1)) :: (.own Sl.nil 101 1 (encs ([] : List (BitVec 16)))) :: (.blk b1 (enc (PosetR.mk a0 s_a0_1)) 71) :: L) (List.Sublist.cons _ (List.Sublist.cons_cons _ (List.Sublist.cons_cons _ (List.Sublist.cons_cons _ (List.Sublist.cons_cons _ (List.Sublist.refl _)))))) ?_
  exact At.meet (i16 + 1, k16, p34) hF19 ⟨rfl, rfl, rfl, rfl, rfl, trivial⟩ rfl ⟨⟨hgo16 _ (some_inj H).symm, by omega⟩, Nat.lt_succ_self _⟩
set_option maxRecDepth 20000 in
theorem cut_counts_sim {a0 : List Event} {s_a0 : Sl} {r : (Vector Int 6)} (H : cut_counts a0 = some r) (w0 : World) (F : Frz) (M L : List Item) (hM : M.Sublist L) (hs_a0 : Rd w0 F M s_a0 a0) : Ok Try.prog w0 57 [Sl.v s_a0] F (L) (Is (.agg (enc r).toArray) (L)) := by
  unfold cut_counts at H
  refine Ok.enter (m := 1) (n := 20) Try.func57 rfl rfl rfl (by decide) ?_
  refine Cd.env (e' := [(0, Sl.v s_a0)]) rfl ?_
  refine Cd.seq ?_
  refine Cd.region ?_
  refine Lst.alloc (cs := enc (Vector.replicate 6 (0 : Int))) rfl rfl (by decide) Try.zeroValue23 rfl (fun b1 => ?_)
  refine Lst.nil ?_
  refine At.then ?_
  refine Cd.seq ?_
  refine Cd.region ?_
  refine Lst.alloc (cs := enc (Vector.replicate 6 (0 : Int))) rfl rfl (by decide) Try.zeroValue23 rfl (fun b3 => ?_)
  refine Lst.nil ?_
  refine At.then ?_
  refine Cd.seq ?_
  refine Cd.seq ?_
  refine Cd.region ?_
  refine Lst.run rfl rfl (by decide) (Ev.move rfl) ?_
  refine Lst.run rfl rfl (by decide) (Ev.lenS (α := Event) (xs := a0) (by decide) rfl rfl Try.runUnderlying24 (hs_a0.mono (FLe.refl _) (List.Sublist.cons _ (List.Sublist.cons _ hM)))) ?_
  refine Lst.run rfl rfl (by decide) (Ev.move rfl) ?_
  refine Lst.nil ?_
  refine At.then ?_
  refine Cd.block ?_
  refine Cd.bound (Rd.le (α := Event) (xs := a0) (by decide) (hs_a0.mono (FLe.refl _) (List.Sublist.cons _ (List.Sublist.cons _ hM)))) (fun hN22 => ?_)
  obtain ⟨ol5, H, HKl5⟩ := bind_some H
  refine Cd.loop (σ := Nat × Nat × (Vector Int 6)) (fun (i5, k5, y6) => [(2, .pointer (some ⟨b1, 0, none⟩)), (3, .pointer (some ⟨b3, 0, none⟩)), (6, Sl.v s_a0), (7, .int .i64 (a0.length : Int)), (8, .int .i64 (i5 : Int))]) (fun (i5, k5, y6) => (.blk b3 (enc y6) 23) :: (.blk b1 (enc (Vector.replicate 6 (0 : Int))) 23) :: L) (fun _ => (fun (i5, k5, y6) => rangeF (cut_counts_B0 a0) k5 i5 y6 = some ol5 ∧ i5 + k5 = a0.length)) (fun (i5, k5, y6) => k5) (0, a0.length, (Vector.replicate 6 (0 : Int))) ⟨rfl, rfl, rfl, rfl, rfl, trivial⟩ rfl ⟨H, by omega⟩ ?_
  rintro F7 ⟨i5, k5, y6⟩ hF8 ⟨H, hik5⟩
  refine Cd.as (e' := [(2, .pointer (some ⟨b1, 0, none⟩)), (3, .pointer (some ⟨b3, 0, none⟩)), (6, Sl.v s_a0), (7, .int .i64 (a0.length : Int)), (8, .int .i64 (i5 : Int))]) (L' := (.blk b3 (enc y6) 23) :: (.blk b1 (enc (Vector.replicate 6 (0 : Int))) 23) :: L) ⟨rfl, rfl, rfl, rfl, rfl, trivial⟩ rfl ?_
  rcases k5 with _ | k5
  · have hc5 : decide ((i5 : Int) < (a0.length : Int)) = false := decide_eq_false (by omega)
    replace H := rangeF_end H
    refine Cd.seq ?_
    refine Cd.region ?_
    refine Lst.run rfl rfl (by decide) (Ev.lss rfl rfl) ?_
    refine Lst.nil ?_
    refine At.then ?_
    refine Cd.seq ?_
    refine Cd.condF rfl hc5 ?_
    refine Cd.exit ?_
    refine At.then_exit ?_
    refine At.then_exit ?_
    refine At.in_exit ?_
    subst H
    replace H := HKl5
    refine At.then ?_
    refine Cd.seq ?_
    refine Cd.region ?_
    refine Lst.run rfl rfl (by decide) (Ev.loadA (i := 0) rfl rfl Try.isAgg23 Try.sizeOf23 (ch := enc y6) (Enc.len _) (Get.here _)) ?_
    refine Lst.store (i := 1) rfl rfl rfl rfl rfl Try.sizeOf23 (vs := enc y6) rfl (Enc.len _) (Enc.one _) (cs' := enc y6) (Put.here ((Enc.len _).trans (Enc.len _).symm)) (L' := (.blk b3 (enc y6) 23) :: (.blk b1 (enc y6) 23) :: L) rfl ?_
    refine Lst.nil ?_
    refine At.then ?_
    obtain rfl := some_inj H
    refine Cd.ret ?_
    exact At.ret1 rfl (Res.cellA (i := 1) rfl rfl Try.isAgg23 Try.sizeOf23 (Enc.len _)) hF8 (List.Sublist.cons _ (List.Sublist.cons _ (List.Sublist.refl _))) ⟨rfl, rfl⟩
  have hc5 : decide ((i5 : Int) < (a0.length : Int)) = true := decide_eq_true (by omega)
  obtain ⟨c5, H, hgo5⟩ := rangeF_go H
  unfold cut_counts_B0 at H
  try dsimp only at H
  refine Cd.seq ?_
  refine Cd.region ?_
  refine Lst.run rfl rfl (by decide) (Ev.lss rfl rfl) ?_
  refine Lst.nil ?_
  refine At.then ?_
  refine Cd.seq ?_
  refine Cd.condT rfl hc5 ?_
  refine Cd.skip ?_
  refine At.then ?_
  refine Cd.seq ?_
  refine Cd.block ?_
  refine Cd.seq ?_
  refine Cd.region ?_
  obtain ⟨x9, h10, H⟩ := bind_some H
  have g11 := lat_some h10
  refine Lst.run rfl rfl (by decide) (Ev.indexS (α := Event) (xs := a0) rfl rfl Try.runUnderlying24 Try.sizeOf75 rfl (by decide) (hs_a0.mono hF8 (List.Sublist.cons _ (List.Sublist.cons _ hM))) g11.1 g11.2.1) ?_
  refine Lst.run rfl rfl (by decide) (Ev.loadSA (α := Event) rfl (hs_a0.mono hF8 (List.Sublist.cons _ (List.Sublist.cons _ hM))) Try.isAgg75 Try.sizeOf75 (ch := enc x9) (Enc.len _) (by decide) ((Get.elemN (s := 3) (x := x9) rfl g11.2.2 (Get.here _)).off (by omega))) ?_
  refine Lst.alloc (cs := enc Event.zero) rfl rfl (by decide) Try.zeroValue75 rfl (fun b12 => ?_)
  refine Lst.store (i := 0) rfl rfl rfl rfl rfl Try.sizeOf75 (vs := enc x9) rfl (Enc.len _) (Enc.one _) (cs' := enc x9) (Put.here ((Enc.len _).trans (Enc.len _).symm)) (L' := (.blk b12 (enc x9) 75) :: (.blk b3 (enc y6) 23) :: (.blk b1 (enc (Vector.replicate 6 (0 : Int))) 23) :: L) rfl ?_
  refine Lst.nil ?_
  refine At.then ?_
  refine Cd.region ?_
  refine Lst.run rfl rfl (by decide) (Ev.fieldAddr (off' := 0) rfl Try.runUnderlying75 rfl Try.sizeOf3 rfl rfl) ?_
  refine Lst.run rfl rfl (by decide) (Ev.load (i := 0) rfl rfl Try.isAgg3 (v := .int .i64 x9.Proc) ((Event.get_Proc (Get.here _)).off (by rfl))) ?_
  obtain ⟨x14, h15, H⟩ := bind_some H
  have g16 := vat_some h15
  refine Lst.run rfl rfl (by decide) (Ev.indexAddr (off' := 0 + x9.Proc.toNat * 1) rfl rfl Try.runUnderlying23 Try.sizeOf3 g16.1 g16.2.1 rfl) ?_
  refine Lst.run rfl rfl (by decide) (Ev.load (i := 1) rfl rfl Try.isAgg3 (v := .int .i64 x14) ((Get.vecN (s := 1) (x := x14) rfl g16.2.2 (Get.here _)).off (by omega))) ?_
  refine Lst.run rfl rfl (by decide) (Ev.add rfl rfl) ?_
  obtain ⟨x17, h18, H⟩ := bind_some H
  have g19 := vat_some h18
  refine Lst.run rfl rfl (by decide) (Ev.indexAddr (off' := 0 + x9.Proc.toNat * 1) rfl rfl Try.runUnderlying23 Try.sizeOf3 g19.1 g19.2.1 rfl) ?_
  obtain ⟨p20, h21, H⟩ := Let_some H
  refine Lst.store (i := 1) rfl rfl rfl rfl rfl Try.sizeOf3 (vs := [.int .i64 (w64 (x14 + (1 : Int)))]) rfl rfl rfl (cs' := enc p20) (by rw [← h21]; exact (Put.vecN (s := 1) (x := x17) rfl g19.2.2 (Put.here (vs := [.int .i64 (w64 (x14 + (1 : Int)))]) rfl)).off (by omega)) (L' := (.blk b12 (enc x9) 75) :: (.blk b3 (enc p20) 23) :: (.blk b1 (enc (Vector.replicate 6 (0 : Int))) 23) :: L) rfl ?_
  refine Lst.nil ?_
  refine At.in_normal ?_
  refine At.then ?_
  refine Cd.region ?_
  refine Lst.run rfl rfl (by decide) (Ev.incr (by omega) rfl rfl) ?_
  refine Lst.run rfl rfl (by decide) (Ev.move rfl) ?_
  refine Lst.nil ?_
  refine At.less (L' := (.blk b3 (enc p20) 23) :: (.blk b1 (enc (Vector.replicate 6 (0 : Int))) 23) :: L) (List.Sublist.cons _ (List.Sublist.cons_cons _ (List.Sublist.cons_cons _ (List.Sublist.refl _)))) ?_
  exact At.meet (i5 + 1, k5, p20) hF8 ⟨rfl, rfl, rfl, rfl, rfl, trivial⟩ rfl ⟨⟨hgo5 _ (some_inj H).symm, by omega⟩, Nat.lt_succ_self _⟩
set_option maxRecDepth 20000 in
theorem cut_vectors_sim {a0 : List Event} {s_a0 : Sl} {r : (Vector (List (Vector Int 6)) 6)} (H : cut_vectors a0 = some r) (w0 : World) (F : Frz) (M L : List Item) (hM : M.Sublist L) (hs_a0 : Rd w0 F M s_a0 a0) : Ok Try.prog w0 56 [Sl.v s_a0] F (L) (fun Fx L' v => ∃ (rs1 : Vector (LR (Vector Int 6)) 6), v = .agg (enc rs1).toArray ∧ L' = (.rows (α := Vector Int 6) 23 rs1.toList) :: L ∧ rs1.toList.map LR.v = r.toList) := by
  unfold cut_vectors at H
  refine Ok.enter (m := 1) (n := 35) Try.func56 rfl rfl rfl (by decide) ?_
  refine Cd.env (e' := [(0, Sl.v s_a0)]) rfl ?_
  refine Cd.seq ?_
  refine Cd.region ?_
  have hm1 : (Vector.replicate 6 ⟨[], Sl.nil⟩ : Vector (LR (Vector Int 6)) 6).toList.map LR.v = (Vector.replicate 6 [] : Vector (List (Vector Int 6)) 6).toList := vmap_rep _ _
  refine Lst.rowsNilV (Vector Int 6) 23 6 ?_
  refine Lst.alloc (cs := enc (Vector.replicate 6 ⟨[], Sl.nil⟩ : Vector (LR (Vector Int 6)) 6)) rfl rfl (by decide) Try.zeroValue90 rfl (fun b3 => ?_)
  refine Lst.nil ?_
  refine At.then ?_
  refine Cd.seq ?_
  refine Cd.region ?_
  have hm5 : (Vector.replicate 6 ⟨[], Sl.nil⟩ : Vector (LR (Vector Int 6)) 6).toList.map LR.v = (Vector.replicate 6 [] : Vector (List (Vector Int 6)) 6).toList := vmap_rep _ _
  refine Lst.rowsNilV (Vector Int 6) 23 6 ?_
  refine Lst.alloc (cs := enc (Vector.replicate 6 ⟨[], Sl.nil⟩ : Vector (LR (Vector Int 6)) 6)) rfl rfl (by decide) Try.zeroValue90 rfl (fun b7 => ?_)
  refine Lst.nil ?_
  refine At.then ?_
  refine Cd.seq ?_
  refine Cd.region ?_
  refine Lst.run rfl rfl (by decide) (Ev.move rfl) ?_
  obtain ⟨r9, h10, H⟩ := bind_some H
  refine Lst.call rfl rfl (by decide) (vs := [Sl.v s_a0]) ⟨rfl, trivial⟩ Try.call15 (vect_Vectors_sim h10 w0 _ M _ (List.Sublist.cons _ (List.Sublist.cons _ (List.Sublist.cons _ (List.Sublist.cons _ hM)))) (hs_a0.mono (FLe.refl _) (List.Sublist.refl _))) (fun F13 L' v hF14 hv => ?_)
  obtain ⟨s11, rfl, rfl⟩ := hv
  refine Lst.run rfl rfl (by decide) (Ev.move rfl) ?_
  refine Lst.run rfl rfl (by decide) (Ev.extract rfl rfl) ?_
  refine Lst.run rfl rfl (by decide) (Ev.extract rfl rfl) ?_
  refine Lst.run rfl rfl (by decide) (Ev.assign rfl) ?_
  refine Lst.run rfl rfl (by decide) (Ev.assign rfl) ?_
  refine Lst.nil ?_
  refine At.then ?_
  refine Cd.seq ?_
  refine Cd.seq ?_
  refine Cd.region ?_
  refine Lst.run rfl rfl (by decide) (Ev.move rfl) ?_
  refine Lst.run rfl rfl (by decide) (Ev.lenS (α := Event) (xs := a0) (by decide) rfl rfl Try.runUnderlying24 (hs_a0.mono hF14 (List.Sublist.cons _ (List.Sublist.cons _ (List.Sublist.cons _ (List.Sublist.cons _ (List.Sublist.cons _ hM))))))) ?_
  refine Lst.run rfl rfl (by decide) (Ev.move rfl) ?_
  refine Lst.nil ?_
  refine At.then ?_
  refine Cd.block ?_
  refine Cd.front (i := 4) rfl (L' := (.rows (α := Vector Int 6) 23 ((Vector.replicate 6 ⟨[], Sl.nil⟩ : Vector (LR (Vector Int 6)) 6).toList)) :: (.own s11 23 6 (encs r9.1)) :: (.blk b7 (enc (Vector.replicate 6 ⟨[], Sl.nil⟩ : Vector (LR (Vector Int 6)) 6)) 90) :: (.rows (α := Vector Int 6) 23 ((Vector.replicate 6 ⟨[], Sl.nil⟩ : Vector (LR (Vector Int 6)) 6).toList)) :: (.blk b3 (enc (Vector.replicate 6 ⟨[], Sl.nil⟩ : Vector (LR (Vector Int 6)) 6)) 90) :: L) rfl ?_
  refine Cd.front (i := 4) rfl (L' := (.blk b3 (enc (Vector.replicate 6 ⟨[], Sl.nil⟩ : Vector (LR (Vector Int 6)) 6)) 90) :: (.rows (α := Vector Int 6) 23 ((Vector.replicate 6 ⟨[], Sl.nil⟩ : Vector (LR (Vector Int 6)) 6).toList)) :: (.own s11 23 6 (encs r9.1)) :: (.blk b7 (enc (Vector.replicate 6 ⟨[], Sl.nil⟩ : Vector (LR (Vector Int 6)) 6)) 90) :: (.rows (α := Vector Int 6) 23 ((Vector.replicate 6 ⟨[], Sl.nil⟩ : Vector (LR (Vector Int 6)) 6).toList)) :: L) rfl ?_
  refine Cd.front (i := 3) rfl (L' := (.blk b7 (enc (Vector.replicate 6 ⟨[], Sl.nil⟩ : Vector (LR (Vector Int 6)) 6)) 90) :: (.blk b3 (enc (Vector.replicate 6 ⟨[], Sl.nil⟩ : Vector (LR (Vector Int 6)) 6)) 90) :: (.rows (α := Vector Int 6) 23 ((Vector.replicate 6 ⟨[], Sl.nil⟩ : Vector (LR (Vector Int 6)) 6).toList)) :: (.own s11 23 6 (encs r9.1)) :: (.rows (α := Vector Int 6) 23 ((Vector.replicate 6 ⟨[], Sl.nil⟩ : Vector (LR (Vector Int 6)) 6).toList)) :: L) rfl ?_
  refine Cd.front (i := 3) rfl (L' := (.own s11 23 6 (encs r9.1)) :: (.blk b7 (enc (Vector.replicate 6 ⟨[], Sl.nil⟩ : Vector (LR (Vector Int 6)) 6)) 90) :: (.blk b3 (enc (Vector.replicate 6 ⟨[], Sl.nil⟩ : Vector (LR (Vector Int 6)) 6)) 90) :: (.rows (α := Vector Int 6) 23 ((Vector.replicate 6 ⟨[], Sl.nil⟩ : Vector (LR (Vector Int 6)) 6).toList)) :: (.rows (α := Vector Int 6) 23 ((Vector.replicate 6 ⟨[], Sl.nil⟩ : Vector (LR (Vector Int 6)) 6).toList)) :: L) rfl ?_
  refine Cd.front (i := 4) rfl (L' := (.rows (α := Vector Int 6) 23 ((Vector.replicate 6 ⟨[], Sl.nil⟩ : Vector (LR (Vector Int 6)) 6).toList)) :: (.own s11 23 6 (encs r9.1)) :: (.blk b7 (enc (Vector.replicate 6 ⟨[], Sl.nil⟩ : Vector (LR (Vector Int 6)) 6)) 90) :: (.blk b3 (enc (Vector.replicate 6 ⟨[], Sl.nil⟩ : Vector (LR (Vector Int 6)) 6)) 90) :: (.rows (α := Vector Int 6) 23 ((Vector.replicate 6 ⟨[], Sl.nil⟩ : Vector (LR (Vector Int 6)) 6).toList)) :: L) rfl ?_
  refine Cd.bound (Rd.le (α := Event) (xs := a0) (by decide) (hs_a0.mono hF14 (List.Sublist.cons _ (List.Sublist.cons _ (List.Sublist.cons _ (List.Sublist.cons _ (List.Sublist.cons _ hM))))))) (fun hN59 => ?_)
  obtain ⟨ol15, H, HKl15⟩ := bind_some H
  refine Cd.loop (σ := Nat × Nat × (Vector (LR (Vector Int 6)) 6) × (Vector (List (Vector Int 6)) 6)) (fun (i15, k15, rs16, l17) => [(2, .pointer (some ⟨b3, 0, none⟩)), (3, .pointer (some ⟨b7, 0, none⟩)), (4, Sl.v s11), (13, Sl.v s_a0), (14, .int .i64 (a0.length : Int)), (15, .int .i64 (i15 : Int))]) (fun (i15, k15, rs16, l17) => (.rows (α := Vector Int 6) 23 rs16.toList) :: (.own s11 23 6 (encs r9.1)) :: (.blk b7 (enc rs16) 90) :: (.blk b3 (enc (Vector.replicate 6 ⟨[], Sl.nil⟩ : Vector (LR (Vector Int 6)) 6)) 90) :: (.rows (α := Vector Int 6) 23 ((Vector.replicate 6 ⟨[], Sl.nil⟩ : Vector (LR (Vector Int 6)) 6).toList)) :: L) (fun Fx => (fun (i15, k15, rs16, l17) => rangeF (cut_vectors_B0 a0 r9) k15 i15 l17 = some ol15 ∧ i15 + k15 = a0.length ∧ rs16.toList.map LR.v = l17.toList)) (fun (i15, k15, rs16, l17) => k15) (0, a0.length, (Vector.replicate 6 ⟨[], Sl.nil⟩ : Vector (LR (Vector Int 6)) 6), (Vector.replicate 6 [] : Vector (List (Vector Int 6)) 6)) ⟨rfl, rfl, rfl, rfl, rfl, rfl, trivial⟩ rfl ⟨H, by omega, hm5⟩ ?_
  rintro F20 ⟨i15, k15, rs16, l17⟩ hF21 ⟨H, hik15, fm18⟩
  refine Cd.as (e' := [(2, .pointer (some ⟨b3, 0, none⟩)), (3, .pointer (some ⟨b7, 0, none⟩)), (4, Sl.v s11), (13, Sl.v s_a0), (14, .int .i64 (a0.length : Int)), (15, .int .i64 (i15 : Int))]) (L' := (.rows (α := Vector Int 6) 23 rs16.toList) :: (.own s11 23 6 (encs r9.1)) :: (.blk b7 (enc rs16) 90) :: (.blk b3 (enc (Vector.replicate 6 ⟨[], Sl.nil⟩ : Vector (LR (Vector Int 6)) 6)) 90) :: (.rows (α := Vector Int 6) 23 ((Vector.replicate 6 ⟨[], Sl.nil⟩ : Vector (LR (Vector Int 6)) 6).toList)) :: L) ⟨rfl, rfl, rfl, rfl, rfl, rfl, trivial⟩ rfl ?_
  rcases k15 with _ | k15
  · have hc15 : decide ((i15 : Int) < (a0.length : Int)) = false := decide_eq_false (by omega)
    replace H := rangeF_end H
    refine Cd.seq ?_
    refine Cd.region ?_
    refine Lst.run rfl rfl (by decide) (Ev.lss rfl rfl) ?_
    refine Lst.nil ?_
    refine At.then ?_
    refine Cd.seq ?_
    refine Cd.condF rfl hc15 ?_
    refine Cd.exit ?_
    refine At.then_exit ?_
    refine At.then_exit ?_
    refine At.in_exit ?_
    subst H
    replace H := HKl15
    refine At.then ?_
    refine Cd.seq ?_
    refine Cd.region ?_
    refine Lst.run rfl rfl (by decide) (Ev.loadA (i := 2) rfl rfl Try.isAgg90 Try.sizeOf90 (ch := enc rs16) (Enc.len _) (Get.here _)) ?_
    refine Lst.store (i := 3) rfl rfl rfl rfl rfl Try.sizeOf90 (vs := enc rs16) rfl (Enc.len _) (Enc.one _) (cs' := enc rs16) (Put.here ((Enc.len _).trans (Enc.len _).symm)) (L' := (.rows (α := Vector Int 6) 23 rs16.toList) :: (.own s11 23 6 (encs r9.1)) :: (.blk b7 (enc rs16) 90) :: (.blk b3 (enc rs16) 90) :: (.rows (α := Vector Int 6) 23 ((Vector.replicate 6 ⟨[], Sl.nil⟩ : Vector (LR (Vector Int 6)) 6).toList)) :: L) rfl ?_
    refine Lst.nil ?_
    refine At.then ?_
    obtain rfl := some_inj H
    refine Cd.ret ?_
    exact At.ret1 rfl (Res.cellA (i := 3) rfl rfl Try.isAgg90 Try.sizeOf90 (Enc.len _)) (FLe.trans hF14 hF21) (List.Sublist.cons_cons _ (List.Sublist.cons _ (List.Sublist.cons _ (List.Sublist.cons _ (List.Sublist.cons _ (List.Sublist.refl _)))))) ⟨rs16, rfl, rfl, fm18⟩
  have hc15 : decide ((i15 : Int) < (a0.length : Int)) = true := decide_eq_true (by omega)
  obtain ⟨c15, H, hgo15⟩ := rangeF_go H
  unfold cut_vectors_B0 at H
  try dsimp only at H
  refine Cd.seq ?_
  refine Cd.region ?_
  refine Lst.run rfl rfl (by decide) (Ev.lss rfl rfl) ?_
  refine Lst.nil ?_
  refine At.then ?_
  refine Cd.seq ?_
  refine Cd.condT rfl hc15 ?_
  refine Cd.skip ?_
  refine At.then ?_
  refine Cd.seq ?_
  refine Cd.block ?_
  refine Cd.seq ?_
  refine Cd.region ?_
  refine Lst.run rfl rfl (by decide) (Ev.move rfl) ?_
  obtain ⟨x22, h23, H⟩ := bind_some H
  have g24 := lat_some h23
  refine Lst.run rfl rfl (by decide) (Ev.indexS (α := Event) (xs := a0) rfl rfl Try.runUnderlying24 Try.sizeOf75 rfl (by decide) (hs_a0.mono (FLe.trans hF14 hF21) (List.Sublist.cons _ (List.Sublist.cons _ (List.Sublist.cons _ (List.Sublist.cons _ (List.Sublist.cons _ hM)))))) g24.1 g24.2.1) ?_
  refine Lst.run rfl rfl (by decide) (Ev.loadSA (α := Event) rfl (hs_a0.mono (FLe.trans hF14 hF21) (List.Sublist.cons _ (List.Sublist.cons _ (List.Sublist.cons _ (List.Sublist.cons _ (List.Sublist.cons _ hM)))))) Try.isAgg75 Try.sizeOf75 (ch := enc x22) (Enc.len _) (by decide) ((Get.elemN (s := 3) (x := x22) rfl g24.2.2 (Get.here _)).off (by omega))) ?_
  refine Lst.alloc (cs := enc Event.zero) rfl rfl (by decide) Try.zeroValue75 rfl (fun b25 => ?_)
  refine Lst.run rfl rfl (by decide) (Ev.assign rfl) ?_
  refine Lst.store (i := 0) rfl rfl rfl rfl rfl Try.sizeOf75 (vs := enc x22) rfl (Enc.len _) (Enc.one _) (cs' := enc x22) (Put.here ((Enc.len _).trans (Enc.len _).symm)) (L' := (.blk b25 (enc x22) 75) :: (.rows (α := Vector Int 6) 23 rs16.toList) :: (.own s11 23 6 (encs r9.1)) :: (.blk b7 (enc rs16) 90) :: (.blk b3 (enc (Vector.replicate 6 ⟨[], Sl.nil⟩ : Vector (LR (Vector Int 6)) 6)) 90) :: (.rows (α := Vector Int 6) 23 ((Vector.replicate 6 ⟨[], Sl.nil⟩ : Vector (LR (Vector Int 6)) 6).toList)) :: L) rfl ?_
  refine Lst.nil ?_
  refine At.then ?_
  obtain ⟨x27, h28, H⟩ := bind_some H
  obtain ⟨x31, h32, H⟩ := bind_some H
  obtain ⟨u37, h38, H⟩ := bind_some H
  obtain ⟨o43, h44, H⟩ := Let_some H
  refine Cd.headMeet (σ := Sl × (List (Vector Int 6))) 12 (fun (s41, l42) => [(2, .pointer (some ⟨b3, 0, none⟩)), (3, .pointer (some ⟨b7, 0, none⟩)), (4, Sl.v s11), (13, Sl.v s_a0), (14, .int .i64 (a0.length : Int)), (15, .int .i64 (i15 : Int)), (21, .int .i64 x22.Proc), (31, Sl.v s41)]) (fun (s41, l42) => (.own s41 23 6 (encs l42)) :: (.rows (α := Vector Int 6) 23 (rs16.toList.set x22.Proc.toNat ⟨[], Sl.nil⟩)) :: (.blk b25 (enc x22) 75) :: (.own s11 23 6 (encs r9.1)) :: (.blk b7 (enc rs16) 90) :: (.blk b3 (enc (Vector.replicate 6 ⟨[], Sl.nil⟩ : Vector (LR (Vector Int 6)) 6)) 90) :: (.rows (α := Vector Int 6) 23 ((Vector.replicate 6 ⟨[], Sl.nil⟩ : Vector (LR (Vector Int 6)) 6).toList)) :: L) (fun _ (s41, l42) => l42 = o43) (by kernel_rfl) (by kernel_rfl) (behind_sink (by kernel_rfl) (by kernel_rfl) (by kernel_rfl)) (by kernel_rfl) (fun hsel hlt => ?_) ?_
  · refine HdJ.keep (fun w => St w0 F20 ((.blk b25 (enc x22) 75) :: (.own s11 23 6 (encs r9.1)) :: (.blk b7 (enc rs16) 90) :: (.blk b3 (enc (Vector.replicate 6 ⟨[], Sl.nil⟩ : Vector (LR (Vector Int 6)) 6)) 90) :: (.rows (α := Vector Int 6) 23 ((Vector.replicate 6 ⟨[], Sl.nil⟩ : Vector (LR (Vector Int 6)) 6).toList)) :: L) w) (fun w h => trivial) ?_
    refine HdJ.takeK hsel hlt 0 (fun w h => h.sublist (List.Sublist.cons_cons _ (List.Sublist.cons _ (List.Sublist.cons_cons _ (List.Sublist.cons_cons _ (List.Sublist.cons_cons _ (List.Sublist.cons_cons _ (List.Sublist.refl _)))))))) rfl rfl (by decide) (by decide) (by kernel_rfl) (by kernel_rfl) rfl (Ev.fieldAddr (off' := 0) rfl Try.runUnderlying75 rfl Try.sizeOf3 rfl rfl) ?_
    refine HdJ.takeK hsel hlt 1 (fun w h => h.sublist (List.Sublist.cons_cons _ (List.Sublist.cons _ (List.Sublist.cons_cons _ (List.Sublist.cons_cons _ (List.Sublist.cons_cons _ (List.Sublist.cons_cons _ (List.Sublist.refl _)))))))) rfl rfl (by decide) (by decide) (by kernel_rfl) (by kernel_rfl) rfl (Ev.load (i := 0) rfl rfl Try.isAgg3 (v := .int .i64 x22.Proc) ((Event.get_Proc (Get.here _)).off (by rfl))) ?_
    refine HdJ.takeK hsel hlt 2 (fun w h => h.sublist (List.Sublist.cons_cons _ (List.Sublist.cons _ (List.Sublist.cons_cons _ (List.Sublist.cons_cons _ (List.Sublist.cons_cons _ (List.Sublist.cons_cons _ (List.Sublist.refl _)))))))) rfl rfl (by decide) (by decide) (by kernel_rfl) (by kernel_rfl) rfl (Ev.fieldAddr (off' := 0) rfl Try.runUnderlying75 rfl Try.sizeOf3 rfl rfl) ?_
    refine HdJ.takeK hsel hlt 3 (fun w h => h.sublist (List.Sublist.cons_cons _ (List.Sublist.cons _ (List.Sublist.cons_cons _ (List.Sublist.cons_cons _ (List.Sublist.cons_cons _ (List.Sublist.cons_cons _ (List.Sublist.refl _)))))))) rfl rfl (by decide) (by decide) (by kernel_rfl) (by kernel_rfl) rfl (Ev.load (i := 0) rfl rfl Try.isAgg3 (v := .int .i64 x22.Proc) ((Event.get_Proc (Get.here _)).off (by rfl))) ?_
    have g45 := vat_some h28
    obtain ⟨⟨r46v, r46h⟩, r46g, r46e, r46m, r46l⟩ := vmap_get fm18 g45.2.2
    obtain rfl : x27 = r46v := r46e.symm
    refine HdJ.takeK hsel hlt 4 (fun w h => h.sublist (List.Sublist.cons_cons _ (List.Sublist.cons _ (List.Sublist.cons_cons _ (List.Sublist.cons_cons _ (List.Sublist.cons_cons _ (List.Sublist.cons_cons _ (List.Sublist.refl _)))))))) rfl rfl (by decide) (by decide) (by kernel_rfl) (by kernel_rfl) rfl (Ev.indexAddr (off' := 0 + x22.Proc.toNat * 1) rfl rfl Try.runUnderlying90 Try.sizeOf28 g45.1 g45.2.1 rfl) ?_
    refine HdJ.takeK hsel hlt 5 (fun w h => h.sublist (List.Sublist.cons_cons _ (List.Sublist.cons _ (List.Sublist.cons_cons _ (List.Sublist.cons_cons _ (List.Sublist.cons_cons _ (List.Sublist.cons_cons _ (List.Sublist.refl _)))))))) rfl rfl (by decide) (by decide) (by kernel_rfl) (by kernel_rfl) rfl (Ev.load (i := 2) rfl rfl Try.isAgg28 (v := Sl.v r46h) ((Get.vecN (s := 1) rfl r46g (Get.here _)).off (by omega))) ?_
    refine HdJ.takeK hsel hlt 6 (fun w h => h.sublist (List.Sublist.cons_cons _ (List.Sublist.cons _ (List.Sublist.cons_cons _ (List.Sublist.cons_cons _ (List.Sublist.cons_cons _ (List.Sublist.cons_cons _ (List.Sublist.refl _)))))))) rfl rfl (by decide) (by decide) (by kernel_rfl) (by kernel_rfl) rfl (Ev.move rfl) ?_
    refine HdJ.takeK hsel hlt 7 (fun w h => h.sublist (List.Sublist.cons_cons _ (List.Sublist.cons _ (List.Sublist.cons_cons _ (List.Sublist.cons_cons _ (List.Sublist.cons_cons _ (List.Sublist.cons_cons _ (List.Sublist.refl _)))))))) rfl rfl (by decide) (by decide) (by kernel_rfl) (by kernel_rfl) rfl (Ev.move rfl) ?_
    have g47 := lat_some h32
    refine HdJ.takeK hsel hlt 8 (fun w h => h.sublist (List.Sublist.cons_cons _ (List.Sublist.cons _ (List.Sublist.cons_cons _ (List.Sublist.cons_cons _ (List.Sublist.cons_cons _ (List.Sublist.cons_cons _ (List.Sublist.refl _)))))))) rfl rfl (by decide) (by decide) (by kernel_rfl) (by kernel_rfl) rfl (Ev.indexS (α := Vector Int 6) (xs := r9.1) rfl rfl Try.runUnderlying28 Try.sizeOf23 rfl (by decide) (Rd.own (i := 1) rfl rfl rfl) g47.1 g47.2.1) ?_
    refine HdJ.takeK hsel hlt 9 (fun w h => h.sublist (List.Sublist.cons_cons _ (List.Sublist.cons _ (List.Sublist.cons_cons _ (List.Sublist.cons_cons _ (List.Sublist.cons_cons _ (List.Sublist.cons_cons _ (List.Sublist.refl _)))))))) rfl rfl (by decide) (by decide) (by kernel_rfl) (by kernel_rfl) rfl (Ev.loadSA (α := Vector Int 6) rfl (Rd.own (i := 1) rfl rfl rfl) Try.isAgg23 Try.sizeOf23 (ch := enc x31) (Enc.len _) (by decide) ((Get.elemN (s := 6) (x := x31) rfl g47.2.2 (Get.here _)).off (by omega))) ?_
    refine HdJ.step [10] (by kernel_rfl) rfl ?_
    refine HdStep.cons (by decide) rfl (fun inv => ?_) ?_
    · refine Lst.buildSlice (α := Vector Int 6) (xs := ([x31] : List (Vector Int 6))) (pv := [(0, .agg (enc x31).toArray)]) rfl rfl (by decide) ⟨rfl, rfl, trivial⟩ (run_buildSlice (α := Vector Int 6) (z0 := (Vector.replicate 6 (0 : Int))) (xs := ([x31] : List (Vector Int 6))) Try.runUnderlying28 Try.sizeOf23 Try.zeroValue23 rfl rfl rfl (by decide) rfl (fill_cons (cs := encs (List.replicate 1 (Vector.replicate 6 (0 : Int)))) (cs' := encs ((List.replicate 1 (Vector.replicate 6 (0 : Int))).set 0 x31)) (vs := enc x31) rfl rfl (Enc.len _) ((Put.elemN (s := 6) (i := 0) (x := (Vector.replicate 6 (0 : Int))) (y := x31) rfl rfl (Put.here ((Enc.len _).trans (Enc.len _).symm))).off rfl) fill_nil)) rfl rfl (by decide) (fun s48 _ => ?_)
      refine Lst.nil ?_
      refine At.hd inv (fun w h => (h.weaken (FLe.refl _)).sublist (List.Sublist.cons _ (List.Sublist.cons_cons _ (List.Sublist.cons _ (List.Sublist.cons_cons _ (List.Sublist.cons_cons _ (List.Sublist.cons_cons _ (List.Sublist.cons_cons _ (List.Sublist.refl _))))))))) ?_
      refine HdJ.step [11] (by kernel_rfl) rfl ?_
      refine HdStep.cons (by decide) rfl (fun inv => ?_) ?_
      · refine Lst.front (i := 2) rfl (L' := (.rows (α := Vector Int 6) 23 rs16.toList) :: (.own s48 23 6 (encs ([x31] : List (Vector Int 6)))) :: (.blk b25 (enc x22) 75) :: (.own s11 23 6 (encs r9.1)) :: (.blk b7 (enc rs16) 90) :: (.blk b3 (enc (Vector.replicate 6 ⟨[], Sl.nil⟩ : Vector (LR (Vector Int 6)) 6)) 90) :: (.rows (α := Vector Int 6) 23 ((Vector.replicate 6 ⟨[], Sl.nil⟩ : Vector (LR (Vector Int 6)) 6).toList)) :: L) rfl ?_
        refine Lst.rowOut (k := x22.Proc.toNat) r46l rfl ?_
        refine Lst.its (L' := (.own r46h 23 6 (encs x27)) :: (.rows (α := Vector Int 6) 23 (rs16.toList.set x22.Proc.toNat ⟨[], Sl.nil⟩)) :: (.own s48 23 6 (encs ([x31] : List (Vector Int 6)))) :: (.blk b25 (enc x22) 75) :: (.own s11 23 6 (encs r9.1)) :: (.blk b7 (enc rs16) 90) :: (.blk b3 (enc (Vector.replicate 6 ⟨[], Sl.nil⟩ : Vector (LR (Vector Int 6)) 6)) 90) :: (.rows (α := Vector Int 6) 23 ((Vector.replicate 6 ⟨[], Sl.nil⟩ : Vector (LR (Vector Int 6)) 6).toList)) :: L) rfl ?_
        refine Lst.append (i := 0) (α := Vector Int 6) (xs := x27) (ys := ([x31] : List (Vector Int 6))) rfl rfl (by decide) rfl rfl Try.runUnderlying28 Try.typeInfo23 rfl rfl rfl rfl rfl rfl (Rd.own (i := 2) rfl rfl rfl) rfl (room_some h38) rfl (fun s49 => ?_)
        refine Lst.its (L' := (.own s49 23 6 (encs (x27 ++ ([x31] : List (Vector Int 6))))) :: (.rows (α := Vector Int 6) 23 (rs16.toList.set x22.Proc.toNat ⟨[], Sl.nil⟩)) :: (.own s48 23 6 (encs ([x31] : List (Vector Int 6)))) :: (.blk b25 (enc x22) 75) :: (.own s11 23 6 (encs r9.1)) :: (.blk b7 (enc rs16) 90) :: (.blk b3 (enc (Vector.replicate 6 ⟨[], Sl.nil⟩ : Vector (LR (Vector Int 6)) 6)) 90) :: (.rows (α := Vector Int 6) 23 ((Vector.replicate 6 ⟨[], Sl.nil⟩ : Vector (LR (Vector Int 6)) 6).toList)) :: L) rfl ?_
        refine Lst.nil ?_
        refine At.hd inv (fun w h => (h.weaken (FLe.refl _)).sublist (List.Sublist.cons _ (List.Sublist.cons _ (List.Sublist.cons _ (List.Sublist.cons_cons _ (List.Sublist.cons_cons _ (List.Sublist.cons_cons _ (List.Sublist.cons_cons _ (List.Sublist.cons_cons _ (List.Sublist.refl _)))))))))) ?_
        refine HdJ.done (by kernel_rfl) ?_
        refine At.less (L' := (.own s49 23 6 (encs (x27 ++ ([x31] : List (Vector Int 6))))) :: (.rows (α := Vector Int 6) 23 (rs16.toList.set x22.Proc.toNat ⟨[], Sl.nil⟩)) :: (.blk b25 (enc x22) 75) :: (.own s11 23 6 (encs r9.1)) :: (.blk b7 (enc rs16) 90) :: (.blk b3 (enc (Vector.replicate 6 ⟨[], Sl.nil⟩ : Vector (LR (Vector Int 6)) 6)) 90) :: (.rows (α := Vector Int 6) 23 ((Vector.replicate 6 ⟨[], Sl.nil⟩ : Vector (LR (Vector Int 6)) 6).toList)) :: L) (List.Sublist.cons_cons _ (List.Sublist.cons_cons _ (List.Sublist.cons _ (List.Sublist.cons_cons _ (List.Sublist.cons_cons _ (List.Sublist.cons_cons _ (List.Sublist.cons_cons _ (List.Sublist.cons_cons _ (List.Sublist.refl _))))))))) ?_
        exact At.meetN (s49, x27 ++ ([x31] : List (Vector Int 6))) (FLe.refl _) ⟨rfl, rfl, rfl, rfl, rfl, rfl, rfl, rfl, trivial⟩ rfl h44
      exact trivial
    exact trivial
  rintro F50 ⟨s41, l42⟩ hF51 hy
  subst hy
  refine Lst.as (e' := [(2, .pointer (some ⟨b3, 0, none⟩)), (3, .pointer (some ⟨b7, 0, none⟩)), (4, Sl.v s11), (13, Sl.v s_a0), (14, .int .i64 (a0.length : Int)), (15, .int .i64 (i15 : Int)), (21, .int .i64 x22.Proc), (31, Sl.v s41)]) (L' := (.own s41 23 6 (encs l42)) :: (.rows (α := Vector Int 6) 23 (rs16.toList.set x22.Proc.toNat ⟨[], Sl.nil⟩)) :: (.blk b25 (enc x22) 75) :: (.own s11 23 6 (encs r9.1)) :: (.blk b7 (enc rs16) 90) :: (.blk b3 (enc (Vector.replicate 6 ⟨[], Sl.nil⟩ : Vector (LR (Vector Int 6)) 6)) 90) :: (.rows (α := Vector Int 6) 23 ((Vector.replicate 6 ⟨[], Sl.nil⟩ : Vector (LR (Vector Int 6)) 6).toList)) :: L) ⟨rfl, rfl, rfl, rfl, rfl, rfl, rfl, rfl, trivial⟩ rfl ?_
  obtain ⟨x52, h53, H⟩ := bind_some H
  have g54 := vat_some h53
  obtain ⟨⟨r55v, r55h⟩, r55g, r55e, r55m, r55l⟩ := vmap_get fm18 g54.2.2
  obtain rfl : x52 = r55v := r55e.symm
  refine Lst.run rfl rfl (by decide) (Ev.indexAddr (off' := 0 + x22.Proc.toNat * 1) rfl rfl Try.runUnderlying90 Try.sizeOf28 g54.1 g54.2.1 rfl) ?_
  obtain ⟨p56, h57, H⟩ := Let_some H
  have hm58 : (rs16.setIfInBounds x22.Proc.toNat (LR.mk l42 s41)).toList.map LR.v = p56.toList := (vmap_set fm18 _ _).trans (congrArg Vector.toList h57)
  refine Lst.store (i := 4) rfl rfl rfl rfl rfl Try.sizeOf28 (vs := [Sl.v s41]) rfl rfl rfl (cs' := enc (rs16.setIfInBounds x22.Proc.toNat (LR.mk l42 s41))) ((Put.vecN (s := 1) (y := (LR.mk l42 s41)) rfl r55g (Put.here (vs := [Sl.v s41]) rfl)).off (by omega)) (L' := (.own s41 23 6 (encs l42)) :: (.rows (α := Vector Int 6) 23 (rs16.toList.set x22.Proc.toNat ⟨[], Sl.nil⟩)) :: (.blk b25 (enc x22) 75) :: (.own s11 23 6 (encs r9.1)) :: (.blk b7 (enc (rs16.setIfInBounds x22.Proc.toNat (LR.mk l42 s41))) 90) :: (.blk b3 (enc (Vector.replicate 6 ⟨[], Sl.nil⟩ : Vector (LR (Vector Int 6)) 6)) 90) :: (.rows (α := Vector Int 6) 23 ((Vector.replicate 6 ⟨[], Sl.nil⟩ : Vector (LR (Vector Int 6)) 6).toList)) :: L) rfl ?_
  refine Lst.rowIn (k := x22.Proc.toNat) (by rw [List.getElem?_set_self (List.getElem?_eq_some_iff.1 r55l).1]) rfl ?_
  refine Lst.its (L' := (.rows (α := Vector Int 6) 23 ((rs16.setIfInBounds x22.Proc.toNat (LR.mk l42 s41)).toList)) :: (.blk b25 (enc x22) 75) :: (.own s11 23 6 (encs r9.1)) :: (.blk b7 (enc (rs16.setIfInBounds x22.Proc.toNat (LR.mk l42 s41))) 90) :: (.blk b3 (enc (Vector.replicate 6 ⟨[], Sl.nil⟩ : Vector (LR (Vector Int 6)) 6)) 90) :: (.rows (α := Vector Int 6) 23 ((Vector.replicate 6 ⟨[], Sl.nil⟩ : Vector (LR (Vector Int 6)) 6).toList)) :: L) (by rw [List.set_set, Vector.toList_setIfInBounds]) ?_
  refine Lst.nil ?_
  refine At.in_normal ?_
  refine At.then ?_
  refine Cd.region ?_
  refine Lst.run rfl rfl (by decide) (Ev.incr (by omega) rfl rfl) ?_
  refine Lst.run rfl rfl (by decide) (Ev.move rfl) ?_
  refine Lst.nil ?_
  refine At.less (L' := (.rows (α := Vector Int 6) 23 ((rs16.setIfInBounds x22.Proc.toNat (LR.mk l42 s41)).toList)) :: (.own s11 23 6 (encs r9.1)) :: (.blk b7 (enc (rs16.setIfInBounds x22.Proc.toNat (LR.mk l42 s41))) 90) :: (.blk b3 (enc (Vector.replicate 6 ⟨[], Sl.nil⟩ : Vector (LR (Vector Int 6)) 6)) 90) :: (.rows (α := Vector Int 6) 23 ((Vector.replicate 6 ⟨[], Sl.nil⟩ : Vector (LR (Vector Int 6)) 6).toList)) :: L) (List.Sublist.cons_cons _ (List.Sublist.cons _ (List.Sublist.cons_cons _ (List.Sublist.cons_cons _ (List.Sublist.cons_cons _ (List.Sublist.cons_cons _ (List.Sublist.refl _))))))) ?_
  exact At.meet (i15 + 1, k15, (rs16.setIfInBounds x22.Proc.toNat (LR.mk l42 s41)), p56) (FLe.trans hF21 hF51) ⟨rfl, rfl, rfl, rfl, rfl, rfl, trivial⟩ rfl ⟨⟨hgo15 _ (some_inj H).symm, by omega, hm58⟩, Nat.lt_succ_self _⟩
set_option maxRecDepth 20000 in
theorem cut_grown_sim {a0 : Vector (List (Vector Int 6)) 6} {a1 : Vector Int 6} {rs_a0 : Vector (LR (Vector Int 6)) 6} {r : (Vector Int 6)} (H : cut_grown a0 a1 = some r) (w0 : World) (F : Frz) (M L : List Item) (hM : M.Sublist L) (hm_a0 : rs_a0.toList.map LR.v = a0.toList) (ha_a0 : All LR.rel w0 F M rs_a0.toList) : Ok Try.prog w0 55 [.agg (enc rs_a0).toArray, .agg (enc a1).toArray] F (L) (Is (.agg (enc r).toArray) (L)) := by
  unfold cut_grown at H
  refine Ok.enter (m := 2) (n := 27) Try.func55 rfl rfl rfl (by decide) ?_
  refine Cd.env (e' := [(0, .agg (enc rs_a0).toArray), (1, .agg (enc a1).toArray)]) rfl ?_
  refine Cd.seq ?_
  refine Cd.region ?_
  refine Lst.box rfl rfl (by decide) rfl (cs := enc rs_a0) rfl (fun b1 => ?_)
  refine Lst.box rfl rfl (by decide) rfl (cs := enc a1) rfl (fun b3 => ?_)
  refine Lst.alloc (cs := enc (Vector.replicate 6 (0 : Int))) rfl rfl (by decide) Try.zeroValue23 rfl (fun b5 => ?_)
  refine Lst.nil ?_
  refine At.then ?_
  refine Cd.seq ?_
  refine Cd.region ?_
  refine Lst.run rfl rfl (by decide) (Ev.loadA (i := 1) rfl rfl Try.isAgg23 Try.sizeOf23 (ch := enc a1) (Enc.len _) (Get.here _)) ?_
  refine Lst.alloc (cs := enc (Vector.replicate 6 (0 : Int))) rfl rfl (by decide) Try.zeroValue23 rfl (fun b7 => ?_)
  refine Lst.store (i := 0) rfl rfl rfl rfl rfl Try.sizeOf23 (vs := enc a1) rfl (Enc.len _) (Enc.one _) (cs' := enc a1) (Put.here ((Enc.len _).trans (Enc.len _).symm)) (L' := (.blk b7 (enc a1) 23) :: (.blk b5 (enc (Vector.replicate 6 (0 : Int))) 23) :: (.blk b3 (enc a1) 23) :: (.blk b1 (enc rs_a0) 90) :: L) rfl ?_
  refine Lst.nil ?_
  refine At.then ?_
  refine Cd.seq ?_
  refine Cd.seq ?_
  refine Cd.region ?_
  refine Lst.run rfl rfl (by decide) (Ev.loadA (i := 2) rfl rfl Try.isAgg23 Try.sizeOf23 (ch := enc a1) (Enc.len _) (Get.here _)) ?_
  refine Lst.run rfl rfl (by decide) (Ev.move rfl) ?_
  refine Lst.nil ?_
  refine At.then ?_
  refine Cd.block ?_
  obtain ⟨ol9, H, HKl9⟩ := bind_some H
  refine Cd.loop (σ := Nat × Nat × (Vector Int 6)) (fun (i9, k9, y10) => [(2, .pointer (some ⟨b1, 0, none⟩)), (4, .pointer (some ⟨b5, 0, none⟩)), (5, .pointer (some ⟨b7, 0, none⟩)), (9, .agg (enc a1).toArray), (10, .int .i64 (i9 : Int))]) (fun (i9, k9, y10) => (.blk b7 (enc y10) 23) :: (.blk b5 (enc (Vector.replicate 6 (0 : Int))) 23) :: (.blk b3 (enc a1) 23) :: (.blk b1 (enc rs_a0) 90) :: L) (fun _ => (fun (i9, k9, y10) => rangeF (cut_grown_B0 a0 a1) k9 i9 y10 = some ol9 ∧ i9 + k9 = 6)) (fun (i9, k9, y10) => k9) (0, 6, a1) ⟨rfl, rfl, rfl, rfl, rfl, trivial⟩ rfl ⟨H, by omega⟩ ?_
  rintro F11 ⟨i9, k9, y10⟩ hF12 ⟨H, hik9⟩
  refine Cd.as (e' := [(2, .pointer (some ⟨b1, 0, none⟩)), (4, .pointer (some ⟨b5, 0, none⟩)), (5, .pointer (some ⟨b7, 0, none⟩)), (9, .agg (enc a1).toArray), (10, .int .i64 (i9 : Int))]) (L' := (.blk b7 (enc y10) 23) :: (.blk b5 (enc (Vector.replicate 6 (0 : Int))) 23) :: (.blk b3 (enc a1) 23) :: (.blk b1 (enc rs_a0) 90) :: L) ⟨rfl, rfl, rfl, rfl, rfl, trivial⟩ rfl ?_
  rcases k9 with _ | k9
  · have hc9 : decide ((i9 : Int) < (6 : Int)) = false := decide_eq_false (by omega)
    replace H := rangeF_end H
    refine Cd.seq ?_
    refine Cd.region ?_
    refine Lst.run rfl rfl (by decide) (Ev.lss rfl rfl) ?_
    refine Lst.nil ?_
    refine At.then ?_
    refine Cd.seq ?_
    refine Cd.condF rfl hc9 ?_
    refine Cd.exit ?_
    refine At.then_exit ?_
    refine At.then_exit ?_
    refine At.in_exit ?_
    subst H
    replace H := HKl9
    refine At.then ?_
    refine Cd.seq ?_
    refine Cd.region ?_
    refine Lst.run rfl rfl (by decide) (Ev.loadA (i := 0) rfl rfl Try.isAgg23 Try.sizeOf23 (ch := enc y10) (Enc.len _) (Get.here _)) ?_
    refine Lst.store (i := 1) rfl rfl rfl rfl rfl Try.sizeOf23 (vs := enc y10) rfl (Enc.len _) (Enc.one _) (cs' := enc y10) (Put.here ((Enc.len _).trans (Enc.len _).symm)) (L' := (.blk b7 (enc y10) 23) :: (.blk b5 (enc y10) 23) :: (.blk b3 (enc a1) 23) :: (.blk b1 (enc rs_a0) 90) :: L) rfl ?_
    refine Lst.nil ?_
    refine At.then ?_
    obtain rfl := some_inj H
    refine Cd.ret ?_
    exact At.ret1 rfl (Res.cellA (i := 1) rfl rfl Try.isAgg23 Try.sizeOf23 (Enc.len _)) hF12 (List.Sublist.cons _ (List.Sublist.cons _ (List.Sublist.cons _ (List.Sublist.cons _ (List.Sublist.refl _))))) ⟨rfl, rfl⟩
  have hc9 : decide ((i9 : Int) < (6 : Int)) = true := decide_eq_true (by omega)
  obtain ⟨c9, H, hgo9⟩ := rangeF_go H
  unfold cut_grown_B0 at H
  try dsimp only at H
  refine Cd.seq ?_
  refine Cd.region ?_
  refine Lst.run rfl rfl (by decide) (Ev.lss rfl rfl) ?_
  refine Lst.nil ?_
  refine At.then ?_
  refine Cd.seq ?_
  refine Cd.condT rfl hc9 ?_
  refine Cd.skip ?_
  refine At.then ?_
  refine Cd.seq ?_
  refine Cd.block ?_
  refine Cd.seq ?_
  refine Cd.region ?_
  refine Lst.run rfl rfl (by decide) (Ev.move rfl) ?_
  obtain ⟨x13, h14, H⟩ := bind_some H
  have g15 := vat_some h14
  refine Lst.run rfl rfl (by decide) (Ev.index1 rfl rfl Try.runUnderlying23 Try.isAgg3 Try.sizeOf3 g15.1 g15.2.1 rfl ((Get.vecN (s := 1) rfl g15.2.2 (Get.here _)).off (by omega))) ?_
  refine Lst.run rfl rfl (by decide) (Ev.assign rfl) ?_
  refine Lst.run rfl rfl (by decide) (Ev.assign rfl) ?_
  refine Lst.nil ?_
  refine At.then ?_
  refine Cd.seq ?_
  refine Cd.region ?_
  refine Lst.run rfl rfl (by decide) (Ev.move rfl) ?_
  refine Lst.run rfl rfl (by decide) (Ev.gtr rfl rfl) ?_
  refine Lst.nil ?_
  refine At.then ?_
  rcases (Bool.eq_false_or_eq_true (decide (x13 > (0 : Int)))).symm with hb16 | hb16
  · replace H := ite_f hb16 H
    refine Cd.condF rfl hb16 ?_
    refine Cd.skip ?_
    refine At.in_normal ?_
    refine At.then ?_
    refine Cd.region ?_
    refine Lst.run rfl rfl (by decide) (Ev.incr (by omega) rfl rfl) ?_
    refine Lst.run rfl rfl (by decide) (Ev.move rfl) ?_
    refine Lst.nil ?_
    exact At.meet (i9 + 1, k9, y10) hF12 ⟨rfl, rfl, rfl, rfl, rfl, trivial⟩ rfl ⟨⟨hgo9 _ (some_inj H).symm, by omega⟩, Nat.lt_succ_self _⟩
  replace H := ite_t hb16 H
  refine Cd.condT rfl hb16 ?_
  refine Cd.tail 9 (by kernel_rfl) (by kernel_rfl) ?_
  refine Qt.run rfl rfl (by decide) (Ev.loadA (i := 0) rfl rfl Try.isAgg23 Try.sizeOf23 (ch := enc y10) (Enc.len _) (Get.here _)) ?_
  refine Qt.run rfl rfl (by decide) (Ev.move rfl) ?_
  obtain ⟨x17, h18, H⟩ := bind_some H
  have g19 := vat_some h18
  obtain ⟨⟨r20v, r20h⟩, r20g, r20e, r20m, r20l⟩ := vmap_get hm_a0 g19.2.2
  obtain rfl : x17 = r20v := r20e.symm
  have r20q : Rd w0 _ _ r20h x17 := ha_a0 _ r20m
  refine Qt.run rfl rfl (by decide) (Ev.indexAddr (off' := 0 + (i9 : Int).toNat * 1) rfl rfl Try.runUnderlying90 Try.sizeOf28 g19.1 g19.2.1 rfl) ?_
  refine Qt.run rfl rfl (by decide) (Ev.load (i := 3) rfl rfl Try.isAgg28 (v := Sl.v r20h) ((Get.vecN (s := 1) rfl r20g (Get.here _)).off (by omega))) ?_
  refine Qt.run rfl rfl (by decide) (Ev.move rfl) ?_
  refine Qt.run rfl rfl (by decide) (Ev.sub rfl rfl) ?_
  obtain ⟨x21, h22, H⟩ := bind_some H
  have g23 := lat_some h22
  refine Qt.run rfl rfl (by decide) (Ev.indexS (α := Vector Int 6) (xs := x17) rfl rfl Try.runUnderlying28 Try.sizeOf23 rfl (by decide) (r20q.mono hF12 (List.Sublist.cons _ (List.Sublist.cons _ (List.Sublist.cons _ (List.Sublist.cons _ hM))))) g23.1 g23.2.1) ?_
  refine Qt.run rfl rfl (by decide) (Ev.loadSA (α := Vector Int 6) rfl (r20q.mono hF12 (List.Sublist.cons _ (List.Sublist.cons _ (List.Sublist.cons _ (List.Sublist.cons _ hM))))) Try.isAgg23 Try.sizeOf23 (ch := enc x21) (Enc.len _) (by decide) ((Get.elemN (s := 6) (x := x21) rfl g23.2.2 (Get.here _)).off (by omega))) ?_
  obtain ⟨r24, h25, H⟩ := bind_some H
  refine Qt.call rfl rfl (by decide) (vs := [.agg (enc y10).toArray, .agg (enc x21).toArray]) ⟨rfl, rfl, trivial⟩ Try.call10 (vect_Max_sim h25 w0 _ M _ (List.Sublist.cons _ (List.Sublist.cons _ (List.Sublist.cons _ (List.Sublist.cons _ hM))))) ?_
  refine Qt.tail ?_
  refine Lst.store (i := 0) rfl rfl rfl rfl rfl Try.sizeOf23 (vs := enc r24) rfl (Enc.len _) (Enc.one _) (cs' := enc r24) (Put.here ((Enc.len _).trans (Enc.len _).symm)) (L' := (.blk b7 (enc r24) 23) :: (.blk b5 (enc (Vector.replicate 6 (0 : Int))) 23) :: (.blk b3 (enc a1) 23) :: (.blk b1 (enc rs_a0) 90) :: L) rfl ?_
  refine Lst.nil ?_
  refine At.in_normal ?_
  refine At.then ?_
  refine Cd.as (e' := [(2, .pointer (some ⟨b1, 0, none⟩)), (4, .pointer (some ⟨b5, 0, none⟩)), (5, .pointer (some ⟨b7, 0, none⟩)), (9, .agg (enc a1).toArray), (10, .int .i64 (i9 : Int))]) (L' := (.blk b7 (enc r24) 23) :: (.blk b5 (enc (Vector.replicate 6 (0 : Int))) 23) :: (.blk b3 (enc a1) 23) :: (.blk b1 (enc rs_a0) 90) :: L) ⟨rfl, rfl, rfl, rfl, rfl, trivial⟩ rfl ?_
  refine Cd.region ?_
  refine Lst.run rfl rfl (by decide) (Ev.incr (by omega) rfl rfl) ?_
  refine Lst.run rfl rfl (by decide) (Ev.move rfl) ?_
  refine Lst.nil ?_
  exact At.meet (i9 + 1, k9, r24) hF12 ⟨rfl, rfl, rfl, rfl, rfl, trivial⟩ rfl ⟨⟨hgo9 _ (some_inj H).symm, by omega⟩, Nat.lt_succ_self _⟩
set_option maxRecDepth 20000 in
theorem cut_All_sim {fu : Nat} {a0 : List Event} {s_a0 : Sl} {r : (List (Vector Int 6)) × Int} (H : cut_All fu a0 = some r) (w0 : World) (F : Frz) (M L : List Item) (hM : M.Sublist L) (hs_a0 : Rd w0 F M s_a0 a0) : Ok Try.prog w0 35 [Sl.v s_a0] F (L) (fun _ L' v => ∃ (s1 : Sl), v = .tuple #[Sl.v s1, .int .i64 r.2] ∧ L' = (.own s1 23 6 (encs r.1)) :: L) := by
  unfold cut_All at H
  refine Ok.enter (m := 1) (n := 65) Try.func35 rfl rfl rfl (by decide) ?_
  refine Cd.env (e' := [(0, Sl.v s_a0)]) rfl ?_
  refine Cd.seq ?_
  refine Cd.region ?_
  refine Lst.addNil 23 6 ?_
  refine Lst.run rfl rfl (by decide) (Ev.assign rfl) ?_
  refine Lst.run rfl rfl (by decide) (Ev.assign rfl) ?_
  refine Lst.nil ?_
  refine At.then ?_
  refine Cd.seq ?_
  refine Cd.seq ?_
  refine Cd.region ?_
  refine Lst.run rfl rfl (by decide) (Ev.move rfl) ?_
  obtain ⟨r2, h3, H⟩ := bind_some H
  refine Lst.call1 rfl rfl (by decide) (vs := [Sl.v s_a0]) ⟨rfl, trivial⟩ Try.call22 (stamp_Check_sim h3 w0 _ M _ (List.Sublist.cons _ hM) (hs_a0.mono (FLe.refl _) (List.Sublist.refl _))) ?_
  refine Lst.run rfl rfl (by decide) (Ev.assign rfl) ?_
  refine Lst.nil ?_
  refine At.then ?_
  refine Cd.seq ?_
  refine Cd.region ?_
  refine Lst.run rfl rfl (by decide) (Ev.move rfl) ?_
  refine Lst.run rfl rfl (by decide) (Ev.neq rfl rfl) ?_
  refine Lst.nil ?_
  refine At.then ?_
  rcases Bool.eq_false_or_eq_true (r2 != (0 : Int)) with hb6 | hb6
  · replace H := ite_t hb6 H
    refine Cd.condT rfl hb6 ?_
    refine Cd.seq ?_
    refine Cd.region ?_
    refine Lst.run rfl rfl (by decide) (Ev.move rfl) ?_
    refine Lst.addNil 23 6 ?_
    refine Lst.run rfl rfl (by decide) (Ev.assign rfl) ?_
    refine Lst.run rfl rfl (by decide) (Ev.assign rfl) ?_
    refine Lst.nil ?_
    refine At.then ?_
    obtain rfl := some_inj H
    refine Cd.ret ?_
    refine At.then_ret ?_
    exact At.ret2 rfl (Res.tmp rfl) (Res.tmp rfl) (FLe.refl _) (List.Sublist.cons_cons _ (List.Sublist.cons _ (List.Sublist.refl _))) ⟨Sl.nil, rfl, rfl⟩
  replace H := ite_f hb6 H
  refine Cd.condF rfl hb6 ?_
  refine Cd.skip ?_
  refine At.then ?_
  refine Cd.seq ?_
  refine Cd.region ?_
  refine Lst.run rfl rfl (by decide) (Ev.move rfl) ?_
  obtain ⟨r8, h9, H⟩ := bind_some H
  refine Lst.call1 rfl rfl (by decide) (vs := [Sl.v s_a0]) ⟨rfl, trivial⟩ Try.call57 (cut_counts_sim h9 w0 _ M _ (List.Sublist.cons _ hM) (hs_a0.mono (FLe.refl _) (List.Sublist.refl _))) ?_
  refine Lst.alloc (cs := enc (Vector.replicate 6 (0 : Int))) rfl rfl (by decide) Try.zeroValue23 rfl (fun b12 => ?_)
  refine Lst.store (i := 0) rfl rfl rfl rfl rfl Try.sizeOf23 (vs := enc r8) rfl (Enc.len _) (Enc.one _) (cs' := enc r8) (Put.here ((Enc.len _).trans (Enc.len _).symm)) (L' := (.blk b12 (enc r8) 23) :: (.own Sl.nil 23 6 (encs ([] : List (Vector Int 6)))) :: L) rfl ?_
  refine Lst.nil ?_
  refine At.then ?_
  refine Cd.seq ?_
  refine Cd.region ?_
  refine Lst.run rfl rfl (by decide) (Ev.assign rfl) ?_
  refine Lst.nil ?_
  refine At.then ?_
  refine Cd.seq ?_
  refine Cd.seq ?_
  refine Cd.region ?_
  refine Lst.run rfl rfl (by decide) (Ev.loadA (i := 0) rfl rfl Try.isAgg23 Try.sizeOf23 (ch := enc r8) (Enc.len _) (Get.here _)) ?_
  refine Lst.run rfl rfl (by decide) (Ev.move rfl) ?_
  refine Lst.nil ?_
  refine At.then ?_
  refine Cd.block ?_
  obtain ⟨ol14, H, HKl14⟩ := bind_some H
  refine Cd.loop (σ := Nat × Nat × Int) (fun (i14, k14, y15) => [(0, Sl.v s_a0), (5, .pointer (some ⟨b12, 0, none⟩)), (6, .int .i64 y15), (20, .agg (enc r8).toArray), (21, .int .i64 (i14 : Int))]) (fun (i14, k14, y15) => (.blk b12 (enc r8) 23) :: (.own Sl.nil 23 6 (encs ([] : List (Vector Int 6)))) :: L) (fun _ => (fun (i14, k14, y15) => rangeF (cut_All_B0 r8) k14 i14 y15 = some ol14 ∧ i14 + k14 = 6)) (fun (i14, k14, y15) => k14) (0, 6, (1 : Int)) ⟨rfl, rfl, rfl, rfl, rfl, trivial⟩ rfl ⟨H, by omega⟩ ?_
  rintro F16 ⟨i14, k14, y15⟩ hF17 ⟨H, hik14⟩
  refine Cd.as (e' := [(0, Sl.v s_a0), (5, .pointer (some ⟨b12, 0, none⟩)), (6, .int .i64 y15), (20, .agg (enc r8).toArray), (21, .int .i64 (i14 : Int))]) (L' := (.blk b12 (enc r8) 23) :: (.own Sl.nil 23 6 (encs ([] : List (Vector Int 6)))) :: L) ⟨rfl, rfl, rfl, rfl, rfl, trivial⟩ rfl ?_
  rcases k14 with _ | k14
  · have hc14 : decide ((i14 : Int) < (6 : Int)) = false := decide_eq_false (by omega)
    replace H := rangeF_end H
    refine Cd.seq ?_
    refine Cd.region ?_
    refine Lst.run rfl rfl (by decide) (Ev.lss rfl rfl) ?_
    refine Lst.nil ?_
    refine At.then ?_
    refine Cd.seq ?_
    refine Cd.condF rfl hc14 ?_
    refine Cd.exit ?_
    refine At.then_exit ?_
    refine At.then_exit ?_
    refine At.in_exit ?_
    subst H
    replace H := HKl14
    refine At.then ?_
    refine Cd.seq ?_
    refine Cd.seq ?_
    refine Cd.region ?_
    refine Lst.run rfl rfl (by decide) (Ev.move rfl) ?_
    refine Lst.run rfl rfl (by decide) (Ev.gtr rfl rfl) ?_
    refine Lst.nil ?_
    refine At.then ?_
    rcases Bool.eq_false_or_eq_true (decide (y15 > (4096 : Int))) with hb21 | hb21
    · replace H := ite_t hb21 H
      refine Cd.condT rfl hb21 ?_
      refine Cd.seq ?_
      refine Cd.region ?_
      refine Lst.addNil 23 6 ?_
      refine Lst.run rfl rfl (by decide) (Ev.assign rfl) ?_
      refine Lst.run rfl rfl (by decide) (Ev.assign rfl) ?_
      refine Lst.nil ?_
      refine At.then ?_
      obtain rfl := some_inj H
      refine Cd.ret ?_
      refine At.then_ret ?_
      exact At.ret2 rfl (Res.tmp rfl) (Res.tmp rfl) hF17 (List.Sublist.cons_cons _ (List.Sublist.cons _ (List.Sublist.cons _ (List.Sublist.refl _)))) ⟨Sl.nil, rfl, rfl⟩
    replace H := ite_f hb21 H
    refine Cd.condF rfl hb21 ?_
    refine Cd.skip ?_
    refine At.then ?_
    refine Cd.seq ?_
    refine Cd.region ?_
    refine Lst.run rfl rfl (by decide) (Ev.move rfl) ?_
    obtain ⟨r23, h24, H⟩ := bind_some H
    refine Lst.call rfl rfl (by decide) (vs := [Sl.v s_a0]) ⟨rfl, trivial⟩ Try.call56 (cut_vectors_sim h24 w0 _ M _ (List.Sublist.cons _ (List.Sublist.cons _ hM)) (hs_a0.mono hF17 (List.Sublist.refl _))) (fun F28 L' v hF29 hv => ?_)
    obtain ⟨rs25, rfl, rfl, fm26⟩ := hv
    have hm30 : (Vector.replicate 6 ⟨[], Sl.nil⟩ : Vector (LR (Vector Int 6)) 6).toList.map LR.v = (Vector.replicate 6 [] : Vector (List (Vector Int 6)) 6).toList := vmap_rep _ _
    refine Lst.rowsNilV (Vector Int 6) 23 6 ?_
    refine Lst.alloc (cs := enc (Vector.replicate 6 ⟨[], Sl.nil⟩ : Vector (LR (Vector Int 6)) 6)) rfl rfl (by decide) Try.zeroValue90 rfl (fun b32 => ?_)
    refine Lst.store (i := 0) rfl rfl rfl rfl rfl Try.sizeOf90 (vs := enc rs25) rfl (Enc.len _) (Enc.one _) (cs' := enc rs25) (Put.here ((Enc.len _).trans (Enc.len _).symm)) (L' := (.blk b32 (enc rs25) 90) :: (.rows (α := Vector Int 6) 23 ((Vector.replicate 6 ⟨[], Sl.nil⟩ : Vector (LR (Vector Int 6)) 6).toList)) :: (.rows (α := Vector Int 6) 23 rs25.toList) :: (.blk b12 (enc r8) 23) :: (.own Sl.nil 23 6 (encs ([] : List (Vector Int 6)))) :: L) rfl ?_
    refine Lst.nil ?_
    refine At.then ?_
    refine Cd.seq ?_
    refine Cd.region ?_
    refine Lst.addNil 23 6 ?_
    refine Lst.run rfl rfl (by decide) (Ev.assign rfl) ?_
    refine Lst.nil ?_
    refine At.then ?_
    refine Cd.seq ?_
    refine Cd.region ?_
    refine Lst.alloc (cs := enc (Vector.replicate 6 (0 : Int))) rfl rfl (by decide) Try.zeroValue23 rfl (fun b35 => ?_)
    refine Lst.nil ?_
    refine At.then ?_
    refine Cd.seq ?_
    refine Cd.seq ?_
    refine Cd.region ?_
    refine Lst.run rfl rfl (by decide) (Ev.move rfl) ?_
    refine Lst.run rfl rfl (by decide) (Ev.move rfl) ?_
    refine Lst.nil ?_
    refine At.then ?_
    refine Cd.block ?_
    obtain ⟨nn43, hN91, H⟩ := bind_some H
    replace hN91 := upTo_some hN91
    obtain ⟨ol37, H, HKl37⟩ := bind_some H
    refine Cd.loop (σ := Nat × Nat × (Vector Int 6) × Sl × (List (Vector Int 6))) (fun (i37, k37, y38, s39, l40) => [(5, .pointer (some ⟨b12, 0, none⟩)), (9, .pointer (some ⟨b32, 0, none⟩)), (10, Sl.v s39), (11, .pointer (some ⟨b35, 0, none⟩)), (33, .int .i64 y15), (34, .int .i64 (i37 : Int))]) (fun (i37, k37, y38, s39, l40) => (.blk b35 (enc y38) 23) :: (.own s39 23 6 (encs l40)) :: (.blk b32 (enc rs25) 90) :: (.rows (α := Vector Int 6) 23 ((Vector.replicate 6 ⟨[], Sl.nil⟩ : Vector (LR (Vector Int 6)) 6).toList)) :: (.rows (α := Vector Int 6) 23 rs25.toList) :: (.blk b12 (enc r8) 23) :: (.own Sl.nil 23 6 (encs ([] : List (Vector Int 6)))) :: L) (fun _ => (fun (i37, k37, y38, s39, l40) => rangeF (cut_All_B2 fu r8 r23) k37 i37 (y38, l40) = some ol37 ∧ i37 + k37 = nn43)) (fun (i37, k37, y38, s39, l40) => k37) (0, nn43, (Vector.replicate 6 (0 : Int)), Sl.nil, ([] : List (Vector Int 6))) ⟨rfl, rfl, rfl, rfl, rfl, rfl, trivial⟩ rfl ⟨H, by omega⟩ ?_
    rintro F41 ⟨i37, k37, y38, s39, l40⟩ hF42 ⟨H, hik37⟩
    refine Cd.as (e' := [(5, .pointer (some ⟨b12, 0, none⟩)), (9, .pointer (some ⟨b32, 0, none⟩)), (10, Sl.v s39), (11, .pointer (some ⟨b35, 0, none⟩)), (33, .int .i64 y15), (34, .int .i64 (i37 : Int))]) (L' := (.blk b35 (enc y38) 23) :: (.own s39 23 6 (encs l40)) :: (.blk b32 (enc rs25) 90) :: (.rows (α := Vector Int 6) 23 ((Vector.replicate 6 ⟨[], Sl.nil⟩ : Vector (LR (Vector Int 6)) 6).toList)) :: (.rows (α := Vector Int 6) 23 rs25.toList) :: (.blk b12 (enc r8) 23) :: (.own Sl.nil 23 6 (encs ([] : List (Vector Int 6)))) :: L) ⟨rfl, rfl, rfl, rfl, rfl, rfl, trivial⟩ rfl ?_
    rcases k37 with _ | k37
    · have hc37 : decide ((i37 : Int) < y15) = false := decide_eq_false (by omega)
      replace H := rangeF_end H
      refine Cd.seq ?_
      refine Cd.region ?_
      refine Lst.run rfl rfl (by decide) (Ev.lss rfl rfl) ?_
      refine Lst.nil ?_
      refine At.then ?_
      refine Cd.seq ?_
      refine Cd.condF rfl hc37 ?_
      refine Cd.exit ?_
      refine At.then_exit ?_
      refine At.then_exit ?_
      refine At.in_exit ?_
      subst H
      replace H := HKl37
      refine At.then ?_
      refine Cd.seq ?_
      refine Cd.region ?_
      refine Lst.run rfl rfl (by decide) (Ev.move rfl) ?_
      refine Lst.run rfl rfl (by decide) (Ev.assign rfl) ?_
      refine Lst.run rfl rfl (by decide) (Ev.assign rfl) ?_
      refine Lst.nil ?_
      refine At.then ?_
      obtain rfl := some_inj H
      refine Cd.ret ?_
      exact At.ret2 rfl (Res.tmp rfl) (Res.tmp rfl) (FLe.trans (FLe.trans hF17 hF29) hF42) (List.Sublist.cons _ (List.Sublist.cons_cons _ (List.Sublist.cons _ (List.Sublist.cons _ (List.Sublist.cons _ (List.Sublist.cons _ (List.Sublist.cons _ (List.Sublist.refl _)))))))) ⟨s39, rfl, rfl⟩
    have hc37 : decide ((i37 : Int) < y15) = true := decide_eq_true (by omega)
    obtain ⟨c37, H, hgo37⟩ := rangeF_go H
    unfold cut_All_B2 at H
    try dsimp only at H
    refine Cd.seq ?_
    refine Cd.region ?_
    refine Lst.run rfl rfl (by decide) (Ev.lss rfl rfl) ?_
    refine Lst.nil ?_
    refine At.then ?_
    refine Cd.seq ?_
    refine Cd.condT rfl hc37 ?_
    refine Cd.skip ?_
    refine At.then ?_
    obtain ⟨o47, H, HKo47⟩ := bind_some H
    refine Cd.join (σ := (Vector Int 6) × Sl × (List (Vector Int 6))) (fun (y44, s45, l46) => [(5, .pointer (some ⟨b12, 0, none⟩)), (9, .pointer (some ⟨b32, 0, none⟩)), (10, Sl.v s45), (11, .pointer (some ⟨b35, 0, none⟩)), (33, .int .i64 y15), (34, .int .i64 (i37 : Int))]) (fun (y44, s45, l46) => (.blk b35 (enc y44) 23) :: (.own s45 23 6 (encs l46)) :: (.blk b32 (enc rs25) 90) :: (.rows (α := Vector Int 6) 23 ((Vector.replicate 6 ⟨[], Sl.nil⟩ : Vector (LR (Vector Int 6)) 6).toList)) :: (.rows (α := Vector Int 6) 23 rs25.toList) :: (.blk b12 (enc r8) 23) :: (.own Sl.nil 23 6 (encs ([] : List (Vector Int 6)))) :: L) (fun _ (y44, s45, l46) => (y44, l46) = o47) ?_ ?_
    · refine Cd.block ?_
      obtain ⟨o50, H, HKo50⟩ := bind_some H
      refine Cd.join (σ := Sl × (List (Vector Int 6))) (fun (s48, l49) => [(5, .pointer (some ⟨b12, 0, none⟩)), (9, .pointer (some ⟨b32, 0, none⟩)), (10, Sl.v s48), (11, .pointer (some ⟨b35, 0, none⟩)), (33, .int .i64 y15), (34, .int .i64 (i37 : Int))]) (fun (s48, l49) => (.blk b35 (enc y38) 23) :: (.own s48 23 6 (encs l49)) :: (.blk b32 (enc rs25) 90) :: (.rows (α := Vector Int 6) 23 ((Vector.replicate 6 ⟨[], Sl.nil⟩ : Vector (LR (Vector Int 6)) 6).toList)) :: (.rows (α := Vector Int 6) 23 rs25.toList) :: (.blk b12 (enc r8) 23) :: (.own Sl.nil 23 6 (encs ([] : List (Vector Int 6)))) :: L) (fun _ (s48, l49) => l49 = o50) ?_ ?_
      · refine Cd.seq ?_
        refine Cd.quiet (by kernel_rfl) (by kernel_rfl) ?_
        refine Qt.run rfl rfl (by decide) (Ev.loadA (i := 2) rfl rfl Try.isAgg90 Try.sizeOf90 (ch := enc rs25) (Enc.len _) (Get.here _)) ?_
        refine Qt.run rfl rfl (by decide) (Ev.loadA (i := 0) rfl rfl Try.isAgg23 Try.sizeOf23 (ch := enc y38) (Enc.len _) (Get.here _)) ?_
        obtain ⟨r51, h52, H⟩ := bind_some H
        refine Qt.call rfl rfl (by decide) (vs := [.agg (enc rs25).toArray, .agg (enc y38).toArray]) ⟨rfl, rfl, trivial⟩ Try.call55 (cut_grown_sim h52 w0 _ _ _ (List.Sublist.refl _) fm26 (All.rowsHead (j := 4) rfl)) ?_
        refine Qt.run rfl rfl (by decide) (Ev.loadA (i := 0) rfl rfl Try.isAgg23 Try.sizeOf23 (ch := enc y38) (Enc.len _) (Get.here _)) ?_
        refine Qt.run rfl rfl (by decide) (Ev.eqlA rfl rfl (by kernel_rfl) (eq23 _ _)) ?_
        refine Qt.done ?_
        refine At.then ?_
        rcases (Bool.eq_false_or_eq_true (decide (r51 = y38))).symm with hb55 | hb55
        · replace H := ite_f hb55 H
          refine Cd.condF rfl hb55 ?_
          refine Cd.skip ?_
          exact At.meet (s39, l40) (FLe.refl _) ⟨rfl, rfl, rfl, rfl, rfl, rfl, trivial⟩ rfl (some_inj H)
        replace H := ite_t hb55 H
        refine Cd.condT rfl hb55 ?_
        refine Cd.region ?_
        refine Lst.run rfl rfl (by decide) (Ev.move rfl) ?_
        refine Lst.run rfl rfl (by decide) (Ev.loadA (i := 0) rfl rfl Try.isAgg23 Try.sizeOf23 (ch := enc y38) (Enc.len _) (Get.here _)) ?_
        refine Lst.buildSlice (α := Vector Int 6) (xs := ([y38] : List (Vector Int 6))) (pv := [(0, .agg (enc y38).toArray)]) rfl rfl (by decide) ⟨rfl, rfl, trivial⟩ (run_buildSlice (α := Vector Int 6) (z0 := (Vector.replicate 6 (0 : Int))) (xs := ([y38] : List (Vector Int 6))) Try.runUnderlying28 Try.sizeOf23 Try.zeroValue23 rfl rfl rfl (by decide) rfl (fill_cons (cs := encs (List.replicate 1 (Vector.replicate 6 (0 : Int)))) (cs' := encs ((List.replicate 1 (Vector.replicate 6 (0 : Int))).set 0 y38)) (vs := enc y38) rfl rfl (Enc.len _) ((Put.elemN (s := 6) (i := 0) (x := (Vector.replicate 6 (0 : Int))) (y := y38) rfl rfl (Put.here ((Enc.len _).trans (Enc.len _).symm))).off rfl) fill_nil)) rfl rfl (by decide) (fun s56 _ => ?_)
        obtain ⟨u58, h59, H⟩ := bind_some H
        refine Lst.append (i := 2) (α := Vector Int 6) (xs := l40) (ys := ([y38] : List (Vector Int 6))) rfl rfl (by decide) rfl rfl Try.runUnderlying28 Try.typeInfo23 rfl rfl rfl rfl rfl rfl (Rd.own (i := 0) rfl rfl rfl) rfl (room_some h59) rfl (fun s60 => ?_)
        refine Lst.its (L' := (.own s56 23 6 (encs ([y38] : List (Vector Int 6)))) :: (.blk b35 (enc y38) 23) :: (.own s60 23 6 (encs (l40 ++ ([y38] : List (Vector Int 6))))) :: (.blk b32 (enc rs25) 90) :: (.rows (α := Vector Int 6) 23 ((Vector.replicate 6 ⟨[], Sl.nil⟩ : Vector (LR (Vector Int 6)) 6).toList)) :: (.rows (α := Vector Int 6) 23 rs25.toList) :: (.blk b12 (enc r8) 23) :: (.own Sl.nil 23 6 (encs ([] : List (Vector Int 6)))) :: L) rfl ?_
        refine Lst.run rfl rfl (by decide) (Ev.assign rfl) ?_
        refine Lst.nil ?_
        refine At.less (L' := (.blk b35 (enc y38) 23) :: (.own s60 23 6 (encs (l40 ++ ([y38] : List (Vector Int 6))))) :: (.blk b32 (enc rs25) 90) :: (.rows (α := Vector Int 6) 23 ((Vector.replicate 6 ⟨[], Sl.nil⟩ : Vector (LR (Vector Int 6)) 6).toList)) :: (.rows (α := Vector Int 6) 23 rs25.toList) :: (.blk b12 (enc r8) 23) :: (.own Sl.nil 23 6 (encs ([] : List (Vector Int 6)))) :: L) (List.Sublist.cons _ (List.Sublist.cons_cons _ (List.Sublist.cons_cons _ (List.Sublist.cons_cons _ (List.Sublist.cons_cons _ (List.Sublist.cons_cons _ (List.Sublist.cons_cons _ (List.Sublist.cons_cons _ (List.Sublist.refl _))))))))) ?_
        exact At.meet (s60, l40 ++ ([y38] : List (Vector Int 6))) (FLe.refl _) ⟨rfl, rfl, rfl, rfl, rfl, rfl, trivial⟩ rfl (some_inj H)
      rintro F61 ⟨s48, l49⟩ hF62 hy
      subst hy
      refine Cd.as (e' := [(5, .pointer (some ⟨b12, 0, none⟩)), (9, .pointer (some ⟨b32, 0, none⟩)), (10, Sl.v s48), (11, .pointer (some ⟨b35, 0, none⟩)), (33, .int .i64 y15), (34, .int .i64 (i37 : Int))]) (L' := (.blk b35 (enc y38) 23) :: (.own s48 23 6 (encs l49)) :: (.blk b32 (enc rs25) 90) :: (.rows (α := Vector Int 6) 23 ((Vector.replicate 6 ⟨[], Sl.nil⟩ : Vector (LR (Vector Int 6)) 6).toList)) :: (.rows (α := Vector Int 6) 23 rs25.toList) :: (.blk b12 (enc r8) 23) :: (.own Sl.nil 23 6 (encs ([] : List (Vector Int 6)))) :: L) ⟨rfl, rfl, rfl, rfl, rfl, rfl, trivial⟩ rfl ?_
      replace H := HKo50
      refine Cd.seq ?_
      refine Cd.region ?_
      refine Lst.run rfl rfl (by decide) (Ev.assign rfl) ?_
      refine Lst.nil ?_
      refine At.then ?_
      refine Cd.block ?_
      obtain ⟨ol63, H, HKl63⟩ := andThen_some H
      refine Cd.loop (σ := Nat × Int × (Vector Int 6)) (fun (k63, y64, y65) => [(5, .pointer (some ⟨b12, 0, none⟩)), (9, .pointer (some ⟨b32, 0, none⟩)), (10, Sl.v s48), (11, .pointer (some ⟨b35, 0, none⟩)), (12, .int .i64 y64), (33, .int .i64 y15), (34, .int .i64 (i37 : Int))]) (fun (k63, y64, y65) => (.blk b35 (enc y65) 23) :: (.own s48 23 6 (encs l49)) :: (.blk b32 (enc rs25) 90) :: (.rows (α := Vector Int 6) 23 ((Vector.replicate 6 ⟨[], Sl.nil⟩ : Vector (LR (Vector Int 6)) 6).toList)) :: (.rows (α := Vector Int 6) 23 rs25.toList) :: (.blk b12 (enc r8) 23) :: (.own Sl.nil 23 6 (encs ([] : List (Vector Int 6)))) :: L) (fun _ => (fun (k63, y64, y65) => whileM (cut_All_B4 r8) k63 (y64, y65) = some ol63)) (fun (k63, y64, y65) => k63) (fu, (5 : Int), y38) ⟨rfl, rfl, rfl, rfl, rfl, rfl, rfl, trivial⟩ rfl H ?_
      rintro F66 ⟨k63, y64, y65⟩ hF67 H
      refine Cd.as (e' := [(5, .pointer (some ⟨b12, 0, none⟩)), (9, .pointer (some ⟨b32, 0, none⟩)), (10, Sl.v s48), (11, .pointer (some ⟨b35, 0, none⟩)), (12, .int .i64 y64), (33, .int .i64 y15), (34, .int .i64 (i37 : Int))]) (L' := (.blk b35 (enc y65) 23) :: (.own s48 23 6 (encs l49)) :: (.blk b32 (enc rs25) 90) :: (.rows (α := Vector Int 6) 23 ((Vector.replicate 6 ⟨[], Sl.nil⟩ : Vector (LR (Vector Int 6)) 6).toList)) :: (.rows (α := Vector Int 6) 23 rs25.toList) :: (.blk b12 (enc r8) 23) :: (.own Sl.nil 23 6 (encs ([] : List (Vector Int 6)))) :: L) ⟨rfl, rfl, rfl, rfl, rfl, rfl, rfl, trivial⟩ rfl ?_
      rcases k63 with _ | k63
      · cases H
      obtain ⟨c63, H, hgo63, hbrk63, hret63⟩ := whileM_go H
      unfold cut_All_B4 at H
      try dsimp only at H
      refine Cd.seq ?_
      refine Cd.seq ?_
      refine Cd.region ?_
      refine Lst.run rfl rfl (by decide) (Ev.move rfl) ?_
      refine Lst.run rfl rfl (by decide) (Ev.geq rfl rfl) ?_
      refine Lst.nil ?_
      refine At.then ?_
      rcases (Bool.eq_false_or_eq_true (decide (y64 ≥ (0 : Int)))).symm with hb68 | hb68
      · replace H := ite_f hb68 H
        refine Cd.condF rfl hb68 ?_
        refine Cd.exit ?_
        refine At.then_exit ?_
        refine At.then_exit ?_
        refine At.in_exit ?_
        have H := hbrk63 _ (some_inj H).symm
        subst H
        replace H := HKl63
        refine At.in_normal ?_
        exact At.meet (y65, s48, l49) (FLe.trans hF62 hF67) ⟨rfl, rfl, rfl, rfl, rfl, rfl, trivial⟩ rfl (some_inj H)
      replace H := ite_t hb68 H
      refine Cd.condT rfl hb68 ?_
      refine Cd.skip ?_
      refine At.then ?_
      refine Cd.seq ?_
      refine Cd.block ?_
      refine Cd.seq ?_
      refine Cd.seq ?_
      refine Cd.quiet (by kernel_rfl) (by kernel_rfl) ?_
      refine Qt.run rfl rfl (by decide) (Ev.move rfl) ?_
      obtain ⟨x69, h70, H⟩ := bind_some H
      have g71 := vat_some h70
      refine Qt.run rfl rfl (by decide) (Ev.indexAddr (off' := 0 + y64.toNat * 1) rfl rfl Try.runUnderlying23 Try.sizeOf3 g71.1 g71.2.1 rfl) ?_
      refine Qt.run rfl rfl (by decide) (Ev.load (i := 0) rfl rfl Try.isAgg3 (v := .int .i64 x69) ((Get.vecN (s := 1) (x := x69) rfl g71.2.2 (Get.here _)).off (by omega))) ?_
      refine Qt.run rfl rfl (by decide) (Ev.move rfl) ?_
      obtain ⟨x72, h73, H⟩ := bind_some H
      have g74 := vat_some h73
      refine Qt.run rfl rfl (by decide) (Ev.indexAddr (off' := 0 + y64.toNat * 1) rfl rfl Try.runUnderlying23 Try.sizeOf3 g74.1 g74.2.1 rfl) ?_
      refine Qt.run rfl rfl (by decide) (Ev.load (i := 5) rfl rfl Try.isAgg3 (v := .int .i64 x72) ((Get.vecN (s := 1) (x := x72) rfl g74.2.2 (Get.here _)).off (by omega))) ?_
      refine Qt.run rfl rfl (by decide) (Ev.lss rfl rfl) ?_
      refine Qt.done ?_
      refine At.then ?_
      rcases Bool.eq_false_or_eq_true (decide (x69 < x72)) with hb75 | hb75
      · replace H := ite_t hb75 H
        refine Cd.condT rfl hb75 ?_
        refine Cd.seq ?_
        refine Cd.region ?_
        refine Lst.run rfl rfl (by decide) (Ev.move rfl) ?_
        obtain ⟨x76, h77, H⟩ := bind_some H
        have g78 := vat_some h77
        refine Lst.run rfl rfl (by decide) (Ev.indexAddr (off' := 0 + y64.toNat * 1) rfl rfl Try.runUnderlying23 Try.sizeOf3 g78.1 g78.2.1 rfl) ?_
        refine Lst.run rfl rfl (by decide) (Ev.load (i := 0) rfl rfl Try.isAgg3 (v := .int .i64 x76) ((Get.vecN (s := 1) (x := x76) rfl g78.2.2 (Get.here _)).off (by omega))) ?_
        refine Lst.run rfl rfl (by decide) (Ev.add rfl rfl) ?_
        obtain ⟨x79, h80, H⟩ := bind_some H
        have g81 := vat_some h80
        refine Lst.run rfl rfl (by decide) (Ev.indexAddr (off' := 0 + y64.toNat * 1) rfl rfl Try.runUnderlying23 Try.sizeOf3 g81.1 g81.2.1 rfl) ?_
        obtain ⟨p82, h83, H⟩ := Let_some H
        refine Lst.store (i := 0) rfl rfl rfl rfl rfl Try.sizeOf3 (vs := [.int .i64 (w64 (x76 + (1 : Int)))]) rfl rfl rfl (cs' := enc p82) (by rw [← h83]; exact (Put.vecN (s := 1) (x := x79) rfl g81.2.2 (Put.here (vs := [.int .i64 (w64 (x76 + (1 : Int)))]) rfl)).off (by omega)) (L' := (.blk b35 (enc p82) 23) :: (.own s48 23 6 (encs l49)) :: (.blk b32 (enc rs25) 90) :: (.rows (α := Vector Int 6) 23 ((Vector.replicate 6 ⟨[], Sl.nil⟩ : Vector (LR (Vector Int 6)) 6).toList)) :: (.rows (α := Vector Int 6) 23 rs25.toList) :: (.blk b12 (enc r8) 23) :: (.own Sl.nil 23 6 (encs ([] : List (Vector Int 6)))) :: L) rfl ?_
        refine Lst.nil ?_
        refine At.then ?_
        refine Cd.exit ?_
        refine At.then_exit ?_
        refine At.in_other rfl ?_
        refine At.then_exit ?_
        refine At.then_exit ?_
        refine At.in_exit ?_
        have H := hbrk63 _ (some_inj H).symm
        subst H
        replace H := HKl63
        refine At.in_normal ?_
        exact At.meet (p82, s48, l49) (FLe.trans hF62 hF67) ⟨rfl, rfl, rfl, rfl, rfl, rfl, trivial⟩ rfl (some_inj H)
      replace H := ite_f hb75 H
      refine Cd.condF rfl hb75 ?_
      refine Cd.skip ?_
      refine At.then ?_
      refine Cd.region ?_
      refine Lst.run rfl rfl (by decide) (Ev.move rfl) ?_
      obtain ⟨x84, h85, H⟩ := bind_some H
      have g86 := vat_some h85
      refine Lst.run rfl rfl (by decide) (Ev.indexAddr (off' := 0 + y64.toNat * 1) rfl rfl Try.runUnderlying23 Try.sizeOf3 g86.1 g86.2.1 rfl) ?_
      obtain ⟨p87, h88, H⟩ := Let_some H
      refine Lst.store (i := 0) rfl rfl rfl rfl rfl Try.sizeOf3 (vs := [.int .i64 (0 : Int)]) rfl rfl rfl (cs' := enc p87) (by rw [← h88]; exact (Put.vecN (s := 1) (x := x84) rfl g86.2.2 (Put.here (vs := [.int .i64 (0 : Int)]) rfl)).off (by omega)) (L' := (.blk b35 (enc p87) 23) :: (.own s48 23 6 (encs l49)) :: (.blk b32 (enc rs25) 90) :: (.rows (α := Vector Int 6) 23 ((Vector.replicate 6 ⟨[], Sl.nil⟩ : Vector (LR (Vector Int 6)) 6).toList)) :: (.rows (α := Vector Int 6) 23 rs25.toList) :: (.blk b12 (enc r8) 23) :: (.own Sl.nil 23 6 (encs ([] : List (Vector Int 6)))) :: L) rfl ?_
      refine Lst.nil ?_
      refine At.in_normal ?_
      refine At.then ?_
      refine Cd.region ?_
      refine Lst.run rfl rfl (by decide) (Ev.move rfl) ?_
      refine Lst.run rfl rfl (by decide) (Ev.sub rfl rfl) ?_
      refine Lst.run rfl rfl (by decide) (Ev.assign rfl) ?_
      refine Lst.nil ?_
      exact At.meet (k63, w64 (y64 - (1 : Int)), p87) hF67 ⟨rfl, rfl, rfl, rfl, rfl, rfl, rfl, trivial⟩ rfl ⟨hgo63 _ (some_inj H).symm, Nat.lt_succ_self _⟩
    rintro F89 ⟨y44, s45, l46⟩ hF90 hy
    subst hy
    refine Cd.as (e' := [(5, .pointer (some ⟨b12, 0, none⟩)), (9, .pointer (some ⟨b32, 0, none⟩)), (10, Sl.v s45), (11, .pointer (some ⟨b35, 0, none⟩)), (33, .int .i64 y15), (34, .int .i64 (i37 : Int))]) (L' := (.blk b35 (enc y44) 23) :: (.own s45 23 6 (encs l46)) :: (.blk b32 (enc rs25) 90) :: (.rows (α := Vector Int 6) 23 ((Vector.replicate 6 ⟨[], Sl.nil⟩ : Vector (LR (Vector Int 6)) 6).toList)) :: (.rows (α := Vector Int 6) 23 rs25.toList) :: (.blk b12 (enc r8) 23) :: (.own Sl.nil 23 6 (encs ([] : List (Vector Int 6)))) :: L) ⟨rfl, rfl, rfl, rfl, rfl, rfl, trivial⟩ rfl ?_
    replace H := HKo47
    refine Cd.region ?_
    refine Lst.run rfl rfl (by decide) (Ev.incr (by omega) rfl rfl) ?_
    refine Lst.run rfl rfl (by decide) (Ev.move rfl) ?_
    refine Lst.nil ?_
    exact At.meet (i37 + 1, k37, y44, s45, l46) (FLe.trans hF42 hF90) ⟨rfl, rfl, rfl, rfl, rfl, rfl, trivial⟩ rfl ⟨⟨hgo37 _ (some_inj H).symm, by omega⟩, Nat.lt_succ_self _⟩
  have hc14 : decide ((i14 : Int) < (6 : Int)) = true := decide_eq_true (by omega)
  obtain ⟨c14, H, hgo14⟩ := rangeF_go H
  unfold cut_All_B0 at H
  try dsimp only at H
  refine Cd.seq ?_
  refine Cd.region ?_
  refine Lst.run rfl rfl (by decide) (Ev.lss rfl rfl) ?_
  refine Lst.nil ?_
  refine At.then ?_
  refine Cd.seq ?_
  refine Cd.condT rfl hc14 ?_
  refine Cd.skip ?_
  refine At.then ?_
  refine Cd.seq ?_
  refine Cd.block ?_
  refine Cd.seq ?_
  refine Cd.region ?_
  obtain ⟨x18, h19, H⟩ := bind_some H
  have g20 := vat_some h19
  refine Lst.run rfl rfl (by decide) (Ev.index1 rfl rfl Try.runUnderlying23 Try.isAgg3 Try.sizeOf3 g20.1 g20.2.1 rfl ((Get.vecN (s := 1) rfl g20.2.2 (Get.here _)).off (by omega))) ?_
  refine Lst.run rfl rfl (by decide) (Ev.assign rfl) ?_
  refine Lst.nil ?_
  refine At.then ?_
  refine Cd.region ?_
  refine Lst.run rfl rfl (by decide) (Ev.move rfl) ?_
  refine Lst.run rfl rfl (by decide) (Ev.move rfl) ?_
  refine Lst.run rfl rfl (by decide) (Ev.add rfl rfl) ?_
  refine Lst.run rfl rfl (by decide) (Ev.mul rfl rfl) ?_
  refine Lst.run rfl rfl (by decide) (Ev.assign rfl) ?_
  refine Lst.nil ?_
  refine At.in_normal ?_
  refine At.then ?_
  refine Cd.region ?_
  refine Lst.run rfl rfl (by decide) (Ev.incr (by omega) rfl rfl) ?_
  refine Lst.run rfl rfl (by decide) (Ev.move rfl) ?_
  refine Lst.nil ?_
  exact At.meet (i14 + 1, k14, w64 (y15 * (w64 (x18 + (1 : Int))))) hF17 ⟨rfl, rfl, rfl, rfl, rfl, trivial⟩ rfl ⟨⟨hgo14 _ (some_inj H).symm, by omega⟩, Nat.lt_succ_self _⟩
set_option maxRecDepth 20000 in
theorem parttop_TopLattice_sim {fu : Nat} {a0 : List Event} {s_a0 : Sl} {r : Bool} (H : parttop_TopLattice fu a0 = some r) (w0 : World) (F : Frz) (M L : List Item) (hM : M.Sublist L) (hs_a0 : Rd w0 F M s_a0 a0) : Ok Try.prog w0 9 [Sl.v s_a0] F (L) (Is (.bool r) (L)) := by
  unfold parttop_TopLattice at H
  refine Ok.enter (m := 1) (n := 51) Try.func9 rfl rfl rfl (by decide) ?_
  refine Cd.env (e' := [(0, Sl.v s_a0)]) rfl ?_
  refine Cd.seq ?_
  refine Cd.region ?_
  refine Lst.run rfl rfl (by decide) (Ev.assign rfl) ?_
  refine Lst.nil ?_
  refine At.then ?_
  refine Cd.seq ?_
  refine Cd.seq ?_
  refine Cd.region ?_
  obtain ⟨r1, h2, H⟩ := bind_some H
  refine Lst.call1 rfl rfl (by decide) (vs := []) trivial Try.call44 (parttop_grown_sim h2 w0 _ M _ hM) ?_
  refine Lst.run rfl rfl (by decide) (Ev.not rfl) ?_
  refine Lst.nil ?_
  refine At.then ?_
  rcases Bool.eq_false_or_eq_true (!r1) with hb5 | hb5
  · replace H := ite_t hb5 H
    refine Cd.condT rfl hb5 ?_
    refine Cd.seq ?_
    refine Cd.region ?_
    refine Lst.run rfl rfl (by decide) (Ev.assign rfl) ?_
    refine Lst.nil ?_
    refine At.then ?_
    obtain rfl := some_inj H
    refine Cd.ret ?_
    refine At.then_ret ?_
    exact At.ret1 rfl (Res.tmp rfl) (FLe.refl _) (List.Sublist.refl _) ⟨rfl, rfl⟩
  replace H := ite_f hb5 H
  refine Cd.condF rfl hb5 ?_
  refine Cd.skip ?_
  refine At.then ?_
  refine Cd.seq ?_
  refine Cd.region ?_
  refine Lst.run rfl rfl (by decide) (Ev.move rfl) ?_
  obtain ⟨r6, h7, H⟩ := bind_some H
  refine Lst.call rfl rfl (by decide) (vs := [Sl.v s_a0]) ⟨rfl, trivial⟩ Try.call45 (parttop_historyOf_sim h7 w0 _ M _ hM (hs_a0.mono (FLe.refl _) (List.Sublist.refl _))) (fun F10 L' v hF11 hv => ?_)
  obtain ⟨s8, rfl, rfl⟩ := hv
  refine Lst.run rfl rfl (by decide) (Ev.assign rfl) ?_
  refine Lst.nil ?_
  refine At.then ?_
  obtain ⟨o14, H, HKo14⟩ := bind_some H
  refine Cd.join (σ := Sl × (List Event)) (fun (s12, l13) => [(3, Sl.v s12)]) (fun (s12, l13) => (.own s12 75 3 (encs l13)) :: L) (fun _ (s12, l13) => l13 = o14) ?_ ?_
  · refine Cd.seq ?_
    refine Cd.region ?_
    refine Lst.run rfl rfl (by decide) (Ev.move rfl) ?_
    refine Lst.run rfl rfl (by decide) (Ev.lenS (α := Event) (xs := r6) (by decide) rfl rfl Try.runUnderlying24 (Rd.own (i := 0) rfl rfl rfl)) ?_
    refine Lst.run rfl rfl (by decide) (Ev.gtr rfl rfl) ?_
    refine Lst.nil ?_
    refine At.then ?_
    rcases (Bool.eq_false_or_eq_true (decide ((r6.length : Int) > (12 : Int)))).symm with hb15 | hb15
    · replace H := ite_f hb15 H
      refine Cd.condF rfl hb15 ?_
      refine Cd.skip ?_
      exact At.meet (s8, r6) (FLe.refl _) ⟨rfl, trivial⟩ rfl (some_inj H)
    replace H := ite_t hb15 H
    refine Cd.condT rfl hb15 ?_
    refine Cd.region ?_
    refine Lst.run rfl rfl (by decide) (Ev.move rfl) ?_
    obtain ⟨m16, h17, H⟩ := bind_some H
    obtain ⟨g18, gl19⟩ := cutL_some h17
    refine Lst.run rfl rfl (by decide) (Ev.cut (α := Event) (xs := r6) (i := 0) (j := (12 : Int)) rfl rfl rfl Try.runUnderlying24 Try.sizeOf75 rfl (by decide) (Rd.own (i := 0) rfl rfl rfl) g18.1 g18.2.1 g18.2.2) ?_
    refine Lst.cutOwn (i := 0) (α := Event) (lo := (0 : Int).toNat) (hi := ((12 : Int) : Int).toNat) rfl rfl rfl (by decide) (by omega) (by omega) (L' := (.own (s8.cut (0 : Int).toNat ((12 : Int) : Int).toNat 3) 75 3 (encs m16)) :: L) (by subst gl19; rfl) ?_
    refine Lst.run rfl rfl (by decide) (Ev.assign rfl) ?_
    refine Lst.nil ?_
    exact At.meet ((s8.cut (0 : Int).toNat ((12 : Int) : Int).toNat 3), m16) (FLe.refl _) ⟨rfl, trivial⟩ rfl (some_inj H)
  rintro F21 ⟨s12, l13⟩ hF22 hy
  subst hy
  refine Cd.as (e' := [(3, Sl.v s12)]) (L' := (.own s12 75 3 (encs l13)) :: L) ⟨rfl, trivial⟩ rfl ?_
  replace H := HKo14
  refine Cd.seq ?_
  refine Cd.region ?_
  refine Lst.run rfl rfl (by decide) (Ev.move rfl) ?_
  obtain ⟨r23, h24, H⟩ := bind_some H
  refine Lst.call rfl rfl (by decide) (vs := [Sl.v s12]) ⟨rfl, trivial⟩ Try.call21 (stamp_Ahead_sim h24 w0 _ _ _ (List.Sublist.refl _) (Rd.own (i := 0) rfl rfl rfl)) (fun F27 L' v hF28 hv => ?_)
  obtain ⟨s25, rfl, rfl⟩ := hv
  refine Lst.run rfl rfl (by decide) (Ev.move rfl) ?_
  refine Lst.run rfl rfl (by decide) (Ev.extract rfl rfl) ?_
  refine Lst.run rfl rfl (by decide) (Ev.extract rfl rfl) ?_
  refine Lst.run rfl rfl (by decide) (Ev.assign rfl) ?_
  refine Lst.run rfl rfl (by decide) (Ev.assign rfl) ?_
  refine Lst.nil ?_
  refine At.then ?_
  refine Cd.seq ?_
  refine Cd.seq ?_
  refine Cd.region ?_
  refine Lst.run rfl rfl (by decide) (Ev.move rfl) ?_
  refine Lst.run rfl rfl (by decide) (Ev.neq rfl rfl) ?_
  refine Lst.nil ?_
  refine At.then ?_
  rcases Bool.eq_false_or_eq_true (r23.2 != (0 : Int)) with hb29 | hb29
  · replace H := ite_t hb29 H
    refine Cd.condT rfl hb29 ?_
    refine Cd.seq ?_
    refine Cd.region ?_
    refine Lst.run rfl rfl (by decide) (Ev.assign rfl) ?_
    refine Lst.nil ?_
    refine At.then ?_
    obtain rfl := some_inj H
    refine Cd.ret ?_
    refine At.then_ret ?_
    exact At.ret1 rfl (Res.tmp rfl) (FLe.trans (FLe.trans hF11 hF22) hF28) (List.Sublist.cons _ (List.Sublist.cons _ (List.Sublist.refl _))) ⟨rfl, rfl⟩
  replace H := ite_f hb29 H
  refine Cd.condF rfl hb29 ?_
  refine Cd.skip ?_
  refine At.then ?_
  refine Cd.seq ?_
  refine Cd.region ?_
  refine Lst.run rfl rfl (by decide) (Ev.move rfl) ?_
  refine Lst.run rfl rfl (by decide) (Ev.lenS (α := Event) (xs := l13) (by decide) rfl rfl Try.runUnderlying24 (Rd.own (i := 1) rfl rfl rfl)) ?_
  refine Lst.run rfl rfl (by decide) (Ev.move rfl) ?_
  refine Lst.run rfl rfl (by decide) (Ev.build (v := .agg (enc (PosetR.mk ({ Poset.zero with N := (l13.length : Int), Pairs := r23.1 } : Poset) s25)).toArray) (pv := [(0, .int .i64 (l13.length : Int)), (1, Sl.v s25)]) ⟨rfl, rfl, ⟨rfl, rfl, trivial⟩⟩ (run_buildStruct (places := #[(0, 1), (1, 1)]) Try.zeroValue71 (zs := enc (PosetR.mk Poset.zero Sl.nil)) rfl Try.runUnderlying71 (fun w => by kernel_rfl) (fill_cons (cs := enc (PosetR.mk Poset.zero Sl.nil)) (cs' := enc (PosetR.mk ({ Poset.zero with N := (l13.length : Int) } : Poset) Sl.nil)) (vs := [.int .i64 (l13.length : Int)]) rfl rfl rfl ((PosetR.put_N (p := (PosetR.mk Poset.zero Sl.nil)) (y := (l13.length : Int)) (Put.here (vs := [.int .i64 (l13.length : Int)]) rfl)).off rfl) (fill_cons (cs := enc (PosetR.mk ({ Poset.zero with N := (l13.length : Int) } : Poset) Sl.nil)) (cs' := enc (PosetR.mk ({ Poset.zero with N := (l13.length : Int), Pairs := r23.1 } : Poset) s25)) (vs := [Sl.v s25]) rfl rfl rfl ((PosetR.put_Pairs (p := (PosetR.mk ({ Poset.zero with N := (l13.length : Int) } : Poset) Sl.nil)) (y := s25) (Put.here (vs := [Sl.v s25]) rfl)).off rfl) fill_nil)))) ?_
  obtain ⟨r30, h31, H⟩ := bind_some H
  refine Lst.call rfl rfl (by decide) (vs := [.agg (enc (PosetR.mk ({ Poset.zero with N := (l13.length : Int), Pairs := r23.1 } : Poset) s25)).toArray]) ⟨rfl, trivial⟩ Try.call46 (lat_Downs_sim h31 w0 _ _ _ (List.Sublist.refl _) (Rd.own (i := 0) rfl rfl rfl)) (fun F34 L' v hF35 hv => ?_)
  obtain ⟨s32, rfl, rfl⟩ := hv
  refine Lst.run rfl rfl (by decide) (Ev.move rfl) ?_
  refine Lst.run rfl rfl (by decide) (Ev.extract rfl rfl) ?_
  refine Lst.run rfl rfl (by decide) (Ev.extract rfl rfl) ?_
  refine Lst.run rfl rfl (by decide) (Ev.assign rfl) ?_
  refine Lst.run rfl rfl (by decide) (Ev.assign rfl) ?_
  refine Lst.nil ?_
  refine At.then ?_
  refine Cd.seq ?_
  refine Cd.as (e' := [(3, Sl.v s12), (5, .int .i64 r30.2), (6, Sl.v s32)]) (L' := (.own s32 101 1 (encs r30.1)) :: (.own s25 46 2 (encs r23.1)) :: (.own s12 75 3 (encs l13)) :: L) ⟨rfl, rfl, rfl, trivial⟩ rfl ?_
  refine Cd.region ?_
  refine Lst.run rfl rfl (by decide) (Ev.move rfl) ?_
  obtain ⟨r36, h37, H⟩ := bind_some H
  refine Lst.call rfl rfl (by decide) (vs := [Sl.v s12]) ⟨rfl, trivial⟩ Try.call35 (cut_All_sim h37 w0 _ _ _ (List.Sublist.refl _) (Rd.own (i := 2) rfl rfl rfl)) (fun F40 L' v hF41 hv => ?_)
  obtain ⟨s38, rfl, rfl⟩ := hv
  refine Lst.run rfl rfl (by decide) (Ev.move rfl) ?_
  refine Lst.run rfl rfl (by decide) (Ev.extract rfl rfl) ?_
  refine Lst.run rfl rfl (by decide) (Ev.extract rfl rfl) ?_
  refine Lst.run rfl rfl (by decide) (Ev.assign rfl) ?_
  refine Lst.run rfl rfl (by decide) (Ev.assign rfl) ?_
  refine Lst.nil ?_
  refine At.then ?_
  refine Cd.seq ?_
  refine Cd.region ?_
  refine Lst.run rfl rfl (by decide) (Ev.move rfl) ?_
  refine Lst.run rfl rfl (by decide) (Ev.eql rfl rfl) ?_
  refine Lst.run rfl rfl (by decide) (Ev.move rfl) ?_
  obtain ⟨o42, H, HKo42⟩ := bind_some H
  refine Lst.join (σ := Bool) 3 (fun y43 => [(6, Sl.v s32), (7, Sl.v s38), (43, .bool y43)]) (fun y43 => (.own s38 23 6 (encs r36.1)) :: (.own s32 101 1 (encs r30.1)) :: (.own s25 46 2 (encs r23.1)) :: (.own s12 75 3 (encs l13)) :: L) (fun _ y43 => y43 = o42) ?_ ?_
  · rcases (Bool.eq_false_or_eq_true (r30.2 == (0 : Int))).symm with hb44 | hb44
    · replace H := ite_f hb44 H
      refine Lst.skip rfl rfl rfl hb44 rfl (by decide) ?_
      refine Lst.skip rfl rfl rfl hb44 rfl (by decide) ?_
      refine Lst.run rfl rfl (by decide) (Ev.pickF rfl hb44 rfl) ?_
      refine Lst.nil ?_
      exact At.meet false (FLe.refl _) ⟨rfl, rfl, rfl, trivial⟩ rfl (some_inj H)
    replace H := ite_t hb44 H
    refine Lst.runG rfl rfl rfl hb44 rfl (by decide) (Ev.move rfl) ?_
    refine Lst.runG rfl rfl rfl hb44 rfl (by decide) (Ev.eql rfl rfl) ?_
    refine Lst.run rfl rfl (by decide) (Ev.pickT rfl hb44 rfl) ?_
    refine Lst.nil ?_
    exact At.meet (r36.2 == (0 : Int)) (FLe.refl _) ⟨rfl, rfl, rfl, trivial⟩ rfl (some_inj H)
  rintro F45 y43 hF46 hy
  subst hy
  refine Lst.as (e' := [(6, Sl.v s32), (7, Sl.v s38), (43, .bool y43)]) (L' := (.own s38 23 6 (encs r36.1)) :: (.own s32 101 1 (encs r30.1)) :: (.own s25 46 2 (encs r23.1)) :: (.own s12 75 3 (encs l13)) :: L) ⟨rfl, rfl, rfl, trivial⟩ rfl ?_
  replace H := HKo42
  refine Lst.run rfl rfl (by decide) (Ev.move rfl) ?_
  obtain ⟨o47, H, HKo47⟩ := bind_some H
  refine Lst.join (σ := Bool) 6 (fun y48 => [(50, .bool y48)]) (fun y48 => (.own s38 23 6 (encs r36.1)) :: (.own s32 101 1 (encs r30.1)) :: (.own s25 46 2 (encs r23.1)) :: (.own s12 75 3 (encs l13)) :: L) (fun _ y48 => y48 = o47) ?_ ?_
  · rcases (Bool.eq_false_or_eq_true y43).symm with hb49 | hb49
    · replace H := ite_f hb49 H
      refine Lst.skip rfl rfl rfl hb49 rfl (by decide) ?_
      refine Lst.skip rfl rfl rfl hb49 rfl (by decide) ?_
      refine Lst.skip rfl rfl rfl hb49 rfl (by decide) ?_
      refine Lst.skip rfl rfl rfl hb49 rfl (by decide) ?_
      refine Lst.skip rfl rfl rfl hb49 rfl (by decide) ?_
      refine Lst.run rfl rfl (by decide) (Ev.pickF rfl hb49 rfl) ?_
      refine Lst.nil ?_
      exact At.meet false (FLe.refl _) ⟨rfl, trivial⟩ rfl (some_inj H)
    replace H := ite_t hb49 H
    refine Lst.runG rfl rfl rfl hb49 rfl (by decide) (Ev.move rfl) ?_
    refine Lst.runG rfl rfl rfl hb49 rfl (by decide) (Ev.lenS (α := BitVec 16) (xs := r30.1) (by decide) rfl rfl Try.runUnderlying67 (Rd.own (i := 1) rfl rfl rfl)) ?_
    refine Lst.runG rfl rfl rfl hb49 rfl (by decide) (Ev.move rfl) ?_
    refine Lst.runG rfl rfl rfl hb49 rfl (by decide) (Ev.lenS (α := Vector Int 6) (xs := r36.1) (by decide) rfl rfl Try.runUnderlying28 (Rd.own (i := 0) rfl rfl rfl)) ?_
    refine Lst.runG rfl rfl rfl hb49 rfl (by decide) (Ev.eql rfl rfl) ?_
    refine Lst.run rfl rfl (by decide) (Ev.pickT rfl hb49 rfl) ?_
    refine Lst.nil ?_
    exact At.meet ((r30.1.length : Int) == (r36.1.length : Int)) (FLe.refl _) ⟨rfl, trivial⟩ rfl (some_inj H)
  rintro F50 y48 hF51 hy
  subst hy
  refine Lst.as (e' := [(50, .bool y48)]) (L' := (.own s38 23 6 (encs r36.1)) :: (.own s32 101 1 (encs r30.1)) :: (.own s25 46 2 (encs r23.1)) :: (.own s12 75 3 (encs l13)) :: L) ⟨rfl, trivial⟩ rfl ?_
  replace H := HKo47
  refine Lst.run rfl rfl (by decide) (Ev.assign rfl) ?_
  refine Lst.nil ?_
  refine At.then ?_
  obtain rfl := some_inj H
  refine Cd.ret ?_
  exact At.ret1 rfl (Res.tmp rfl) (FLe.trans (FLe.trans (FLe.trans (FLe.trans (FLe.trans (FLe.trans hF11 hF22) hF28) hF35) hF41) hF46) hF51) (List.Sublist.cons _ (List.Sublist.cons _ (List.Sublist.cons _ (List.Sublist.cons _ (List.Sublist.refl _))))) ⟨rfl, rfl⟩
end Go.Proofs.Ytclmlddmgccfjaa
