/-
  The code's search for what is reached.
-/
import Derived.Test.YticifbmaapnfbaaPpMatchPairs
namespace Go.Proofs.Yticifbmaapnfbaa
open Enc

/-- What a part of the search adds to the marks. -/
structure Adds (n m : Nat) (l : List Pair) (L M : Nat → Int) (X Y X' Y' : Nat → Bool) : Prop where
  mx : ∀ a, X a = true → X' a = true
  my : ∀ b, Y b = true → Y' b = true
  cx : ∀ a, a < m → X' a = true → X a = true ∨ ∀ b, b < n → l.contains (⟨(a : Int), (b : Int)⟩ : Pair) = true → Y' b = true
  cy : ∀ b, b < n → Y' b = true → Y b = true ∨ ∀ a, a < m → L b = (a : Int) → X' a = true
theorem Adds.trans {n m : Nat} {l : List Pair} {L M : Nat → Int} {X Y X' Y' X2 Y2 : Nat → Bool} (h : Adds n m l L M X Y X' Y') (k : Adds n m l L M X' Y' X2 Y2) : Adds n m l L M X Y X2 Y2 := by
  refine ⟨fun a q => k.mx a (h.mx a q), fun b q => k.my b (h.my b q), fun a ha q => ?_, fun b hb q => ?_⟩
  · rcases k.cx a ha q with q | q
    · rcases h.cx a ha q with q | q
      · exact .inl q
      · exact .inr fun b hb hl => k.my b (q b hb hl)
    · exact .inr q
  · rcases k.cy b hb q with q | q
    · rcases h.cy b hb q with q | q
      · exact .inl q
      · exact .inr fun a ha hl => k.mx a (q a ha hl)
    · exact .inr q
def SoundAt (n m : Nat) (A B : Nat → Prop) (X Y : Nat → Bool) : Prop := (∀ a, a < m → X a = true → A a) ∧ ∀ b, b < n → Y b = true → B b
theorem dfs_law {n m : Nat} {l : List Pair} {g : Graph} {L M : Nat → Int} (hl : LIs g.left n L) (hc : Coh n m L M (-1)) (hmay : MayIs m n l g.may) : ∀ (fu a : Nat) (xs ys : List Bool) (X Y : Nat → Bool), a < m → LIs xs m X → LIs ys n Y → uns m X < fu →
    ∃ xs' ys' X' Y', match_Cover_1 fu (a : Int) xs g ys = some (xs', ys') ∧ LIs xs' m X' ∧ LIs ys' n Y' ∧ Adds n m l L M X Y X' Y' ∧ X' a = true ∧
      ∀ A B, Closed n m l M A B → A a → SoundAt n m A B X Y → SoundAt n m A B X' Y' := by
  intro fu
  induction fu with
  | zero => intro a xs ys X Y _ _ _ hu; omega
  | succ fu ih =>
    intro a xs ys X Y ha hX hY hu
    show ∃ xs' ys' X' Y', match_Cover_1_R (match_Cover_1 fu) (a : Int) xs g ys = some (xs', ys') ∧ _
    unfold match_Cover_1_R
    rw [hX.lat ha, Option.bind_some]
    cases hxa : X a
    · obtain ⟨row, hr1, hr2⟩ := hmay.2 a ha
      have hX1 : LIs (xs.set a true) m (upd X a true) := hX.set a true
      have hu1 : uns m (upd X a true) < fu := by
        have := uns_lt (S := X) (S' := upd X a true) (fun c h => upd_true c h) hxa upd_self m ha
        omega
      have hloop : Tot (rangeF (match_Cover_1_B0 g row (match_Cover_1 fu)) n 0 (xs.set a true, ys)) fun z => ∃ X' Y', LIs z.1 m X' ∧ LIs z.2 n Y' ∧ Adds n m l L M (upd X a true) Y X' Y' ∧ (∀ b, b < n → l.contains (⟨(a : Int), (b : Int)⟩ : Pair) = true → Y' b = true) ∧
          ∀ A B, Closed n m l M A B → A a → SoundAt n m A B X Y → SoundAt n m A B X' Y' := by
        refine Tot.rangeF (fun i z => ∃ X' Y', LIs z.1 m X' ∧ LIs z.2 n Y' ∧ Adds n m l L M (upd X a true) Y X' Y' ∧ (∀ b, b < i → l.contains (⟨(a : Int), (b : Int)⟩ : Pair) = true → Y' b = true) ∧
          ∀ A B, Closed n m l M A B → A a → SoundAt n m A B X Y → SoundAt n m A B X' Y') ⟨_, _, hX1, hY, ⟨fun _ h => h, fun _ h => h, fun _ _ h => .inl h, fun _ _ h => .inl h⟩, fun b hb => by omega, fun A B hcl haA hs => ⟨fun x hx q => ?_, hs.2⟩⟩ ?_ ?_
        · by_cases e : x = a
          · subst e; exact haA
          · rw [upd_ne e] at q; exact hs.1 x hx q
        · rintro b ⟨x1, y1⟩ _ hb ⟨X1, Y1, h1, h2, h3, h4, h5⟩
          simp only at h1 h2
          have hb : b < n := by omega
          unfold match_Cover_1_B0
          rw [hr2.lat hb, Option.bind_some, h2.lat hb, Option.bind_some, and_some, Option.bind_some, Tot.ite_iff]
          have next : ∀ {Y2 : Nat → Bool}, (∀ c, Y1 c = true → Y2 c = true) → (l.contains (⟨(a : Int), (b : Int)⟩ : Pair) = true → Y2 b = true) → ∀ c, c < b + 1 → l.contains (⟨(a : Int), (c : Int)⟩ : Pair) = true → Y2 c = true := fun hm hbb c hcb hlc => by
            by_cases e : c = b
            · subst e; exact hbb hlc
            · exact hm c (h4 c (by omega) hlc)
          refine ⟨fun q => ?_, fun q => ?_⟩
          · simp only [Bool.and_eq_true, Bool.not_eq_true'] at q
            obtain ⟨q1, q2⟩ := q
            have hY2 : LIs (y1.set b true) n (upd Y1 b true) := h2.set b true
            simp only [Option.bind_some, Let, Int.toNat_natCast, hl.lat hb]
            by_cases hf : L b ≥ 0
            · obtain ⟨a', ha'⟩ := int_nat hf
              have ham : a' < m := by have := hc.lr b hb; omega
              have hu2 : uns m X1 < fu := by have := uns_mono h3.mx m; omega
              obtain ⟨x2, y2, X2, Y2, p1, p2, p3, p4, p5, p6⟩ := ih a' x1 (y1.set b true) X1 (upd Y1 b true) ham h1 hY2 hu2
              rw [decide_eq_true hf, cond_true, ha', p1, Option.bind_some, Tot.some_iff]
              refine ⟨X2, Y2, p2, p3, ?_, next (fun c h => p4.my c (upd_true c h)) (fun _ => p4.my b upd_self), fun A B hcl haA hs => p6 A B hcl ?_ ⟨(h5 A B hcl haA hs).1, fun c hc' q => ?_⟩⟩
              · refine ⟨fun c h => p4.mx c (h3.mx c h), fun c h => p4.my c (upd_true c (h3.my c h)), fun c hc' h => ?_, fun c hc' h => ?_⟩
                · rcases p4.cx c hc' h with h | h
                  · rcases h3.cx c hc' h with h | h
                    · exact .inl h
                    · exact .inr fun d hd hld => p4.my d (upd_true d (h d hd hld))
                  · exact .inr h
                · rcases p4.cy c hc' h with h | h
                  · by_cases e : c = b
                    · subst e
                      refine .inr fun x hx hxl => ?_
                      have : x = a' := by omega
                      subst this; exact p5
                    · rw [upd_ne e] at h
                      rcases h3.cy c hc' h with h | h
                      · exact .inl h
                      · exact .inr fun x hx hxl => p4.mx x (h x hx hxl)
                  · exact .inr h
              · refine hcl.back a' b ham hb ((hc.iff b a' hb ham (by omega)).1 ha') (hcl.edge a b ha hb q1 haA)
              · by_cases e : c = b
                · subst e; exact hcl.edge a c ha hb q1 haA
                · rw [upd_ne e] at q; exact (h5 A B hcl haA hs).2 c hc' q
            · rw [decide_eq_false hf, cond_false, Tot.some_iff]
              refine ⟨X1, _, h1, hY2, ⟨h3.mx, fun c h => upd_true c (h3.my c h), fun c hc' h => ?_, fun c hc' h => ?_⟩, next (fun c h => upd_true c h) (fun _ => upd_self), fun A B hcl haA hs => ⟨(h5 A B hcl haA hs).1, fun c hc' q => ?_⟩⟩
              · rcases h3.cx c hc' h with h | h
                · exact .inl h
                · exact .inr fun d hd hld => upd_true d (h d hd hld)
              · by_cases e : c = b
                · subst e; exact .inr fun x hx hxl => by omega
                · rw [upd_ne e] at h; exact h3.cy c hc' h
              · by_cases e : c = b
                · subst e; exact hcl.edge a c ha hb q1 haA
                · rw [upd_ne e] at q; exact (h5 A B hcl haA hs).2 c hc' q
          · rw [Tot.some_iff]
            refine ⟨X1, Y1, h1, h2, h3, next (fun c h => h) (fun hlb => ?_), h5⟩
            rw [hlb, Bool.true_and] at q
            simpa using q
        · rintro z ⟨X', Y', h1, h2, h3, h4, h5⟩
          rw [Nat.zero_add] at h4
          exact ⟨X', Y', h1, h2, h3, h4, h5⟩
      obtain ⟨⟨x1, y1⟩, e1, X', Y', h1, h2, h3, h4, h5⟩ := hloop
      simp only [cond_false, Option.bind_some, Let, Int.toNat_natCast, lat_nat, hr1, hr2.1, e1]
      refine ⟨x1, y1, X', Y', rfl, h1, h2, ⟨fun c h => h3.mx c (upd_true c h), h3.my, fun c hc' h => ?_, h3.cy⟩, h3.mx a upd_self, h5⟩
      by_cases e : c = a
      · subst e; exact .inr h4
      · rcases h3.cx c hc' h with h | h
        · rw [upd_ne e] at h; exact .inl h
        · exact .inr h
    · exact ⟨xs, ys, X, Y, rfl, hX, hY, ⟨fun _ h => h, fun _ h => h, fun _ _ h => .inl h, fun _ _ h => .inl h⟩, hxa, fun _ _ _ _ h => h⟩
end Go.Proofs.Yticifbmaapnfbaa
