/-
  No cell of these rows narrows 'for every input' (looked for: loops, veiled, ifaces, maps, wideKeys, modest, calm, conditions, laid).
  DERIVED. THE GIVEN ROWS OF THIS SEAT. 4 by the template 'for every input the law returns true; each argument reads behind the call as it read before'; 0 by the template 'total and deterministic' (their statements: YtnljiedichjagaaTotals.lean).
  GIVEN WITH THE SEED: the statements are not yours to turn. If you find one false, say at which input.
  Laid BY PROGRAM, IN A SANDBOX (cutbox-rows.mjs): the forced cells as the released guide's own fill.sh prints them over the translation 99a08aede153f407… (all of the seat's roots in one cut). By AI agents, Wed Nov 11 2026. No macro, syntax, notation, axiom, sorry.
-/
import Derived.Test.YtnljiedichjagaaChecked
import GoSem.Claim
import GoSem.ClaimJoined
import GoSem.ClaimMapViews
import Derived.JoinedTies
import Derived.KernelRfl
namespace Go.Proofs.Ytnljiedichjagaa
/- THE CELL 'sum', in the pinned program and in every row, IS THE sha256 OF THE DUMP (.gsa) THAT YtnljiedichjagaaProg.lean LOADS. Nothing in Lean hashes anything: it is a label: what it is worth is what the hold of that sum in a sandbox is worth. -/
noncomputable def Try.pinned : Pinned := { name := "ytnljiedichjagaa", sum := "99a08aede153f407b7269670b84dd8767ff0e7d676e298cce44fb0dd6331f3b0", checked := Try.checked }
namespace Rows
def none {H : Type} : Left H := { results := [], args := [] }

/-- 'partlaw.QuorumSays': WHATEVER THE INPUT: true; the input reads as it did. -/
def quorumSaysSpec : ChangeSpec := { name := "quorumSays", fn := fun _ => fun
  | [d1, d2, d3] => { results := [.lit (.bool true)], args := [d1, d2, d3] }
  | _ => none }
def quorumSaysRow : OpenClaim := { program := "ytnljiedichjagaa", sum := "99a08aede153f407b7269670b84dd8767ff0e7d676e298cce44fb0dd6331f3b0", func := "partsong/partlaw.QuorumSays", spec := "quorumSays", unfollowed := true, recurses := true, apart := false }
def QuorumSaysSaid : Prop := quorumSaysRow.holds Try.pinned (OpenSpec.ofChange quorumSaysSpec)

/-- ITS FALSE NEIGHBOUR: 'it returns false'. Refute it at one input. -/
def quorumSaysWrong : ChangeSpec := { name := "quorumSays", fn := fun _ => fun
  | [d1, d2, d3] => { results := [.lit (.bool false)], args := [d1, d2, d3] }
  | _ => none }
def QuorumSaysWrongFalsely : Prop := quorumSaysRow.holds Try.pinned (OpenSpec.ofChange quorumSaysWrong)

/-- 'partlaw.QuorumMakes': WHATEVER THE INPUT: true; the input reads as it did. -/
def quorumMakesSpec : ChangeSpec := { name := "quorumMakes", fn := fun _ => fun
  | [d1, d2, d3, d4] => { results := [.lit (.bool true)], args := [d1, d2, d3, d4] }
  | _ => none }
def quorumMakesRow : OpenClaim := { program := "ytnljiedichjagaa", sum := "99a08aede153f407b7269670b84dd8767ff0e7d676e298cce44fb0dd6331f3b0", func := "partsong/partlaw.QuorumMakes", spec := "quorumMakes", unfollowed := true, recurses := true, apart := false }
def QuorumMakesSaid : Prop := quorumMakesRow.holds Try.pinned (OpenSpec.ofChange quorumMakesSpec)

/-- ITS FALSE NEIGHBOUR: 'it returns false'. Refute it at one input. -/
def quorumMakesWrong : ChangeSpec := { name := "quorumMakes", fn := fun _ => fun
  | [d1, d2, d3, d4] => { results := [.lit (.bool false)], args := [d1, d2, d3, d4] }
  | _ => none }
def QuorumMakesWrongFalsely : Prop := quorumMakesRow.holds Try.pinned (OpenSpec.ofChange quorumMakesWrong)

/-- 'partlaw.SynodSays': WHATEVER THE INPUT: true; the input reads as it did. -/
def synodSaysSpec : ChangeSpec := { name := "synodSays", fn := fun _ => fun
  | [d1, d2] => { results := [.lit (.bool true)], args := [d1, d2] }
  | _ => none }
def synodSaysRow : OpenClaim := { program := "ytnljiedichjagaa", sum := "99a08aede153f407b7269670b84dd8767ff0e7d676e298cce44fb0dd6331f3b0", func := "partsong/partlaw.SynodSays", spec := "synodSays", unfollowed := true, recurses := true, apart := false }
def SynodSaysSaid : Prop := synodSaysRow.holds Try.pinned (OpenSpec.ofChange synodSaysSpec)

/-- ITS FALSE NEIGHBOUR: 'it returns false'. Refute it at one input. -/
def synodSaysWrong : ChangeSpec := { name := "synodSays", fn := fun _ => fun
  | [d1, d2] => { results := [.lit (.bool false)], args := [d1, d2] }
  | _ => none }
def SynodSaysWrongFalsely : Prop := synodSaysRow.holds Try.pinned (OpenSpec.ofChange synodSaysWrong)

/-- 'partlaw.SkeenSays': WHATEVER THE INPUT: true; the input reads as it did. -/
def skeenSaysSpec : ChangeSpec := { name := "skeenSays", fn := fun _ => fun
  | [d1, d2, d3, d4] => { results := [.lit (.bool true)], args := [d1, d2, d3, d4] }
  | _ => none }
def skeenSaysRow : OpenClaim := { program := "ytnljiedichjagaa", sum := "99a08aede153f407b7269670b84dd8767ff0e7d676e298cce44fb0dd6331f3b0", func := "partsong/partlaw.SkeenSays", spec := "skeenSays", unfollowed := true, recurses := true, apart := false }
def SkeenSaysSaid : Prop := skeenSaysRow.holds Try.pinned (OpenSpec.ofChange skeenSaysSpec)

/-- ITS FALSE NEIGHBOUR: 'it returns false'. Refute it at one input. -/
def skeenSaysWrong : ChangeSpec := { name := "skeenSays", fn := fun _ => fun
  | [d1, d2, d3, d4] => { results := [.lit (.bool false)], args := [d1, d2, d3, d4] }
  | _ => none }
def SkeenSaysWrongFalsely : Prop := skeenSaysRow.holds Try.pinned (OpenSpec.ofChange skeenSaysWrong)

/- THE SECOND FORM. 'bulk': how many values and letters a reading holds, each counted each time it is reached (what is shared counts as often as it is met; a slice's spare places count too). A statement '..UptoSaid' is the law's where the arguments, and the package variables that the reading takes, are together of bulk at most 1048576: NARROWER than '..Said'. Prove '..Said' where nothing that the law and all that it calls make is longer than what came in: it says more and counts as full. Else prove '..UptoSaid'. A law counts once. -/
mutual
def uptoBulk {H : Type} : DataW H → Nat
  | .lit (.string bytes) => bytes.length + 1
  | .lit _ => 1
  | .nil => 1
  | .ptr d => uptoBulk d + 1
  | .slice elems spare => uptoBulkAll elems + uptoBulkAll spare + 1
  | .agg parts => uptoBulkAll parts + 1
  | .iface _ d => uptoBulk d + 1
  | .map entries => uptoBulkEntries entries + 1
  | .held _ => 1
def uptoBulkAll {H : Type} : List (DataW H) → Nat
  | [] => 0
  | d :: r => uptoBulk d + uptoBulkAll r
def uptoBulkEntries {H : Type} : List (Lit × DataW H) → Nat
  | [] => 0
  | x :: r => uptoBulkEntry x + uptoBulkEntries r
def uptoBulkEntry {H : Type} : Lit × DataW H → Nat
  | (.string bytes, d) => bytes.length + uptoBulk d + 1
  | (_, d) => uptoBulk d + 1
 end
def uptoSmall : (H : Type) → List (DataW H) → Bool := fun _ ds => decide (uptoBulkAll ds ≤ 1048576)
def OpenSpec.upto (s : _root_.Go.ChangeSpec) : _root_.Go.OpenSpec := { _root_.Go.OpenSpec.ofChange s with cond := some uptoSmall }

/-- 'partlaw.QuorumSays', WHERE WHAT IT READS IS OF BULK AT MOST 1048576: true; the input reads as it did. -/
def quorumSaysUptoRow : OpenClaim := { program := "ytnljiedichjagaa", sum := "99a08aede153f407b7269670b84dd8767ff0e7d676e298cce44fb0dd6331f3b0", func := "partsong/partlaw.QuorumSays", spec := "quorumSays", unfollowed := true, recurses := true, apart := false, narrowed := true }
def QuorumSaysUptoSaid : Prop := quorumSaysUptoRow.holds Try.pinned (OpenSpec.upto quorumSaysSpec)

/-- 'partlaw.QuorumMakes', WHERE WHAT IT READS IS OF BULK AT MOST 1048576: true; the input reads as it did. -/
def quorumMakesUptoRow : OpenClaim := { program := "ytnljiedichjagaa", sum := "99a08aede153f407b7269670b84dd8767ff0e7d676e298cce44fb0dd6331f3b0", func := "partsong/partlaw.QuorumMakes", spec := "quorumMakes", unfollowed := true, recurses := true, apart := false, narrowed := true }
def QuorumMakesUptoSaid : Prop := quorumMakesUptoRow.holds Try.pinned (OpenSpec.upto quorumMakesSpec)

/-- 'partlaw.SynodSays', WHERE WHAT IT READS IS OF BULK AT MOST 1048576: true; the input reads as it did. -/
def synodSaysUptoRow : OpenClaim := { program := "ytnljiedichjagaa", sum := "99a08aede153f407b7269670b84dd8767ff0e7d676e298cce44fb0dd6331f3b0", func := "partsong/partlaw.SynodSays", spec := "synodSays", unfollowed := true, recurses := true, apart := false, narrowed := true }
def SynodSaysUptoSaid : Prop := synodSaysUptoRow.holds Try.pinned (OpenSpec.upto synodSaysSpec)

/-- 'partlaw.SkeenSays', WHERE WHAT IT READS IS OF BULK AT MOST 1048576: true; the input reads as it did. -/
def skeenSaysUptoRow : OpenClaim := { program := "ytnljiedichjagaa", sum := "99a08aede153f407b7269670b84dd8767ff0e7d676e298cce44fb0dd6331f3b0", func := "partsong/partlaw.SkeenSays", spec := "skeenSays", unfollowed := true, recurses := true, apart := false, narrowed := true }
def SkeenSaysUptoSaid : Prop := skeenSaysUptoRow.holds Try.pinned (OpenSpec.upto skeenSaysSpec)

end Rows
end Go.Proofs.Ytnljiedichjagaa
