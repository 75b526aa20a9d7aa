/-
  No cell of these rows narrows 'for every input' (looked for: loops, veiled, ifaces, maps, wideKeys, modest, calm, conditions, laid).
  DERIVED. THE GIVEN ROWS OF THIS SEAT. 7 by the template 'for every input the law returns true; each argument reads behind the call as it read before'; 0 by the template 'total and deterministic' (their statements: YtclmlddmgccfjaaTotals.lean).
  GIVEN WITH THE SEED: the statements are not yours to turn. If you find one false, say at which input.
  Laid BY PROGRAM, IN A SANDBOX (cutbox-rows.mjs): the forced cells as the released guide's own fill.sh prints them over the translation 35c346ee432e585d… (all of the seat's roots in one cut). By AI agents, Wed Nov 11 2026. No macro, syntax, notation, axiom, sorry.
-/
import Derived.Test.YtclmlddmgccfjaaChecked
import GoSem.Claim
import GoSem.ClaimJoined
import GoSem.ClaimMapViews
import Derived.JoinedTies
import Derived.KernelRfl
namespace Go.Proofs.Ytclmlddmgccfjaa
/- THE CELL 'sum', in the pinned program and in every row, IS THE sha256 OF THE DUMP (.gsa) THAT YtclmlddmgccfjaaProg.lean LOADS. Nothing in Lean hashes anything: it is a label: what it is worth is what the hold of that sum in a sandbox is worth. -/
noncomputable def Try.pinned : Pinned := { name := "ytclmlddmgccfjaa", sum := "35c346ee432e585da14aad3dfc2dbb1a017e3d3b9d352ff4ef6b2fa71ba9e703", checked := Try.checked }
namespace Rows
def none {H : Type} : Left H := { results := [], args := [] }

/-- 'partlaw.VectSays': WHATEVER THE INPUT: true; the input reads as it did. -/
def vectSaysSpec : ChangeSpec := { name := "vectSays", fn := fun _ => fun
  | [d1, d2, d3] => { results := [.lit (.bool true)], args := [d1, d2, d3] }
  | _ => none }
def vectSaysRow : OpenClaim := { program := "ytclmlddmgccfjaa", sum := "35c346ee432e585da14aad3dfc2dbb1a017e3d3b9d352ff4ef6b2fa71ba9e703", func := "partsong/partlaw.VectSays", spec := "vectSays", plainKeys := false, apart := false }
def VectSaysSaid : Prop := vectSaysRow.holds Try.pinned (OpenSpec.ofChange vectSaysSpec)

/-- ITS FALSE NEIGHBOUR: 'it returns false'. Refute it at one input. -/
def vectSaysWrong : ChangeSpec := { name := "vectSays", fn := fun _ => fun
  | [d1, d2, d3] => { results := [.lit (.bool false)], args := [d1, d2, d3] }
  | _ => none }
def VectSaysWrongFalsely : Prop := vectSaysRow.holds Try.pinned (OpenSpec.ofChange vectSaysWrong)

/-- 'partlaw.StampSays': WHATEVER THE INPUT: true; the input reads as it did. -/
def stampSaysSpec : ChangeSpec := { name := "stampSays", fn := fun _ => fun
  | [d] => { results := [.lit (.bool true)], args := [d] }
  | _ => none }
def stampSaysRow : OpenClaim := { program := "ytclmlddmgccfjaa", sum := "35c346ee432e585da14aad3dfc2dbb1a017e3d3b9d352ff4ef6b2fa71ba9e703", func := "partsong/partlaw.StampSays", spec := "stampSays", unfollowed := true, recurses := true, plainKeys := false, apart := false }
def StampSaysSaid : Prop := stampSaysRow.holds Try.pinned (OpenSpec.ofChange stampSaysSpec)

/-- ITS FALSE NEIGHBOUR: 'it returns false'. Refute it at one input. -/
def stampSaysWrong : ChangeSpec := { name := "stampSays", fn := fun _ => fun
  | [d] => { results := [.lit (.bool false)], args := [d] }
  | _ => none }
def StampSaysWrongFalsely : Prop := stampSaysRow.holds Try.pinned (OpenSpec.ofChange stampSaysWrong)

/-- 'partlaw.CutSays': WHATEVER THE INPUT: true; the input reads as it did. -/
def cutSaysSpec : ChangeSpec := { name := "cutSays", fn := fun _ => fun
  | [d1, d2] => { results := [.lit (.bool true)], args := [d1, d2] }
  | _ => none }
def cutSaysRow : OpenClaim := { program := "ytclmlddmgccfjaa", sum := "35c346ee432e585da14aad3dfc2dbb1a017e3d3b9d352ff4ef6b2fa71ba9e703", func := "partsong/partlaw.CutSays", spec := "cutSays", plainKeys := false, apart := false }
def CutSaysSaid : Prop := cutSaysRow.holds Try.pinned (OpenSpec.ofChange cutSaysSpec)

/-- ITS FALSE NEIGHBOUR: 'it returns false'. Refute it at one input. -/
def cutSaysWrong : ChangeSpec := { name := "cutSays", fn := fun _ => fun
  | [d1, d2] => { results := [.lit (.bool false)], args := [d1, d2] }
  | _ => none }
def CutSaysWrongFalsely : Prop := cutSaysRow.holds Try.pinned (OpenSpec.ofChange cutSaysWrong)

/-- 'partlaw.CutAll': WHATEVER THE INPUT: true; the input reads as it did. -/
def cutAllSpec : ChangeSpec := { name := "cutAll", fn := fun _ => fun
  | [d] => { results := [.lit (.bool true)], args := [d] }
  | _ => none }
def cutAllRow : OpenClaim := { program := "ytclmlddmgccfjaa", sum := "35c346ee432e585da14aad3dfc2dbb1a017e3d3b9d352ff4ef6b2fa71ba9e703", func := "partsong/partlaw.CutAll", spec := "cutAll", unfollowed := true, recurses := true, plainKeys := false, apart := false }
def CutAllSaid : Prop := cutAllRow.holds Try.pinned (OpenSpec.ofChange cutAllSpec)

/-- ITS FALSE NEIGHBOUR: 'it returns false'. Refute it at one input. -/
def cutAllWrong : ChangeSpec := { name := "cutAll", fn := fun _ => fun
  | [d] => { results := [.lit (.bool false)], args := [d] }
  | _ => none }
def CutAllWrongFalsely : Prop := cutAllRow.holds Try.pinned (OpenSpec.ofChange cutAllWrong)

/-- 'partlaw.PredSays': WHATEVER THE INPUT: true; the input reads as it did. -/
def predSaysSpec : ChangeSpec := { name := "predSays", fn := fun _ => fun
  | [d1, d2] => { results := [.lit (.bool true)], args := [d1, d2] }
  | _ => none }
def predSaysRow : OpenClaim := { program := "ytclmlddmgccfjaa", sum := "35c346ee432e585da14aad3dfc2dbb1a017e3d3b9d352ff4ef6b2fa71ba9e703", func := "partsong/partlaw.PredSays", spec := "predSays", unfollowed := true, recurses := true, plainKeys := false, apart := false }
def PredSaysSaid : Prop := predSaysRow.holds Try.pinned (OpenSpec.ofChange predSaysSpec)

/-- ITS FALSE NEIGHBOUR: 'it returns false'. Refute it at one input. -/
def predSaysWrong : ChangeSpec := { name := "predSays", fn := fun _ => fun
  | [d1, d2] => { results := [.lit (.bool false)], args := [d1, d2] }
  | _ => none }
def PredSaysWrongFalsely : Prop := predSaysRow.holds Try.pinned (OpenSpec.ofChange predSaysWrong)

/-- 'parttop.TopCauses': WHATEVER THE INPUT: true; the input reads as it did. -/
def topCausesSpec : ChangeSpec := { name := "topCauses", fn := fun _ => fun
  | [d] => { results := [.lit (.bool true)], args := [d] }
  | _ => none }
def topCausesRow : OpenClaim := { program := "ytclmlddmgccfjaa", sum := "35c346ee432e585da14aad3dfc2dbb1a017e3d3b9d352ff4ef6b2fa71ba9e703", func := "partsong/parttop.TopCauses", spec := "topCauses", plainKeys := false, apart := false }
def TopCausesSaid : Prop := topCausesRow.holds Try.pinned (OpenSpec.ofChange topCausesSpec)

/-- ITS FALSE NEIGHBOUR: 'it returns false'. Refute it at one input. -/
def topCausesWrong : ChangeSpec := { name := "topCauses", fn := fun _ => fun
  | [d] => { results := [.lit (.bool false)], args := [d] }
  | _ => none }
def TopCausesWrongFalsely : Prop := topCausesRow.holds Try.pinned (OpenSpec.ofChange topCausesWrong)

/-- 'parttop.TopLattice': WHATEVER THE INPUT: true; the input reads as it did. -/
def topLatticeSpec : ChangeSpec := { name := "topLattice", fn := fun _ => fun
  | [d] => { results := [.lit (.bool true)], args := [d] }
  | _ => none }
def topLatticeRow : OpenClaim := { program := "ytclmlddmgccfjaa", sum := "35c346ee432e585da14aad3dfc2dbb1a017e3d3b9d352ff4ef6b2fa71ba9e703", func := "partsong/parttop.TopLattice", spec := "topLattice", unfollowed := true, recurses := true, plainKeys := false, apart := false }
def TopLatticeSaid : Prop := topLatticeRow.holds Try.pinned (OpenSpec.ofChange topLatticeSpec)

/-- ITS FALSE NEIGHBOUR: 'it returns false'. Refute it at one input. -/
def topLatticeWrong : ChangeSpec := { name := "topLattice", fn := fun _ => fun
  | [d] => { results := [.lit (.bool false)], args := [d] }
  | _ => none }
def TopLatticeWrongFalsely : Prop := topLatticeRow.holds Try.pinned (OpenSpec.ofChange topLatticeWrong)

/- THE SECOND FORM. 'bulk': how many values and letters a reading holds, each counted each time it is reached (what is shared counts as often as it is met; a slice's spare places count too). A statement '..UptoSaid' is the law's where the arguments, and the package variables that the reading takes, are together of bulk at most 1048576: NARROWER than '..Said'. Prove '..Said' where nothing that the law and all that it calls make is longer than what came in: it says more and counts as full. Else prove '..UptoSaid'. A law counts once. -/
mutual
def uptoBulk {H : Type} : DataW H → Nat
  | .lit (.string bytes) => bytes.length + 1
  | .lit _ => 1
  | .nil => 1
  | .ptr d => uptoBulk d + 1
  | .slice elems spare => uptoBulkAll elems + uptoBulkAll spare + 1
  | .agg parts => uptoBulkAll parts + 1
  | .iface _ d => uptoBulk d + 1
  | .map entries => uptoBulkEntries entries + 1
  | .held _ => 1
def uptoBulkAll {H : Type} : List (DataW H) → Nat
  | [] => 0
  | d :: r => uptoBulk d + uptoBulkAll r
def uptoBulkEntries {H : Type} : List (Lit × DataW H) → Nat
  | [] => 0
  | x :: r => uptoBulkEntry x + uptoBulkEntries r
def uptoBulkEntry {H : Type} : Lit × DataW H → Nat
  | (.string bytes, d) => bytes.length + uptoBulk d + 1
  | (_, d) => uptoBulk d + 1
 end
def uptoSmall : (H : Type) → List (DataW H) → Bool := fun _ ds => decide (uptoBulkAll ds ≤ 1048576)
def OpenSpec.upto (s : _root_.Go.ChangeSpec) : _root_.Go.OpenSpec := { _root_.Go.OpenSpec.ofChange s with cond := some uptoSmall }

/-- 'partlaw.VectSays', WHERE WHAT IT READS IS OF BULK AT MOST 1048576: true; the input reads as it did. -/
def vectSaysUptoRow : OpenClaim := { program := "ytclmlddmgccfjaa", sum := "35c346ee432e585da14aad3dfc2dbb1a017e3d3b9d352ff4ef6b2fa71ba9e703", func := "partsong/partlaw.VectSays", spec := "vectSays", plainKeys := false, apart := false, narrowed := true }
def VectSaysUptoSaid : Prop := vectSaysUptoRow.holds Try.pinned (OpenSpec.upto vectSaysSpec)

/-- 'partlaw.StampSays', WHERE WHAT IT READS IS OF BULK AT MOST 1048576: true; the input reads as it did. -/
def stampSaysUptoRow : OpenClaim := { program := "ytclmlddmgccfjaa", sum := "35c346ee432e585da14aad3dfc2dbb1a017e3d3b9d352ff4ef6b2fa71ba9e703", func := "partsong/partlaw.StampSays", spec := "stampSays", unfollowed := true, recurses := true, plainKeys := false, apart := false, narrowed := true }
def StampSaysUptoSaid : Prop := stampSaysUptoRow.holds Try.pinned (OpenSpec.upto stampSaysSpec)

/-- 'partlaw.CutSays', WHERE WHAT IT READS IS OF BULK AT MOST 1048576: true; the input reads as it did. -/
def cutSaysUptoRow : OpenClaim := { program := "ytclmlddmgccfjaa", sum := "35c346ee432e585da14aad3dfc2dbb1a017e3d3b9d352ff4ef6b2fa71ba9e703", func := "partsong/partlaw.CutSays", spec := "cutSays", plainKeys := false, apart := false, narrowed := true }
def CutSaysUptoSaid : Prop := cutSaysUptoRow.holds Try.pinned (OpenSpec.upto cutSaysSpec)

/-- 'partlaw.CutAll', WHERE WHAT IT READS IS OF BULK AT MOST 1048576: true; the input reads as it did. -/
def cutAllUptoRow : OpenClaim := { program := "ytclmlddmgccfjaa", sum := "35c346ee432e585da14aad3dfc2dbb1a017e3d3b9d352ff4ef6b2fa71ba9e703", func := "partsong/partlaw.CutAll", spec := "cutAll", unfollowed := true, recurses := true, plainKeys := false, apart := false, narrowed := true }
def CutAllUptoSaid : Prop := cutAllUptoRow.holds Try.pinned (OpenSpec.upto cutAllSpec)

/-- 'partlaw.PredSays', WHERE WHAT IT READS IS OF BULK AT MOST 1048576: true; the input reads as it did. -/
def predSaysUptoRow : OpenClaim := { program := "ytclmlddmgccfjaa", sum := "35c346ee432e585da14aad3dfc2dbb1a017e3d3b9d352ff4ef6b2fa71ba9e703", func := "partsong/partlaw.PredSays", spec := "predSays", unfollowed := true, recurses := true, plainKeys := false, apart := false, narrowed := true }
def PredSaysUptoSaid : Prop := predSaysUptoRow.holds Try.pinned (OpenSpec.upto predSaysSpec)

/-- 'parttop.TopCauses', WHERE WHAT IT READS IS OF BULK AT MOST 1048576: true; the input reads as it did. -/
def topCausesUptoRow : OpenClaim := { program := "ytclmlddmgccfjaa", sum := "35c346ee432e585da14aad3dfc2dbb1a017e3d3b9d352ff4ef6b2fa71ba9e703", func := "partsong/parttop.TopCauses", spec := "topCauses", plainKeys := false, apart := false, narrowed := true }
def TopCausesUptoSaid : Prop := topCausesUptoRow.holds Try.pinned (OpenSpec.upto topCausesSpec)

/-- 'parttop.TopLattice', WHERE WHAT IT READS IS OF BULK AT MOST 1048576: true; the input reads as it did. -/
def topLatticeUptoRow : OpenClaim := { program := "ytclmlddmgccfjaa", sum := "35c346ee432e585da14aad3dfc2dbb1a017e3d3b9d352ff4ef6b2fa71ba9e703", func := "partsong/parttop.TopLattice", spec := "topLattice", unfollowed := true, recurses := true, plainKeys := false, apart := false, narrowed := true }
def TopLatticeUptoSaid : Prop := topLatticeUptoRow.holds Try.pinned (OpenSpec.upto topLatticeSpec)

end Rows
end Go.Proofs.Ytclmlddmgccfjaa
