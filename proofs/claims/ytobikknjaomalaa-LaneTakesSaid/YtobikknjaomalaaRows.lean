/-
  No cell of these rows narrows 'for every input' (looked for: loops, veiled, ifaces, maps, wideKeys, modest, calm, conditions, laid).
  DERIVED. THE GIVEN ROWS OF THIS SEAT. 9 by the template 'for every input the law returns true; each argument reads behind the call as it read before'; 0 by the template 'total and deterministic' (their statements: YtobikknjaomalaaTotals.lean).
  GIVEN WITH THE SEED: the statements are not yours to turn. If you find one false, say at which input.
  Laid BY PROGRAM, IN A SANDBOX (cutbox-rows.mjs): the forced cells as the released guide's own fill.sh prints them over the translation 32c4338d58f13b73… (all of the seat's roots in one cut). By AI agents, Wed Nov 11 2026. No macro, syntax, notation, axiom, sorry.
-/
import Derived.Test.YtobikknjaomalaaChecked
import GoSem.Claim
import GoSem.ClaimJoined
import GoSem.ClaimMapViews
import Derived.JoinedTies
import Derived.KernelRfl
namespace Go.Proofs.Ytobikknjaomalaa
/- THE CELL 'sum', in the pinned program and in every row, IS THE sha256 OF THE DUMP (.gsa) THAT YtobikknjaomalaaProg.lean LOADS. Nothing in Lean hashes anything: it is a label: what it is worth is what the hold of that sum in a sandbox is worth. -/
noncomputable def Try.pinned : Pinned := { name := "ytobikknjaomalaa", sum := "32c4338d58f13b73515fbf173510e6b5e268bc9e59747d14548538b3a46340f4", checked := Try.checked }
namespace Rows
def none {H : Type} : Left H := { results := [], args := [] }

/-- 'partlaw.WireSays': WHATEVER THE INPUT: true; the input reads as it did. -/
def wireSaysSpec : ChangeSpec := { name := "wireSays", fn := fun _ => fun
  | [d1, d2] => { results := [.lit (.bool true)], args := [d1, d2] }
  | _ => none }
def wireSaysRow : OpenClaim := { program := "ytobikknjaomalaa", sum := "32c4338d58f13b73515fbf173510e6b5e268bc9e59747d14548538b3a46340f4", func := "partsong/partlaw.WireSays", spec := "wireSays", unfollowed := true, recurses := true, plainKeys := false, apart := false }
def WireSaysSaid : Prop := wireSaysRow.holds Try.pinned (OpenSpec.ofChange wireSaysSpec)

/-- ITS FALSE NEIGHBOUR: 'it returns false'. Refute it at one input. -/
def wireSaysWrong : ChangeSpec := { name := "wireSays", fn := fun _ => fun
  | [d1, d2] => { results := [.lit (.bool false)], args := [d1, d2] }
  | _ => none }
def WireSaysWrongFalsely : Prop := wireSaysRow.holds Try.pinned (OpenSpec.ofChange wireSaysWrong)

/-- 'partlaw.RingSays': WHATEVER THE INPUT: true; the input reads as it did. -/
def ringSaysSpec : ChangeSpec := { name := "ringSays", fn := fun _ => fun
  | [d] => { results := [.lit (.bool true)], args := [d] }
  | _ => none }
def ringSaysRow : OpenClaim := { program := "ytobikknjaomalaa", sum := "32c4338d58f13b73515fbf173510e6b5e268bc9e59747d14548538b3a46340f4", func := "partsong/partlaw.RingSays", spec := "ringSays", plainKeys := false, apart := false }
def RingSaysSaid : Prop := ringSaysRow.holds Try.pinned (OpenSpec.ofChange ringSaysSpec)

/-- ITS FALSE NEIGHBOUR: 'it returns false'. Refute it at one input. -/
def ringSaysWrong : ChangeSpec := { name := "ringSays", fn := fun _ => fun
  | [d] => { results := [.lit (.bool false)], args := [d] }
  | _ => none }
def RingSaysWrongFalsely : Prop := ringSaysRow.holds Try.pinned (OpenSpec.ofChange ringSaysWrong)

/-- 'partlaw.CausalSays': WHATEVER THE INPUT: true; the input reads as it did. -/
def causalSaysSpec : ChangeSpec := { name := "causalSays", fn := fun _ => fun
  | [d1, d2, d3] => { results := [.lit (.bool true)], args := [d1, d2, d3] }
  | _ => none }
def causalSaysRow : OpenClaim := { program := "ytobikknjaomalaa", sum := "32c4338d58f13b73515fbf173510e6b5e268bc9e59747d14548538b3a46340f4", func := "partsong/partlaw.CausalSays", spec := "causalSays", unfollowed := true, recurses := true, plainKeys := false, apart := false }
def CausalSaysSaid : Prop := causalSaysRow.holds Try.pinned (OpenSpec.ofChange causalSaysSpec)

/-- ITS FALSE NEIGHBOUR: 'it returns false'. Refute it at one input. -/
def causalSaysWrong : ChangeSpec := { name := "causalSays", fn := fun _ => fun
  | [d1, d2, d3] => { results := [.lit (.bool false)], args := [d1, d2, d3] }
  | _ => none }
def CausalSaysWrongFalsely : Prop := causalSaysRow.holds Try.pinned (OpenSpec.ofChange causalSaysWrong)

/-- 'partlaw.TurnSays': WHATEVER THE INPUT: true; the input reads as it did. -/
def turnSaysSpec : ChangeSpec := { name := "turnSays", fn := fun _ => fun
  | [d1, d2] => { results := [.lit (.bool true)], args := [d1, d2] }
  | _ => none }
def turnSaysRow : OpenClaim := { program := "ytobikknjaomalaa", sum := "32c4338d58f13b73515fbf173510e6b5e268bc9e59747d14548538b3a46340f4", func := "partsong/partlaw.TurnSays", spec := "turnSays", unfollowed := true, recurses := true, plainKeys := false, apart := false }
def TurnSaysSaid : Prop := turnSaysRow.holds Try.pinned (OpenSpec.ofChange turnSaysSpec)

/-- ITS FALSE NEIGHBOUR: 'it returns false'. Refute it at one input. -/
def turnSaysWrong : ChangeSpec := { name := "turnSays", fn := fun _ => fun
  | [d1, d2] => { results := [.lit (.bool false)], args := [d1, d2] }
  | _ => none }
def TurnSaysWrongFalsely : Prop := turnSaysRow.holds Try.pinned (OpenSpec.ofChange turnSaysWrong)

/-- 'partlaw.FlushSays': WHATEVER THE INPUT: true; the input reads as it did. -/
def flushSaysSpec : ChangeSpec := { name := "flushSays", fn := fun _ => fun
  | [d1, d2, d3, d4, d5] => { results := [.lit (.bool true)], args := [d1, d2, d3, d4, d5] }
  | _ => none }
def flushSaysRow : OpenClaim := { program := "ytobikknjaomalaa", sum := "32c4338d58f13b73515fbf173510e6b5e268bc9e59747d14548538b3a46340f4", func := "partsong/partlaw.FlushSays", spec := "flushSays", unfollowed := true, recurses := true, plainKeys := false, apart := false }
def FlushSaysSaid : Prop := flushSaysRow.holds Try.pinned (OpenSpec.ofChange flushSaysSpec)

/-- ITS FALSE NEIGHBOUR: 'it returns false'. Refute it at one input. -/
def flushSaysWrong : ChangeSpec := { name := "flushSays", fn := fun _ => fun
  | [d1, d2, d3, d4, d5] => { results := [.lit (.bool false)], args := [d1, d2, d3, d4, d5] }
  | _ => none }
def FlushSaysWrongFalsely : Prop := flushSaysRow.holds Try.pinned (OpenSpec.ofChange flushSaysWrong)

/-- 'partlaw.LaneTakes': WHATEVER THE INPUT: true; the input reads as it did. -/
def laneTakesSpec : ChangeSpec := { name := "laneTakes", fn := fun _ => fun
  | [d1, d2] => { results := [.lit (.bool true)], args := [d1, d2] }
  | _ => none }
def laneTakesRow : OpenClaim := { program := "ytobikknjaomalaa", sum := "32c4338d58f13b73515fbf173510e6b5e268bc9e59747d14548538b3a46340f4", func := "partsong/partlaw.LaneTakes", spec := "laneTakes", inPlace := ["slices.overlaps[partsong/api.Parcel]"], unfollowed := true, recurses := true, plainKeys := false, apart := false }
def LaneTakesSaid : Prop := laneTakesRow.holds Try.pinned (OpenSpec.ofChange laneTakesSpec)

/-- ITS FALSE NEIGHBOUR: 'it returns false'. Refute it at one input. -/
def laneTakesWrong : ChangeSpec := { name := "laneTakes", fn := fun _ => fun
  | [d1, d2] => { results := [.lit (.bool false)], args := [d1, d2] }
  | _ => none }
def LaneTakesWrongFalsely : Prop := laneTakesRow.holds Try.pinned (OpenSpec.ofChange laneTakesWrong)

/-- 'partlaw.SnapPlays': WHATEVER THE INPUT: true; the input reads as it did. -/
def snapPlaysSpec : ChangeSpec := { name := "snapPlays", fn := fun _ => fun
  | [d1, d2] => { results := [.lit (.bool true)], args := [d1, d2] }
  | _ => none }
def snapPlaysRow : OpenClaim := { program := "ytobikknjaomalaa", sum := "32c4338d58f13b73515fbf173510e6b5e268bc9e59747d14548538b3a46340f4", func := "partsong/partlaw.SnapPlays", spec := "snapPlays", unfollowed := true, recurses := true, plainKeys := false, apart := false }
def SnapPlaysSaid : Prop := snapPlaysRow.holds Try.pinned (OpenSpec.ofChange snapPlaysSpec)

/-- ITS FALSE NEIGHBOUR: 'it returns false'. Refute it at one input. -/
def snapPlaysWrong : ChangeSpec := { name := "snapPlays", fn := fun _ => fun
  | [d1, d2] => { results := [.lit (.bool false)], args := [d1, d2] }
  | _ => none }
def SnapPlaysWrongFalsely : Prop := snapPlaysRow.holds Try.pinned (OpenSpec.ofChange snapPlaysWrong)

/-- 'partlaw.EnterSays': WHATEVER THE INPUT: true; the input reads as it did. -/
def enterSaysSpec : ChangeSpec := { name := "enterSays", fn := fun _ => fun
  | [d1, d2, d3, d4] => { results := [.lit (.bool true)], args := [d1, d2, d3, d4] }
  | _ => none }
def enterSaysRow : OpenClaim := { program := "ytobikknjaomalaa", sum := "32c4338d58f13b73515fbf173510e6b5e268bc9e59747d14548538b3a46340f4", func := "partsong/partlaw.EnterSays", spec := "enterSays", unfollowed := true, recurses := true, plainKeys := false, apart := false }
def EnterSaysSaid : Prop := enterSaysRow.holds Try.pinned (OpenSpec.ofChange enterSaysSpec)

/-- ITS FALSE NEIGHBOUR: 'it returns false'. Refute it at one input. -/
def enterSaysWrong : ChangeSpec := { name := "enterSays", fn := fun _ => fun
  | [d1, d2, d3, d4] => { results := [.lit (.bool false)], args := [d1, d2, d3, d4] }
  | _ => none }
def EnterSaysWrongFalsely : Prop := enterSaysRow.holds Try.pinned (OpenSpec.ofChange enterSaysWrong)

/-- 'partlaw.OverSays': WHATEVER THE INPUT: true; the input reads as it did. -/
def overSaysSpec : ChangeSpec := { name := "overSays", fn := fun _ => fun
  | [d1, d2, d3, d4, d5] => { results := [.lit (.bool true)], args := [d1, d2, d3, d4, d5] }
  | _ => none }
def overSaysRow : OpenClaim := { program := "ytobikknjaomalaa", sum := "32c4338d58f13b73515fbf173510e6b5e268bc9e59747d14548538b3a46340f4", func := "partsong/partlaw.OverSays", spec := "overSays", plainKeys := false, apart := false }
def OverSaysSaid : Prop := overSaysRow.holds Try.pinned (OpenSpec.ofChange overSaysSpec)

/-- ITS FALSE NEIGHBOUR: 'it returns false'. Refute it at one input. -/
def overSaysWrong : ChangeSpec := { name := "overSays", fn := fun _ => fun
  | [d1, d2, d3, d4, d5] => { results := [.lit (.bool false)], args := [d1, d2, d3, d4, d5] }
  | _ => none }
def OverSaysWrongFalsely : Prop := overSaysRow.holds Try.pinned (OpenSpec.ofChange overSaysWrong)

/- THE SECOND FORM. 'bulk': how many values and letters a reading holds, each counted each time it is reached (what is shared counts as often as it is met; a slice's spare places count too). A statement '..UptoSaid' is the law's where the arguments, and the package variables that the reading takes, are together of bulk at most 1048576: NARROWER than '..Said'. Prove '..Said' where nothing that the law and all that it calls make is longer than what came in: it says more and counts as full. Else prove '..UptoSaid'. A law counts once. -/
mutual
def uptoBulk {H : Type} : DataW H → Nat
  | .lit (.string bytes) => bytes.length + 1
  | .lit _ => 1
  | .nil => 1
  | .ptr d => uptoBulk d + 1
  | .slice elems spare => uptoBulkAll elems + uptoBulkAll spare + 1
  | .agg parts => uptoBulkAll parts + 1
  | .iface _ d => uptoBulk d + 1
  | .map entries => uptoBulkEntries entries + 1
  | .held _ => 1
def uptoBulkAll {H : Type} : List (DataW H) → Nat
  | [] => 0
  | d :: r => uptoBulk d + uptoBulkAll r
def uptoBulkEntries {H : Type} : List (Lit × DataW H) → Nat
  | [] => 0
  | x :: r => uptoBulkEntry x + uptoBulkEntries r
def uptoBulkEntry {H : Type} : Lit × DataW H → Nat
  | (.string bytes, d) => bytes.length + uptoBulk d + 1
  | (_, d) => uptoBulk d + 1
 end
def uptoSmall : (H : Type) → List (DataW H) → Bool := fun _ ds => decide (uptoBulkAll ds ≤ 1048576)
def OpenSpec.upto (s : _root_.Go.ChangeSpec) : _root_.Go.OpenSpec := { _root_.Go.OpenSpec.ofChange s with cond := some uptoSmall }

/-- 'partlaw.WireSays', WHERE WHAT IT READS IS OF BULK AT MOST 1048576: true; the input reads as it did. -/
def wireSaysUptoRow : OpenClaim := { program := "ytobikknjaomalaa", sum := "32c4338d58f13b73515fbf173510e6b5e268bc9e59747d14548538b3a46340f4", func := "partsong/partlaw.WireSays", spec := "wireSays", unfollowed := true, recurses := true, plainKeys := false, apart := false, narrowed := true }
def WireSaysUptoSaid : Prop := wireSaysUptoRow.holds Try.pinned (OpenSpec.upto wireSaysSpec)

/-- 'partlaw.RingSays', WHERE WHAT IT READS IS OF BULK AT MOST 1048576: true; the input reads as it did. -/
def ringSaysUptoRow : OpenClaim := { program := "ytobikknjaomalaa", sum := "32c4338d58f13b73515fbf173510e6b5e268bc9e59747d14548538b3a46340f4", func := "partsong/partlaw.RingSays", spec := "ringSays", plainKeys := false, apart := false, narrowed := true }
def RingSaysUptoSaid : Prop := ringSaysUptoRow.holds Try.pinned (OpenSpec.upto ringSaysSpec)

/-- 'partlaw.CausalSays', WHERE WHAT IT READS IS OF BULK AT MOST 1048576: true; the input reads as it did. -/
def causalSaysUptoRow : OpenClaim := { program := "ytobikknjaomalaa", sum := "32c4338d58f13b73515fbf173510e6b5e268bc9e59747d14548538b3a46340f4", func := "partsong/partlaw.CausalSays", spec := "causalSays", unfollowed := true, recurses := true, plainKeys := false, apart := false, narrowed := true }
def CausalSaysUptoSaid : Prop := causalSaysUptoRow.holds Try.pinned (OpenSpec.upto causalSaysSpec)

/-- 'partlaw.TurnSays', WHERE WHAT IT READS IS OF BULK AT MOST 1048576: true; the input reads as it did. -/
def turnSaysUptoRow : OpenClaim := { program := "ytobikknjaomalaa", sum := "32c4338d58f13b73515fbf173510e6b5e268bc9e59747d14548538b3a46340f4", func := "partsong/partlaw.TurnSays", spec := "turnSays", unfollowed := true, recurses := true, plainKeys := false, apart := false, narrowed := true }
def TurnSaysUptoSaid : Prop := turnSaysUptoRow.holds Try.pinned (OpenSpec.upto turnSaysSpec)

/-- 'partlaw.FlushSays', WHERE WHAT IT READS IS OF BULK AT MOST 1048576: true; the input reads as it did. -/
def flushSaysUptoRow : OpenClaim := { program := "ytobikknjaomalaa", sum := "32c4338d58f13b73515fbf173510e6b5e268bc9e59747d14548538b3a46340f4", func := "partsong/partlaw.FlushSays", spec := "flushSays", unfollowed := true, recurses := true, plainKeys := false, apart := false, narrowed := true }
def FlushSaysUptoSaid : Prop := flushSaysUptoRow.holds Try.pinned (OpenSpec.upto flushSaysSpec)

/-- 'partlaw.LaneTakes', WHERE WHAT IT READS IS OF BULK AT MOST 1048576: true; the input reads as it did. -/
def laneTakesUptoRow : OpenClaim := { program := "ytobikknjaomalaa", sum := "32c4338d58f13b73515fbf173510e6b5e268bc9e59747d14548538b3a46340f4", func := "partsong/partlaw.LaneTakes", spec := "laneTakes", inPlace := ["slices.overlaps[partsong/api.Parcel]"], unfollowed := true, recurses := true, plainKeys := false, apart := false, narrowed := true }
def LaneTakesUptoSaid : Prop := laneTakesUptoRow.holds Try.pinned (OpenSpec.upto laneTakesSpec)

/-- 'partlaw.SnapPlays', WHERE WHAT IT READS IS OF BULK AT MOST 1048576: true; the input reads as it did. -/
def snapPlaysUptoRow : OpenClaim := { program := "ytobikknjaomalaa", sum := "32c4338d58f13b73515fbf173510e6b5e268bc9e59747d14548538b3a46340f4", func := "partsong/partlaw.SnapPlays", spec := "snapPlays", unfollowed := true, recurses := true, plainKeys := false, apart := false, narrowed := true }
def SnapPlaysUptoSaid : Prop := snapPlaysUptoRow.holds Try.pinned (OpenSpec.upto snapPlaysSpec)

/-- 'partlaw.EnterSays', WHERE WHAT IT READS IS OF BULK AT MOST 1048576: true; the input reads as it did. -/
def enterSaysUptoRow : OpenClaim := { program := "ytobikknjaomalaa", sum := "32c4338d58f13b73515fbf173510e6b5e268bc9e59747d14548538b3a46340f4", func := "partsong/partlaw.EnterSays", spec := "enterSays", unfollowed := true, recurses := true, plainKeys := false, apart := false, narrowed := true }
def EnterSaysUptoSaid : Prop := enterSaysUptoRow.holds Try.pinned (OpenSpec.upto enterSaysSpec)

/-- 'partlaw.OverSays', WHERE WHAT IT READS IS OF BULK AT MOST 1048576: true; the input reads as it did. -/
def overSaysUptoRow : OpenClaim := { program := "ytobikknjaomalaa", sum := "32c4338d58f13b73515fbf173510e6b5e268bc9e59747d14548538b3a46340f4", func := "partsong/partlaw.OverSays", spec := "overSays", plainKeys := false, apart := false, narrowed := true }
def OverSaysUptoSaid : Prop := overSaysUptoRow.holds Try.pinned (OpenSpec.upto overSaysSpec)

end Rows
end Go.Proofs.Ytobikknjaomalaa
