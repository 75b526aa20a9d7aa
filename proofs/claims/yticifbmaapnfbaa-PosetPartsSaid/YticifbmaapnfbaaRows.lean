/-
  No cell of these rows narrows 'for every input' (looked for: loops, veiled, ifaces, maps, wideKeys, modest, calm, conditions, laid).
  DERIVED. THE GIVEN ROWS OF THIS SEAT. 6 by the template 'for every input the law returns true; each argument reads behind the call as it read before'; 0 by the template 'total and deterministic' (their statements: YticifbmaapnfbaaTotals.lean).
  GIVEN WITH THE SEED: the statements are not yours to turn. If you find one false, say at which input.
  Laid BY PROGRAM, IN A SANDBOX (cutbox-rows.mjs): the forced cells as the released guide's own fill.sh prints them over the translation 76556e776159271f… (all of the seat's roots in one cut). By AI agents, Wed Nov 11 2026. No macro, syntax, notation, axiom, sorry.
-/
import Derived.Test.YticifbmaapnfbaaChecked
import GoSem.Claim
import GoSem.ClaimJoined
import GoSem.ClaimMapViews
import Derived.JoinedTies
import Derived.KernelRfl
namespace Go.Proofs.Yticifbmaapnfbaa
/- THE CELL 'sum', in the pinned program and in every row, IS THE sha256 OF THE DUMP (.gsa) THAT YticifbmaapnfbaaProg.lean LOADS. Nothing in Lean hashes anything: it is a label: what it is worth is what the hold of that sum in a sandbox is worth. -/
noncomputable def Try.pinned : Pinned := { name := "yticifbmaapnfbaa", sum := "76556e776159271f2291af38f67c116b127d03146fd82ebcce9cd5442dfbaed0", checked := Try.checked }
namespace Rows
def none {H : Type} : Left H := { results := [], args := [] }

/-- 'partlaw.LatDowns': WHATEVER THE INPUT: true; the input reads as it did. -/
def latDownsSpec : ChangeSpec := { name := "latDowns", fn := fun _ => fun
  | [d] => { results := [.lit (.bool true)], args := [d] }
  | _ => none }
def latDownsRow : OpenClaim := { program := "yticifbmaapnfbaa", sum := "76556e776159271f2291af38f67c116b127d03146fd82ebcce9cd5442dfbaed0", func := "partsong/partlaw.LatDowns", spec := "latDowns", unfollowed := true, recurses := true, apart := false }
def LatDownsSaid : Prop := latDownsRow.holds Try.pinned (OpenSpec.ofChange latDownsSpec)

/-- ITS FALSE NEIGHBOUR: 'it returns false'. Refute it at one input. -/
def latDownsWrong : ChangeSpec := { name := "latDowns", fn := fun _ => fun
  | [d] => { results := [.lit (.bool false)], args := [d] }
  | _ => none }
def LatDownsWrongFalsely : Prop := latDownsRow.holds Try.pinned (OpenSpec.ofChange latDownsWrong)

/-- 'partlaw.LatMaps': WHATEVER THE INPUT: true; the input reads as it did. -/
def latMapsSpec : ChangeSpec := { name := "latMaps", fn := fun _ => fun
  | [d1, d2] => { results := [.lit (.bool true)], args := [d1, d2] }
  | _ => none }
def latMapsRow : OpenClaim := { program := "yticifbmaapnfbaa", sum := "76556e776159271f2291af38f67c116b127d03146fd82ebcce9cd5442dfbaed0", func := "partsong/partlaw.LatMaps", spec := "latMaps", unfollowed := true, recurses := true, apart := false }
def LatMapsSaid : Prop := latMapsRow.holds Try.pinned (OpenSpec.ofChange latMapsSpec)

/-- ITS FALSE NEIGHBOUR: 'it returns false'. Refute it at one input. -/
def latMapsWrong : ChangeSpec := { name := "latMaps", fn := fun _ => fun
  | [d1, d2] => { results := [.lit (.bool false)], args := [d1, d2] }
  | _ => none }
def LatMapsWrongFalsely : Prop := latMapsRow.holds Try.pinned (OpenSpec.ofChange latMapsWrong)

/-- 'partlaw.LatSays': WHATEVER THE INPUT: true; the input reads as it did. -/
def latSaysSpec : ChangeSpec := { name := "latSays", fn := fun _ => fun
  | [d1, d2, d3] => { results := [.lit (.bool true)], args := [d1, d2, d3] }
  | _ => none }
def latSaysRow : OpenClaim := { program := "yticifbmaapnfbaa", sum := "76556e776159271f2291af38f67c116b127d03146fd82ebcce9cd5442dfbaed0", func := "partsong/partlaw.LatSays", spec := "latSays", apart := false }
def LatSaysSaid : Prop := latSaysRow.holds Try.pinned (OpenSpec.ofChange latSaysSpec)

/-- ITS FALSE NEIGHBOUR: 'it returns false'. Refute it at one input. -/
def latSaysWrong : ChangeSpec := { name := "latSays", fn := fun _ => fun
  | [d1, d2, d3] => { results := [.lit (.bool false)], args := [d1, d2, d3] }
  | _ => none }
def LatSaysWrongFalsely : Prop := latSaysRow.holds Try.pinned (OpenSpec.ofChange latSaysWrong)

/-- 'partlaw.PosetSays': WHATEVER THE INPUT: true; the input reads as it did. -/
def posetSaysSpec : ChangeSpec := { name := "posetSays", fn := fun _ => fun
  | [d] => { results := [.lit (.bool true)], args := [d] }
  | _ => none }
def posetSaysRow : OpenClaim := { program := "yticifbmaapnfbaa", sum := "76556e776159271f2291af38f67c116b127d03146fd82ebcce9cd5442dfbaed0", func := "partsong/partlaw.PosetSays", spec := "posetSays", unfollowed := true, recurses := true, apart := false }
def PosetSaysSaid : Prop := posetSaysRow.holds Try.pinned (OpenSpec.ofChange posetSaysSpec)

/-- ITS FALSE NEIGHBOUR: 'it returns false'. Refute it at one input. -/
def posetSaysWrong : ChangeSpec := { name := "posetSays", fn := fun _ => fun
  | [d] => { results := [.lit (.bool false)], args := [d] }
  | _ => none }
def PosetSaysWrongFalsely : Prop := posetSaysRow.holds Try.pinned (OpenSpec.ofChange posetSaysWrong)

/-- 'partlaw.MatchSays': WHATEVER THE INPUT: true; the input reads as it did. -/
def matchSaysSpec : ChangeSpec := { name := "matchSays", fn := fun _ => fun
  | [d1, d2, d3] => { results := [.lit (.bool true)], args := [d1, d2, d3] }
  | _ => none }
def matchSaysRow : OpenClaim := { program := "yticifbmaapnfbaa", sum := "76556e776159271f2291af38f67c116b127d03146fd82ebcce9cd5442dfbaed0", func := "partsong/partlaw.MatchSays", spec := "matchSays", unfollowed := true, recurses := true, apart := false }
def MatchSaysSaid : Prop := matchSaysRow.holds Try.pinned (OpenSpec.ofChange matchSaysSpec)

/-- ITS FALSE NEIGHBOUR: 'it returns false'. Refute it at one input. -/
def matchSaysWrong : ChangeSpec := { name := "matchSays", fn := fun _ => fun
  | [d1, d2, d3] => { results := [.lit (.bool false)], args := [d1, d2, d3] }
  | _ => none }
def MatchSaysWrongFalsely : Prop := matchSaysRow.holds Try.pinned (OpenSpec.ofChange matchSaysWrong)

/-- 'partlaw.PosetParts': WHATEVER THE INPUT: true; the input reads as it did. -/
def posetPartsSpec : ChangeSpec := { name := "posetParts", fn := fun _ => fun
  | [d] => { results := [.lit (.bool true)], args := [d] }
  | _ => none }
def posetPartsRow : OpenClaim := { program := "yticifbmaapnfbaa", sum := "76556e776159271f2291af38f67c116b127d03146fd82ebcce9cd5442dfbaed0", func := "partsong/partlaw.PosetParts", spec := "posetParts", unfollowed := true, recurses := true, apart := false }
def PosetPartsSaid : Prop := posetPartsRow.holds Try.pinned (OpenSpec.ofChange posetPartsSpec)

/-- ITS FALSE NEIGHBOUR: 'it returns false'. Refute it at one input. -/
def posetPartsWrong : ChangeSpec := { name := "posetParts", fn := fun _ => fun
  | [d] => { results := [.lit (.bool false)], args := [d] }
  | _ => none }
def PosetPartsWrongFalsely : Prop := posetPartsRow.holds Try.pinned (OpenSpec.ofChange posetPartsWrong)

/- THE SECOND FORM. 'bulk': how many values and letters a reading holds, each counted each time it is reached (what is shared counts as often as it is met; a slice's spare places count too). A statement '..UptoSaid' is the law's where the arguments, and the package variables that the reading takes, are together of bulk at most 1048576: NARROWER than '..Said'. Prove '..Said' where nothing that the law and all that it calls make is longer than what came in: it says more and counts as full. Else prove '..UptoSaid'. A law counts once. -/
mutual
def uptoBulk {H : Type} : DataW H → Nat
  | .lit (.string bytes) => bytes.length + 1
  | .lit _ => 1
  | .nil => 1
  | .ptr d => uptoBulk d + 1
  | .slice elems spare => uptoBulkAll elems + uptoBulkAll spare + 1
  | .agg parts => uptoBulkAll parts + 1
  | .iface _ d => uptoBulk d + 1
  | .map entries => uptoBulkEntries entries + 1
  | .held _ => 1
def uptoBulkAll {H : Type} : List (DataW H) → Nat
  | [] => 0
  | d :: r => uptoBulk d + uptoBulkAll r
def uptoBulkEntries {H : Type} : List (Lit × DataW H) → Nat
  | [] => 0
  | x :: r => uptoBulkEntry x + uptoBulkEntries r
def uptoBulkEntry {H : Type} : Lit × DataW H → Nat
  | (.string bytes, d) => bytes.length + uptoBulk d + 1
  | (_, d) => uptoBulk d + 1
 end
def uptoSmall : (H : Type) → List (DataW H) → Bool := fun _ ds => decide (uptoBulkAll ds ≤ 1048576)
def OpenSpec.upto (s : _root_.Go.ChangeSpec) : _root_.Go.OpenSpec := { _root_.Go.OpenSpec.ofChange s with cond := some uptoSmall }

/-- 'partlaw.LatDowns', WHERE WHAT IT READS IS OF BULK AT MOST 1048576: true; the input reads as it did. -/
def latDownsUptoRow : OpenClaim := { program := "yticifbmaapnfbaa", sum := "76556e776159271f2291af38f67c116b127d03146fd82ebcce9cd5442dfbaed0", func := "partsong/partlaw.LatDowns", spec := "latDowns", unfollowed := true, recurses := true, apart := false, narrowed := true }
def LatDownsUptoSaid : Prop := latDownsUptoRow.holds Try.pinned (OpenSpec.upto latDownsSpec)

/-- 'partlaw.LatMaps', WHERE WHAT IT READS IS OF BULK AT MOST 1048576: true; the input reads as it did. -/
def latMapsUptoRow : OpenClaim := { program := "yticifbmaapnfbaa", sum := "76556e776159271f2291af38f67c116b127d03146fd82ebcce9cd5442dfbaed0", func := "partsong/partlaw.LatMaps", spec := "latMaps", unfollowed := true, recurses := true, apart := false, narrowed := true }
def LatMapsUptoSaid : Prop := latMapsUptoRow.holds Try.pinned (OpenSpec.upto latMapsSpec)

/-- 'partlaw.LatSays', WHERE WHAT IT READS IS OF BULK AT MOST 1048576: true; the input reads as it did. -/
def latSaysUptoRow : OpenClaim := { program := "yticifbmaapnfbaa", sum := "76556e776159271f2291af38f67c116b127d03146fd82ebcce9cd5442dfbaed0", func := "partsong/partlaw.LatSays", spec := "latSays", apart := false, narrowed := true }
def LatSaysUptoSaid : Prop := latSaysUptoRow.holds Try.pinned (OpenSpec.upto latSaysSpec)

/-- 'partlaw.PosetSays', WHERE WHAT IT READS IS OF BULK AT MOST 1048576: true; the input reads as it did. -/
def posetSaysUptoRow : OpenClaim := { program := "yticifbmaapnfbaa", sum := "76556e776159271f2291af38f67c116b127d03146fd82ebcce9cd5442dfbaed0", func := "partsong/partlaw.PosetSays", spec := "posetSays", unfollowed := true, recurses := true, apart := false, narrowed := true }
def PosetSaysUptoSaid : Prop := posetSaysUptoRow.holds Try.pinned (OpenSpec.upto posetSaysSpec)

/-- 'partlaw.MatchSays', WHERE WHAT IT READS IS OF BULK AT MOST 1048576: true; the input reads as it did. -/
def matchSaysUptoRow : OpenClaim := { program := "yticifbmaapnfbaa", sum := "76556e776159271f2291af38f67c116b127d03146fd82ebcce9cd5442dfbaed0", func := "partsong/partlaw.MatchSays", spec := "matchSays", unfollowed := true, recurses := true, apart := false, narrowed := true }
def MatchSaysUptoSaid : Prop := matchSaysUptoRow.holds Try.pinned (OpenSpec.upto matchSaysSpec)

/-- 'partlaw.PosetParts', WHERE WHAT IT READS IS OF BULK AT MOST 1048576: true; the input reads as it did. -/
def posetPartsUptoRow : OpenClaim := { program := "yticifbmaapnfbaa", sum := "76556e776159271f2291af38f67c116b127d03146fd82ebcce9cd5442dfbaed0", func := "partsong/partlaw.PosetParts", spec := "posetParts", unfollowed := true, recurses := true, apart := false, narrowed := true }
def PosetPartsUptoSaid : Prop := posetPartsUptoRow.holds Try.pinned (OpenSpec.upto posetPartsSpec)

end Rows
end Go.Proofs.Yticifbmaapnfbaa
