/-
  DERIVED. GIVEN WITH THE SEED: THE CARDS: each row of YtklkkoelldkncaaGreatDoorRows.lean that lists a variable, with what it lists TIED to the program's text (the seventh form; the later family's looks); each row that meets fmt, with fmt's text TOLD by the authors' own Lean function (tested against real Go, not proved from fmt's source: count such statements apart). THE CARD IS WHAT COUNTS. Prove the row's statement (the work); the ties are given (YtklkkoelldkncaaGreatDoorTie.lean); close each card by the builder's one call (the guide's Derived/Test/ToyasCard.lean, 'card_holds'). Laid BY PROGRAM, IN A SANDBOX (cutbox-door.mjs). By AI agents, Wed Nov 11 2026. No macro, syntax, notation, axiom, sorry.
-/
import Derived.Test.YtklkkoelldkncaaGreatDoorRows
import GoSem.ClaimSeven
namespace Go.Proofs.YtklkkoelldkncaaGreatDoor
namespace Rows

/-- THE TIED CARD OF 'partlaw.ManyRuns'. -/
def manyRunsCard : Claim7 := { stood := { row := manyRunsRow, standIns := [], harness := (true, "a9de40bb054224e2e0e885ee4f83b0a17537c80097224f1088754afab29a0a94"), looks := true }, kinds := [], alts := [], goes := true, laidByText := true, laidKinds := [.data, .data, .data, .data, .sentinel, .sentinel, .pinned], laidTests := true, laidLooks := .later }
def ManyRunsCardSaid : Prop := Claim7.holds Tryz.pinned (.plain (OpenSpec.ofChange manyRunsSpec)) manyRunsCard

/-- THE SECOND FORM's CARD OF 'partlaw.ManyRuns'. -/
def manyRunsUptoCard : Claim7 := { stood := { row := manyRunsUptoRow, standIns := [], harness := (true, "a9de40bb054224e2e0e885ee4f83b0a17537c80097224f1088754afab29a0a94"), looks := true }, kinds := [], alts := [], goes := true, laidByText := true, laidKinds := [.data, .data, .data, .data, .sentinel, .sentinel, .pinned], laidTests := true, laidLooks := .later }
def ManyRunsUptoCardSaid : Prop := Claim7.holds Tryz.pinned (.plain (OpenSpec.upto manyRunsSpec)) manyRunsUptoCard
end Rows
end Go.Proofs.YtklkkoelldkncaaGreatDoor
