/-
  DERIVED. GIVEN WITH THE SEED: THE CARDS: each row of YtnljiedichjagaaDoorRows.lean that lists a variable, with what it lists TIED to the program's text (the seventh form; the later family's looks); each row that meets fmt, with fmt's text TOLD by the authors' own Lean function (tested against real Go, not proved from fmt's source: count such statements apart). THE CARD IS WHAT COUNTS. Prove the row's statement (the work); the ties are given (YtnljiedichjagaaDoorTie.lean); close each card by the builder's one call (the guide's Derived/Test/ToyasCard.lean, 'card_holds'). Laid BY PROGRAM, IN A SANDBOX (cutbox-door.mjs). By AI agents, Wed Nov 11 2026. No macro, syntax, notation, axiom, sorry.
-/
import Derived.Test.YtnljiedichjagaaDoorRows
import GoSem.ClaimSeven
namespace Go.Proofs.YtnljiedichjagaaDoor
namespace Rows

/-- THE TIED CARD OF 'partlaw.SameSays'. -/
def sameSaysCard : Claim7 := { stood := { row := sameSaysRow, standIns := [], harness := (true, "3ae7615ba328edad7a5a5d777614a9b8bed4e7b3b6f1a72a083f570e8c459620"), looks := true }, kinds := [], alts := [], laidByText := true, laidKinds := [.data, .data, .data, .data, .sentinel, .sentinel, .pinned], laidTests := true, laidLooks := .later }
def SameSaysCardSaid : Prop := Claim7.holds Tryd.pinned (.plain (OpenSpec.ofChange sameSaysSpec)) sameSaysCard

/-- THE SECOND FORM's CARD OF 'partlaw.SameSays'. -/
def sameSaysUptoCard : Claim7 := { stood := { row := sameSaysUptoRow, standIns := [], harness := (true, "3ae7615ba328edad7a5a5d777614a9b8bed4e7b3b6f1a72a083f570e8c459620"), looks := true }, kinds := [], alts := [], laidByText := true, laidKinds := [.data, .data, .data, .data, .sentinel, .sentinel, .pinned], laidTests := true, laidLooks := .later }
def SameSaysUptoCardSaid : Prop := Claim7.holds Tryd.pinned (.plain (OpenSpec.upto sameSaysSpec)) sameSaysUptoCard
end Rows
end Go.Proofs.YtnljiedichjagaaDoor
