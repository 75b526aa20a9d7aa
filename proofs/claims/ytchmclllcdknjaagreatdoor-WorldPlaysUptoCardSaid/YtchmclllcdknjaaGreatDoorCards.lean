/-
  DERIVED. GIVEN WITH THE SEED: THE CARDS: each row of YtchmclllcdknjaaGreatDoorRows.lean that lists a variable, with what it lists TIED to the program's text (the seventh form; the later family's looks); each row that meets fmt, with fmt's text TOLD by the authors' own Lean function (tested against real Go, not proved from fmt's source: count such statements apart). THE CARD IS WHAT COUNTS. Prove the row's statement (the work); the ties are given (YtchmclllcdknjaaGreatDoorTie.lean); close each card by the builder's one call (the guide's Derived/Test/ToyasCard.lean, 'card_holds'). Laid BY PROGRAM, IN A SANDBOX (cutbox-door.mjs). By AI agents, Wed Nov 11 2026. No macro, syntax, notation, axiom, sorry.
-/
import Derived.Test.YtchmclllcdknjaaGreatDoorRows
import GoSem.ClaimSeven
namespace Go.Proofs.YtchmclllcdknjaaGreatDoor
namespace Rows

/-- THE TIED CARD OF 'partlaw.WorldPlays'. -/
def worldPlaysCard : Claim7 := { stood := { row := worldPlaysRow, standIns := [], harness := (true, "20f89e7b44bf84b93d44b3f57d6109a6294b6a8621141c9dee712e1fdcc831c6"), looks := true }, kinds := [], alts := [], goes := true, laidByText := true, laidKinds := [.data, .data, .data, .data, .sentinel, .sentinel, .pinned], laidTests := true, laidLooks := .later }
def WorldPlaysCardSaid : Prop := Claim7.holds Tryz.pinned (.plain (OpenSpec.ofChange worldPlaysSpec)) worldPlaysCard

/-- THE TIED CARD OF 'partlaw.ManyRuns'. -/
def manyRunsCard : Claim7 := { stood := { row := manyRunsRow, standIns := [], harness := (true, "20f89e7b44bf84b93d44b3f57d6109a6294b6a8621141c9dee712e1fdcc831c6"), looks := true }, kinds := [], alts := [], goes := true, laidByText := true, laidKinds := [.data, .data, .data, .data, .sentinel, .sentinel, .pinned], laidTests := true, laidLooks := .later }
def ManyRunsCardSaid : Prop := Claim7.holds Tryz.pinned (.plain (OpenSpec.ofChange manyRunsSpec)) manyRunsCard

/-- THE TIED CARD OF 'partlaw.DeskSays'. -/
def deskSaysCard : Claim7 := { stood := { row := deskSaysRow, standIns := [], harness := (true, "20f89e7b44bf84b93d44b3f57d6109a6294b6a8621141c9dee712e1fdcc831c6"), looks := true }, kinds := [], alts := [], goes := true, laidByText := true, laidKinds := [.data, .data, .data, .data, .sentinel, .sentinel, .pinned], laidTests := true, laidLooks := .later }
def DeskSaysCardSaid : Prop := Claim7.holds Tryz.pinned (.plain (OpenSpec.ofChange deskSaysSpec)) deskSaysCard

/-- THE TIED CARD OF 'parttop.TopVoice'. -/
def topVoiceCard : Claim7 := { stood := { row := topVoiceRow, standIns := [], harness := (true, "20f89e7b44bf84b93d44b3f57d6109a6294b6a8621141c9dee712e1fdcc831c6"), looks := true }, kinds := [], alts := [], goes := true, laidByText := true, laidKinds := [.data, .data, .data, .data, .sentinel, .sentinel, .pinned], laidTests := true, laidLooks := .later }
def TopVoiceCardSaid : Prop := Claim7.holds Tryz.pinned (.plain (OpenSpec.ofChange topVoiceSpec)) topVoiceCard

/-- THE TIED CARD OF 'parttop.TopReplay'. -/
def topReplayCard : Claim7 := { stood := { row := topReplayRow, standIns := [], harness := (true, "20f89e7b44bf84b93d44b3f57d6109a6294b6a8621141c9dee712e1fdcc831c6"), looks := true }, kinds := [], alts := [], goes := true, laidByText := true, laidKinds := [.data, .data, .data, .data, .sentinel, .sentinel, .pinned], laidTests := true, laidLooks := .later }
def TopReplayCardSaid : Prop := Claim7.holds Tryz.pinned (.plain (OpenSpec.ofChange topReplaySpec)) topReplayCard

/-- THE TIED CARD OF 'parttop.TopNoise'. -/
def topNoiseCard : Claim7 := { stood := { row := topNoiseRow, standIns := [], harness := (true, "20f89e7b44bf84b93d44b3f57d6109a6294b6a8621141c9dee712e1fdcc831c6"), looks := true }, kinds := [], alts := [], goes := true, laidByText := true, laidKinds := [.data, .data, .data, .data, .sentinel, .sentinel, .pinned], laidTests := true, laidLooks := .later }
def TopNoiseCardSaid : Prop := Claim7.holds Tryz.pinned (.plain (OpenSpec.ofChange topNoiseSpec)) topNoiseCard

/-- THE SECOND FORM's CARD OF 'partlaw.WorldPlays'. -/
def worldPlaysUptoCard : Claim7 := { stood := { row := worldPlaysUptoRow, standIns := [], harness := (true, "20f89e7b44bf84b93d44b3f57d6109a6294b6a8621141c9dee712e1fdcc831c6"), looks := true }, kinds := [], alts := [], goes := true, laidByText := true, laidKinds := [.data, .data, .data, .data, .sentinel, .sentinel, .pinned], laidTests := true, laidLooks := .later }
def WorldPlaysUptoCardSaid : Prop := Claim7.holds Tryz.pinned (.plain (OpenSpec.upto worldPlaysSpec)) worldPlaysUptoCard

/-- THE SECOND FORM's CARD OF 'partlaw.ManyRuns'. -/
def manyRunsUptoCard : Claim7 := { stood := { row := manyRunsUptoRow, standIns := [], harness := (true, "20f89e7b44bf84b93d44b3f57d6109a6294b6a8621141c9dee712e1fdcc831c6"), looks := true }, kinds := [], alts := [], goes := true, laidByText := true, laidKinds := [.data, .data, .data, .data, .sentinel, .sentinel, .pinned], laidTests := true, laidLooks := .later }
def ManyRunsUptoCardSaid : Prop := Claim7.holds Tryz.pinned (.plain (OpenSpec.upto manyRunsSpec)) manyRunsUptoCard

/-- THE SECOND FORM's CARD OF 'partlaw.DeskSays'. -/
def deskSaysUptoCard : Claim7 := { stood := { row := deskSaysUptoRow, standIns := [], harness := (true, "20f89e7b44bf84b93d44b3f57d6109a6294b6a8621141c9dee712e1fdcc831c6"), looks := true }, kinds := [], alts := [], goes := true, laidByText := true, laidKinds := [.data, .data, .data, .data, .sentinel, .sentinel, .pinned], laidTests := true, laidLooks := .later }
def DeskSaysUptoCardSaid : Prop := Claim7.holds Tryz.pinned (.plain (OpenSpec.upto deskSaysSpec)) deskSaysUptoCard

/-- THE SECOND FORM's CARD OF 'parttop.TopVoice'. -/
def topVoiceUptoCard : Claim7 := { stood := { row := topVoiceUptoRow, standIns := [], harness := (true, "20f89e7b44bf84b93d44b3f57d6109a6294b6a8621141c9dee712e1fdcc831c6"), looks := true }, kinds := [], alts := [], goes := true, laidByText := true, laidKinds := [.data, .data, .data, .data, .sentinel, .sentinel, .pinned], laidTests := true, laidLooks := .later }
def TopVoiceUptoCardSaid : Prop := Claim7.holds Tryz.pinned (.plain (OpenSpec.upto topVoiceSpec)) topVoiceUptoCard

/-- THE SECOND FORM's CARD OF 'parttop.TopReplay'. -/
def topReplayUptoCard : Claim7 := { stood := { row := topReplayUptoRow, standIns := [], harness := (true, "20f89e7b44bf84b93d44b3f57d6109a6294b6a8621141c9dee712e1fdcc831c6"), looks := true }, kinds := [], alts := [], goes := true, laidByText := true, laidKinds := [.data, .data, .data, .data, .sentinel, .sentinel, .pinned], laidTests := true, laidLooks := .later }
def TopReplayUptoCardSaid : Prop := Claim7.holds Tryz.pinned (.plain (OpenSpec.upto topReplaySpec)) topReplayUptoCard

/-- THE SECOND FORM's CARD OF 'parttop.TopNoise'. -/
def topNoiseUptoCard : Claim7 := { stood := { row := topNoiseUptoRow, standIns := [], harness := (true, "20f89e7b44bf84b93d44b3f57d6109a6294b6a8621141c9dee712e1fdcc831c6"), looks := true }, kinds := [], alts := [], goes := true, laidByText := true, laidKinds := [.data, .data, .data, .data, .sentinel, .sentinel, .pinned], laidTests := true, laidLooks := .later }
def TopNoiseUptoCardSaid : Prop := Claim7.holds Tryz.pinned (.plain (OpenSpec.upto topNoiseSpec)) topNoiseUptoCard
end Rows
end Go.Proofs.YtchmclllcdknjaaGreatDoor
