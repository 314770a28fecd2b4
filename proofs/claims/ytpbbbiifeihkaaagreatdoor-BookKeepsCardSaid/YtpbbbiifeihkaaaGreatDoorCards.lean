/-
  DERIVED. GIVEN WITH THE SEED: THE CARDS: each row of YtpbbbiifeihkaaaGreatDoorRows.lean that lists a variable, with what it lists TIED to the program's text (the seventh form; the later family's looks); each row that meets fmt, with fmt's text TOLD by the authors' own Lean function (tested against real Go, not proved from fmt's source: count such statements apart). THE CARD IS WHAT COUNTS. Prove the row's statement (the work); the ties are given (YtpbbbiifeihkaaaGreatDoorTie.lean); close each card by the builder's one call (the guide's Derived/Test/ToyasCard.lean, 'card_holds'). Laid BY PROGRAM, IN A SANDBOX (cutbox-door.mjs). By AI agents, Wed Nov 11 2026. No macro, syntax, notation, axiom, sorry.
-/
import Derived.Test.YtpbbbiifeihkaaaGreatDoorRows
import GoSem.ClaimSeven
namespace Go.Proofs.YtpbbbiifeihkaaaGreatDoor
namespace Rows

/-- THE TIED CARD OF 'tallymanlaw.CostRuns'. -/
def costRunsCard : Claim7 := { stood := { row := costRunsRow, standIns := [], harness := (true, "f31b49cbb3957cc1b2490cb057b7545a49d556642b1030dff0045cd842e0349d"), looks := true }, kinds := [], alts := [], laidByText := true, laidKinds := [.data, .data, .data, .data, .pinned], laidTests := true, laidLooks := .later }
def CostRunsCardSaid : Prop := Claim7.holds Tryz.pinned (.plain (OpenSpec.ofChange costRunsSpec)) costRunsCard

/-- THE TIED CARD OF 'tallymanlaw.BookKeeps'. -/
def bookKeepsCard : Claim7 := { stood := { row := bookKeepsRow, standIns := [], harness := (true, "f31b49cbb3957cc1b2490cb057b7545a49d556642b1030dff0045cd842e0349d"), looks := true }, kinds := [], alts := [], laidByText := true, laidKinds := [.data, .handle, .pinned], laidTests := true, laidLooks := .later }
def BookKeepsCardSaid : Prop := Claim7.holds Tryz.pinned (.plain (OpenSpec.ofChange bookKeepsSpec)) bookKeepsCard

/-- THE TIED CARD OF 'tallymankeep.ReportDiffs'. -/
def reportDiffsCard : Claim7 := { stood := { row := reportDiffsRow, standIns := [], harness := (true, "f31b49cbb3957cc1b2490cb057b7545a49d556642b1030dff0045cd842e0349d"), looks := true }, kinds := [], alts := [], laidByText := true, laidKinds := [.data, .pinned], laidTests := true, laidLooks := .later }
def ReportDiffsCardSaid : Prop := Claim7.holds Tryz.pinned (.plain (OpenSpec.ofChange reportDiffsSpec)) reportDiffsCard

/-- THE TIED CARD OF 'tallymankeep.ReportMoves'. -/
def reportMovesCard : Claim7 := { stood := { row := reportMovesRow, standIns := [], harness := (true, "f31b49cbb3957cc1b2490cb057b7545a49d556642b1030dff0045cd842e0349d"), looks := true }, kinds := [], alts := [], laidByText := true, laidKinds := [.data, .pinned], laidTests := true, laidLooks := .later }
def ReportMovesCardSaid : Prop := Claim7.holds Tryz.pinned (.plain (OpenSpec.ofChange reportMovesSpec)) reportMovesCard

/-- THE SECOND FORM's CARD OF 'tallymanlaw.CostRuns'. -/
def costRunsUptoCard : Claim7 := { stood := { row := costRunsUptoRow, standIns := [], harness := (true, "f31b49cbb3957cc1b2490cb057b7545a49d556642b1030dff0045cd842e0349d"), looks := true }, kinds := [], alts := [], laidByText := true, laidKinds := [.data, .data, .data, .data, .pinned], laidTests := true, laidLooks := .later }
def CostRunsUptoCardSaid : Prop := Claim7.holds Tryz.pinned (.plain (OpenSpec.upto costRunsSpec)) costRunsUptoCard

/-- THE SECOND FORM's CARD OF 'tallymanlaw.BookKeeps'. -/
def bookKeepsUptoCard : Claim7 := { stood := { row := bookKeepsUptoRow, standIns := [], harness := (true, "f31b49cbb3957cc1b2490cb057b7545a49d556642b1030dff0045cd842e0349d"), looks := true }, kinds := [], alts := [], laidByText := true, laidKinds := [.data, .handle, .pinned], laidTests := true, laidLooks := .later }
def BookKeepsUptoCardSaid : Prop := Claim7.holds Tryz.pinned (.plain (OpenSpec.upto bookKeepsSpec)) bookKeepsUptoCard

/-- THE SECOND FORM's CARD OF 'tallymankeep.ReportDiffs'. -/
def reportDiffsUptoCard : Claim7 := { stood := { row := reportDiffsUptoRow, standIns := [], harness := (true, "f31b49cbb3957cc1b2490cb057b7545a49d556642b1030dff0045cd842e0349d"), looks := true }, kinds := [], alts := [], laidByText := true, laidKinds := [.data, .pinned], laidTests := true, laidLooks := .later }
def ReportDiffsUptoCardSaid : Prop := Claim7.holds Tryz.pinned (.plain (OpenSpec.upto reportDiffsSpec)) reportDiffsUptoCard

/-- THE SECOND FORM's CARD OF 'tallymankeep.ReportMoves'. -/
def reportMovesUptoCard : Claim7 := { stood := { row := reportMovesUptoRow, standIns := [], harness := (true, "f31b49cbb3957cc1b2490cb057b7545a49d556642b1030dff0045cd842e0349d"), looks := true }, kinds := [], alts := [], laidByText := true, laidKinds := [.data, .pinned], laidTests := true, laidLooks := .later }
def ReportMovesUptoCardSaid : Prop := Claim7.holds Tryz.pinned (.plain (OpenSpec.upto reportMovesSpec)) reportMovesUptoCard
end Rows
end Go.Proofs.YtpbbbiifeihkaaaGreatDoor
