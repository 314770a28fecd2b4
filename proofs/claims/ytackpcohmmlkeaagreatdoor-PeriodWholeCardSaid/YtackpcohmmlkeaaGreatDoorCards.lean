/-
  DERIVED. GIVEN WITH THE SEED: THE CARDS: each row of YtackpcohmmlkeaaGreatDoorRows.lean that lists a variable, with what it lists TIED to the program's text (the seventh form; the later family's looks); each row that meets fmt, with fmt's text TOLD by the authors' own Lean function (tested against real Go, not proved from fmt's source: count such statements apart). THE CARD IS WHAT COUNTS. Prove the row's statement (the work); the ties are given (YtackpcohmmlkeaaGreatDoorTie.lean); close each card by the builder's one call (the guide's Derived/Test/ToyasCard.lean, 'card_holds'). Laid BY PROGRAM, IN A SANDBOX (cutbox-door.mjs). By AI agents, Wed Nov 11 2026. No macro, syntax, notation, axiom, sorry.
-/
import Derived.Test.YtackpcohmmlkeaaGreatDoorRows
import GoSem.ClaimSeven
namespace Go.Proofs.YtackpcohmmlkeaaGreatDoor
namespace Rows

/-- THE TIED CARD OF 'tallymankeep.PeriodMonths'. -/
def periodMonthsCard : Claim7 := { stood := { row := periodMonthsRow, standIns := [], harness := (true, "db5fa32be0fe96299445060a5f02e1bfb4b90e1b775202d182a28e0e21889f18"), looks := true }, kinds := [], alts := [], laidByText := true, laidKinds := [.data, .handle, .data, .pinned], laidTests := true, laidLooks := .later }
def PeriodMonthsCardSaid : Prop := Claim7.holds Tryz.pinned (.plain (OpenSpec.ofChange periodMonthsSpec)) periodMonthsCard

/-- THE TIED CARD OF 'tallymankeep.PeriodWhole'. -/
def periodWholeCard : Claim7 := { stood := { row := periodWholeRow, standIns := [], harness := (true, "db5fa32be0fe96299445060a5f02e1bfb4b90e1b775202d182a28e0e21889f18"), looks := true }, kinds := [], alts := [], laidByText := true, laidKinds := [.data, .handle, .data, .pinned], laidTests := true, laidLooks := .later }
def PeriodWholeCardSaid : Prop := Claim7.holds Tryz.pinned (.plain (OpenSpec.ofChange periodWholeSpec)) periodWholeCard

/-- THE TIED CARD OF 'tallymankeep.LedgerStock'. -/
def ledgerStockCard : Claim7 := { stood := { row := ledgerStockRow, standIns := [], harness := (true, "db5fa32be0fe96299445060a5f02e1bfb4b90e1b775202d182a28e0e21889f18"), looks := true }, kinds := [], alts := [], laidByText := true, laidKinds := [.data, .data, .pinned], laidTests := true, laidLooks := .later }
def LedgerStockCardSaid : Prop := Claim7.holds Tryz.pinned (.plain (OpenSpec.ofChange ledgerStockSpec)) ledgerStockCard

/-- THE TIED CARD OF 'tallymanlaw.PeriodCloses'. -/
def periodClosesCard : Claim7 := { stood := { row := periodClosesRow, standIns := [], harness := (true, "db5fa32be0fe96299445060a5f02e1bfb4b90e1b775202d182a28e0e21889f18"), looks := true }, kinds := [], alts := [], laidByText := true, laidKinds := [.data, .data, .data, .data, .handle, .data, .pinned], laidTests := true, laidLooks := .later }
def PeriodClosesCardSaid : Prop := Claim7.holds Tryz.pinned (.plain (OpenSpec.ofChange periodClosesSpec)) periodClosesCard

/-- THE SECOND FORM's CARD OF 'tallymankeep.PeriodMonths'. -/
def periodMonthsUptoCard : Claim7 := { stood := { row := periodMonthsUptoRow, standIns := [], harness := (true, "db5fa32be0fe96299445060a5f02e1bfb4b90e1b775202d182a28e0e21889f18"), looks := true }, kinds := [], alts := [], laidByText := true, laidKinds := [.data, .handle, .data, .pinned], laidTests := true, laidLooks := .later }
def PeriodMonthsUptoCardSaid : Prop := Claim7.holds Tryz.pinned (.plain (OpenSpec.upto periodMonthsSpec)) periodMonthsUptoCard

/-- THE SECOND FORM's CARD OF 'tallymankeep.PeriodWhole'. -/
def periodWholeUptoCard : Claim7 := { stood := { row := periodWholeUptoRow, standIns := [], harness := (true, "db5fa32be0fe96299445060a5f02e1bfb4b90e1b775202d182a28e0e21889f18"), looks := true }, kinds := [], alts := [], laidByText := true, laidKinds := [.data, .handle, .data, .pinned], laidTests := true, laidLooks := .later }
def PeriodWholeUptoCardSaid : Prop := Claim7.holds Tryz.pinned (.plain (OpenSpec.upto periodWholeSpec)) periodWholeUptoCard

/-- THE SECOND FORM's CARD OF 'tallymankeep.LedgerStock'. -/
def ledgerStockUptoCard : Claim7 := { stood := { row := ledgerStockUptoRow, standIns := [], harness := (true, "db5fa32be0fe96299445060a5f02e1bfb4b90e1b775202d182a28e0e21889f18"), looks := true }, kinds := [], alts := [], laidByText := true, laidKinds := [.data, .data, .pinned], laidTests := true, laidLooks := .later }
def LedgerStockUptoCardSaid : Prop := Claim7.holds Tryz.pinned (.plain (OpenSpec.upto ledgerStockSpec)) ledgerStockUptoCard

/-- THE SECOND FORM's CARD OF 'tallymanlaw.PeriodCloses'. -/
def periodClosesUptoCard : Claim7 := { stood := { row := periodClosesUptoRow, standIns := [], harness := (true, "db5fa32be0fe96299445060a5f02e1bfb4b90e1b775202d182a28e0e21889f18"), looks := true }, kinds := [], alts := [], laidByText := true, laidKinds := [.data, .data, .data, .data, .handle, .data, .pinned], laidTests := true, laidLooks := .later }
def PeriodClosesUptoCardSaid : Prop := Claim7.holds Tryz.pinned (.plain (OpenSpec.upto periodClosesSpec)) periodClosesUptoCard
end Rows
end Go.Proofs.YtackpcohmmlkeaaGreatDoor
