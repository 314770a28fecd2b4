/-
  DERIVED. GIVEN WITH THE SEED: THE CARDS: each row of YtlmlgkplpaaepaaDoorRows.lean that lists a variable, with what it lists TIED to the program's text (the seventh form; the later family's looks); each row that meets fmt, with fmt's text TOLD by the authors' own Lean function (tested against real Go, not proved from fmt's source: count such statements apart). THE CARD IS WHAT COUNTS. Prove the row's statement (the work); the ties are given (YtlmlgkplpaaepaaDoorTie.lean); close each card by the builder's one call (the guide's Derived/Test/ToyasCard.lean, 'card_holds'). Laid BY PROGRAM, IN A SANDBOX (cutbox-door.mjs). By AI agents, Wed Nov 11 2026. No macro, syntax, notation, axiom, sorry.
-/
import Derived.Test.YtlmlgkplpaaepaaDoorRows
import GoSem.ClaimSeven
namespace Go.Proofs.YtlmlgkplpaaepaaDoor
namespace Rows

/-- THE TIED CARD OF 'tallymankeep.LedgerBack'. -/
def ledgerBackCard : Claim7 := { stood := { row := ledgerBackRow, standIns := [], harness := (true, "dcfb6fa8e8a02fc71b4186f5fb3f46e678359a7c64e5040c981c955859b844c2"), looks := true }, kinds := [], alts := [], laidByText := true, laidKinds := [.data, .widerDeep, .pinned], laidTests := true, laidLooks := .later }
def LedgerBackCardSaid : Prop := Claim7.holds Tryd.pinned (.plain (OpenSpec.ofChange ledgerBackSpec)) ledgerBackCard

/-- THE TIED CARD OF 'tallymankeep.DayBack'. -/
def dayBackCard : Claim7 := { stood := { row := dayBackRow, standIns := [], harness := (true, "dcfb6fa8e8a02fc71b4186f5fb3f46e678359a7c64e5040c981c955859b844c2"), looks := true }, kinds := [], alts := [], laidByText := true, laidKinds := [.data, .data, .data, .sentinel, .sentinel, .data], laidTests := true, laidLooks := .later }
def DayBackCardSaid : Prop := Claim7.holds Tryd.pinned (.plain (OpenSpec.ofChange dayBackSpec)) dayBackCard

/-- THE TIED CARD OF 'tallymankeep.DayMonths'. -/
def dayMonthsCard : Claim7 := { stood := { row := dayMonthsRow, standIns := [], harness := (true, "dcfb6fa8e8a02fc71b4186f5fb3f46e678359a7c64e5040c981c955859b844c2"), looks := true }, kinds := [], alts := [], laidByText := true, laidKinds := [.data, .data, .data, .sentinel, .sentinel, .data], laidTests := true, laidLooks := .later }
def DayMonthsCardSaid : Prop := Claim7.holds Tryd.pinned (.plain (OpenSpec.ofChange dayMonthsSpec)) dayMonthsCard

/-- THE TIED CARD OF 'tallymankeep.CostEmpties'. -/
def costEmptiesCard : Claim7 := { stood := { row := costEmptiesRow, standIns := [], harness := (true, "dcfb6fa8e8a02fc71b4186f5fb3f46e678359a7c64e5040c981c955859b844c2"), looks := true }, kinds := [], alts := [], laidByText := true, laidKinds := [.data, .pinned], laidTests := true, laidLooks := .later }
def CostEmptiesCardSaid : Prop := Claim7.holds Tryd.pinned (.plain (OpenSpec.ofChange costEmptiesSpec)) costEmptiesCard

/-- THE TIED CARD OF 'tallymankeep.CostConserves'. -/
def costConservesCard : Claim7 := { stood := { row := costConservesRow, standIns := [], harness := (true, "dcfb6fa8e8a02fc71b4186f5fb3f46e678359a7c64e5040c981c955859b844c2"), looks := true }, kinds := [], alts := [], laidByText := true, laidKinds := [.data, .pinned], laidTests := true, laidLooks := .later }
def CostConservesCardSaid : Prop := Claim7.holds Tryd.pinned (.plain (OpenSpec.ofChange costConservesSpec)) costConservesCard

/-- THE SECOND FORM's CARD OF 'tallymankeep.LedgerBack'. -/
def ledgerBackUptoCard : Claim7 := { stood := { row := ledgerBackUptoRow, standIns := [], harness := (true, "dcfb6fa8e8a02fc71b4186f5fb3f46e678359a7c64e5040c981c955859b844c2"), looks := true }, kinds := [], alts := [], laidByText := true, laidKinds := [.data, .widerDeep, .pinned], laidTests := true, laidLooks := .later }
def LedgerBackUptoCardSaid : Prop := Claim7.holds Tryd.pinned (.plain (OpenSpec.upto ledgerBackSpec)) ledgerBackUptoCard

/-- THE SECOND FORM's CARD OF 'tallymankeep.DayBack'. -/
def dayBackUptoCard : Claim7 := { stood := { row := dayBackUptoRow, standIns := [], harness := (true, "dcfb6fa8e8a02fc71b4186f5fb3f46e678359a7c64e5040c981c955859b844c2"), looks := true }, kinds := [], alts := [], laidByText := true, laidKinds := [.data, .data, .data, .sentinel, .sentinel, .data], laidTests := true, laidLooks := .later }
def DayBackUptoCardSaid : Prop := Claim7.holds Tryd.pinned (.plain (OpenSpec.upto dayBackSpec)) dayBackUptoCard

/-- THE SECOND FORM's CARD OF 'tallymankeep.DayMonths'. -/
def dayMonthsUptoCard : Claim7 := { stood := { row := dayMonthsUptoRow, standIns := [], harness := (true, "dcfb6fa8e8a02fc71b4186f5fb3f46e678359a7c64e5040c981c955859b844c2"), looks := true }, kinds := [], alts := [], laidByText := true, laidKinds := [.data, .data, .data, .sentinel, .sentinel, .data], laidTests := true, laidLooks := .later }
def DayMonthsUptoCardSaid : Prop := Claim7.holds Tryd.pinned (.plain (OpenSpec.upto dayMonthsSpec)) dayMonthsUptoCard

/-- THE SECOND FORM's CARD OF 'tallymankeep.CostEmpties'. -/
def costEmptiesUptoCard : Claim7 := { stood := { row := costEmptiesUptoRow, standIns := [], harness := (true, "dcfb6fa8e8a02fc71b4186f5fb3f46e678359a7c64e5040c981c955859b844c2"), looks := true }, kinds := [], alts := [], laidByText := true, laidKinds := [.data, .pinned], laidTests := true, laidLooks := .later }
def CostEmptiesUptoCardSaid : Prop := Claim7.holds Tryd.pinned (.plain (OpenSpec.upto costEmptiesSpec)) costEmptiesUptoCard

/-- THE SECOND FORM's CARD OF 'tallymankeep.CostConserves'. -/
def costConservesUptoCard : Claim7 := { stood := { row := costConservesUptoRow, standIns := [], harness := (true, "dcfb6fa8e8a02fc71b4186f5fb3f46e678359a7c64e5040c981c955859b844c2"), looks := true }, kinds := [], alts := [], laidByText := true, laidKinds := [.data, .pinned], laidTests := true, laidLooks := .later }
def CostConservesUptoCardSaid : Prop := Claim7.holds Tryd.pinned (.plain (OpenSpec.upto costConservesSpec)) costConservesUptoCard
end Rows
end Go.Proofs.YtlmlgkplpaaepaaDoor
