/-
  DERIVED. GIVEN WITH THE SEED: THE CARDS: each row of YtefbedineniejaaDoorRows.lean that lists a variable, with what it lists TIED to the program's text (the seventh form; the later family's looks); each row that meets fmt, with fmt's text TOLD by the authors' own Lean function (tested against real Go, not proved from fmt's source: count such statements apart). THE CARD IS WHAT COUNTS. Prove the row's statement (the work); the ties are given (YtefbedineniejaaDoorTie.lean); close each card by the builder's one call (the guide's Derived/Test/ToyasCard.lean, 'card_holds'). Laid BY PROGRAM, IN A SANDBOX (cutbox-door.mjs). By AI agents, Wed Nov 11 2026. No macro, syntax, notation, axiom, sorry.
-/
import Derived.Test.YtefbedineniejaaDoorRows
import GoSem.ClaimSeven
namespace Go.Proofs.YtefbedineniejaaDoor
namespace Rows

/-- THE TIED CARD OF 'tallymankeep.LedgerBack'. -/
def ledgerBackCard : Claim7 := { stood := { row := ledgerBackRow, standIns := [], harness := (true, "035d7de47582fc94a7c0d1b055f9d21c91880f7abe7fc4371d69c1a0606fbdc9"), looks := false }, kinds := [], alts := [], laidByText := true, laidKinds := [.data, .widerDeep, .pinned], laidTests := true, laidLooks := .later }
def LedgerBackCardSaid : Prop := Claim7.holds Tryd.pinned (.plain (OpenSpec.ofChange ledgerBackSpec)) ledgerBackCard

/-- THE TIED CARD OF 'tallymankeep.CostEmpties'. -/
def costEmptiesCard : Claim7 := { stood := { row := costEmptiesRow, standIns := [], harness := (true, "035d7de47582fc94a7c0d1b055f9d21c91880f7abe7fc4371d69c1a0606fbdc9"), looks := false }, kinds := [], alts := [], laidByText := true, laidKinds := [.data, .pinned], laidTests := true, laidLooks := .later }
def CostEmptiesCardSaid : Prop := Claim7.holds Tryd.pinned (.plain (OpenSpec.ofChange costEmptiesSpec)) costEmptiesCard

/-- THE TIED CARD OF 'tallymankeep.CostConserves'. -/
def costConservesCard : Claim7 := { stood := { row := costConservesRow, standIns := [], harness := (true, "035d7de47582fc94a7c0d1b055f9d21c91880f7abe7fc4371d69c1a0606fbdc9"), looks := false }, kinds := [], alts := [], laidByText := true, laidKinds := [.data, .pinned], laidTests := true, laidLooks := .later }
def CostConservesCardSaid : Prop := Claim7.holds Tryd.pinned (.plain (OpenSpec.ofChange costConservesSpec)) costConservesCard

/-- THE TIED CARD OF 'tallymankeep.CostCausal'. -/
def costCausalCard : Claim7 := { stood := { row := costCausalRow, standIns := [], harness := (true, "035d7de47582fc94a7c0d1b055f9d21c91880f7abe7fc4371d69c1a0606fbdc9"), looks := false }, kinds := [], alts := [], laidByText := true, laidKinds := [.data, .pinned], laidTests := true, laidLooks := .later }
def CostCausalCardSaid : Prop := Claim7.holds Tryd.pinned (.plain (OpenSpec.ofChange costCausalSpec)) costCausalCard

/-- THE TIED CARD OF 'tallymankeep.CostApart'. -/
def costApartCard : Claim7 := { stood := { row := costApartRow, standIns := [], harness := (true, "035d7de47582fc94a7c0d1b055f9d21c91880f7abe7fc4371d69c1a0606fbdc9"), looks := false }, kinds := [], alts := [], laidByText := true, laidKinds := [.data, .pinned], laidTests := true, laidLooks := .later }
def CostApartCardSaid : Prop := Claim7.holds Tryd.pinned (.plain (OpenSpec.ofChange costApartSpec)) costApartCard

/-- THE SECOND FORM's CARD OF 'tallymankeep.LedgerBack'. -/
def ledgerBackUptoCard : Claim7 := { stood := { row := ledgerBackUptoRow, standIns := [], harness := (true, "035d7de47582fc94a7c0d1b055f9d21c91880f7abe7fc4371d69c1a0606fbdc9"), looks := false }, kinds := [], alts := [], laidByText := true, laidKinds := [.data, .widerDeep, .pinned], laidTests := true, laidLooks := .later }
def LedgerBackUptoCardSaid : Prop := Claim7.holds Tryd.pinned (.plain (OpenSpec.upto ledgerBackSpec)) ledgerBackUptoCard

/-- THE SECOND FORM's CARD OF 'tallymankeep.CostEmpties'. -/
def costEmptiesUptoCard : Claim7 := { stood := { row := costEmptiesUptoRow, standIns := [], harness := (true, "035d7de47582fc94a7c0d1b055f9d21c91880f7abe7fc4371d69c1a0606fbdc9"), looks := false }, kinds := [], alts := [], laidByText := true, laidKinds := [.data, .pinned], laidTests := true, laidLooks := .later }
def CostEmptiesUptoCardSaid : Prop := Claim7.holds Tryd.pinned (.plain (OpenSpec.upto costEmptiesSpec)) costEmptiesUptoCard

/-- THE SECOND FORM's CARD OF 'tallymankeep.CostConserves'. -/
def costConservesUptoCard : Claim7 := { stood := { row := costConservesUptoRow, standIns := [], harness := (true, "035d7de47582fc94a7c0d1b055f9d21c91880f7abe7fc4371d69c1a0606fbdc9"), looks := false }, kinds := [], alts := [], laidByText := true, laidKinds := [.data, .pinned], laidTests := true, laidLooks := .later }
def CostConservesUptoCardSaid : Prop := Claim7.holds Tryd.pinned (.plain (OpenSpec.upto costConservesSpec)) costConservesUptoCard

/-- THE SECOND FORM's CARD OF 'tallymankeep.CostCausal'. -/
def costCausalUptoCard : Claim7 := { stood := { row := costCausalUptoRow, standIns := [], harness := (true, "035d7de47582fc94a7c0d1b055f9d21c91880f7abe7fc4371d69c1a0606fbdc9"), looks := false }, kinds := [], alts := [], laidByText := true, laidKinds := [.data, .pinned], laidTests := true, laidLooks := .later }
def CostCausalUptoCardSaid : Prop := Claim7.holds Tryd.pinned (.plain (OpenSpec.upto costCausalSpec)) costCausalUptoCard

/-- THE SECOND FORM's CARD OF 'tallymankeep.CostApart'. -/
def costApartUptoCard : Claim7 := { stood := { row := costApartUptoRow, standIns := [], harness := (true, "035d7de47582fc94a7c0d1b055f9d21c91880f7abe7fc4371d69c1a0606fbdc9"), looks := false }, kinds := [], alts := [], laidByText := true, laidKinds := [.data, .pinned], laidTests := true, laidLooks := .later }
def CostApartUptoCardSaid : Prop := Claim7.holds Tryd.pinned (.plain (OpenSpec.upto costApartSpec)) costApartUptoCard
end Rows
end Go.Proofs.YtefbedineniejaaDoor
