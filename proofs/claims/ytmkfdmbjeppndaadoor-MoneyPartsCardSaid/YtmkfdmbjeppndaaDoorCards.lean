/-
  DERIVED. GIVEN WITH THE SEED: THE CARDS: each row of YtmkfdmbjeppndaaDoorRows.lean that lists a variable, with what it lists TIED to the program's text (the seventh form; the later family's looks); each row that meets fmt, with fmt's text TOLD by the authors' own Lean function (tested against real Go, not proved from fmt's source: count such statements apart). THE CARD IS WHAT COUNTS. Prove the row's statement (the work); the ties are given (YtmkfdmbjeppndaaDoorTie.lean); close each card by the builder's one call (the guide's Derived/Test/ToyasCard.lean, 'card_holds'). Laid BY PROGRAM, IN A SANDBOX (cutbox-door.mjs). By AI agents, Wed Nov 11 2026. No macro, syntax, notation, axiom, sorry.
-/
import Derived.Test.YtmkfdmbjeppndaaDoorRows
import GoSem.ClaimSeven
namespace Go.Proofs.YtmkfdmbjeppndaaDoor
namespace Rows

/-- THE TIED CARD OF 'tallymanlaw.MoneyParts'. -/
def moneyPartsCard : Claim7 := { stood := { row := moneyPartsRow, standIns := [], harness := (true, "363aa2e47c053e50e7f079f0afa089a2d839c8f50e2b59f78a76c8b1b7e4e0f4"), looks := true }, kinds := [], alts := [], laidByText := true, laidKinds := [.data, .data, .data, .data, .handle, .sentinel, .sentinel, .pinned], laidTests := true, laidLooks := .later }
def MoneyPartsCardSaid : Prop := Claim7.holds Tryd.pinned (.plain (OpenSpec.ofChange moneyPartsSpec)) moneyPartsCard

/-- THE TIED CARD OF 'tallymanlaw.DayCounts'. -/
def dayCountsCard : Claim7 := { stood := { row := dayCountsRow, standIns := [], harness := (true, "363aa2e47c053e50e7f079f0afa089a2d839c8f50e2b59f78a76c8b1b7e4e0f4"), looks := true }, kinds := [], alts := [], laidByText := true, laidKinds := [.data, .data, .data, .data, .handle, .sentinel, .sentinel, .data, .pinned], laidTests := true, laidLooks := .later }
def DayCountsCardSaid : Prop := Claim7.holds Tryd.pinned (.plain (OpenSpec.ofChange dayCountsSpec)) dayCountsCard

/-- THE SECOND FORM's CARD OF 'tallymanlaw.MoneyParts'. -/
def moneyPartsUptoCard : Claim7 := { stood := { row := moneyPartsUptoRow, standIns := [], harness := (true, "363aa2e47c053e50e7f079f0afa089a2d839c8f50e2b59f78a76c8b1b7e4e0f4"), looks := true }, kinds := [], alts := [], laidByText := true, laidKinds := [.data, .data, .data, .data, .handle, .sentinel, .sentinel, .pinned], laidTests := true, laidLooks := .later }
def MoneyPartsUptoCardSaid : Prop := Claim7.holds Tryd.pinned (.plain (OpenSpec.upto moneyPartsSpec)) moneyPartsUptoCard

/-- THE SECOND FORM's CARD OF 'tallymanlaw.DayCounts'. -/
def dayCountsUptoCard : Claim7 := { stood := { row := dayCountsUptoRow, standIns := [], harness := (true, "363aa2e47c053e50e7f079f0afa089a2d839c8f50e2b59f78a76c8b1b7e4e0f4"), looks := true }, kinds := [], alts := [], laidByText := true, laidKinds := [.data, .data, .data, .data, .handle, .sentinel, .sentinel, .data, .pinned], laidTests := true, laidLooks := .later }
def DayCountsUptoCardSaid : Prop := Claim7.holds Tryd.pinned (.plain (OpenSpec.upto dayCountsSpec)) dayCountsUptoCard
end Rows
end Go.Proofs.YtmkfdmbjeppndaaDoor
