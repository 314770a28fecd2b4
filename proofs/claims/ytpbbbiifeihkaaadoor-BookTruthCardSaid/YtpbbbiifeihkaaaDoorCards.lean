/-
  DERIVED. GIVEN WITH THE SEED: THE CARDS: each row of YtpbbbiifeihkaaaDoorRows.lean that lists a variable, with what it lists TIED to the program's text (the seventh form; the later family's looks); each row that meets fmt, with fmt's text TOLD by the authors' own Lean function (tested against real Go, not proved from fmt's source: count such statements apart). THE CARD IS WHAT COUNTS. Prove the row's statement (the work); the ties are given (YtpbbbiifeihkaaaDoorTie.lean); close each card by the builder's one call (the guide's Derived/Test/ToyasCard.lean, 'card_holds'). Laid BY PROGRAM, IN A SANDBOX (cutbox-door.mjs). By AI agents, Wed Nov 11 2026. No macro, syntax, notation, axiom, sorry.
-/
import Derived.Test.YtpbbbiifeihkaaaDoorRows
import GoSem.ClaimSeven
namespace Go.Proofs.YtpbbbiifeihkaaaDoor
namespace Rows

/-- THE TIED CARD OF 'tallymankeep.BookPast'. -/
def bookPastCard : Claim7 := { stood := { row := bookPastRow, standIns := [], harness := (true, "abba7afd4560005d6352444a47622e7100184930ae58c8f4feaefa17a4c696be"), looks := true }, kinds := [], alts := [], laidByText := true, laidKinds := [.data, .handle, .pinned], laidTests := true, laidLooks := .later }
def BookPastCardSaid : Prop := Claim7.holds Tryd.pinned (.plain (OpenSpec.ofChange bookPastSpec)) bookPastCard

/-- THE TIED CARD OF 'tallymankeep.BookTruth'. -/
def bookTruthCard : Claim7 := { stood := { row := bookTruthRow, standIns := [], harness := (true, "abba7afd4560005d6352444a47622e7100184930ae58c8f4feaefa17a4c696be"), looks := true }, kinds := [], alts := [], laidByText := true, laidKinds := [.data, .handle, .pinned], laidTests := true, laidLooks := .later }
def BookTruthCardSaid : Prop := Claim7.holds Tryd.pinned (.plain (OpenSpec.ofChange bookTruthSpec)) bookTruthCard

/-- THE SECOND FORM's CARD OF 'tallymankeep.BookPast'. -/
def bookPastUptoCard : Claim7 := { stood := { row := bookPastUptoRow, standIns := [], harness := (true, "abba7afd4560005d6352444a47622e7100184930ae58c8f4feaefa17a4c696be"), looks := true }, kinds := [], alts := [], laidByText := true, laidKinds := [.data, .handle, .pinned], laidTests := true, laidLooks := .later }
def BookPastUptoCardSaid : Prop := Claim7.holds Tryd.pinned (.plain (OpenSpec.upto bookPastSpec)) bookPastUptoCard

/-- THE SECOND FORM's CARD OF 'tallymankeep.BookTruth'. -/
def bookTruthUptoCard : Claim7 := { stood := { row := bookTruthUptoRow, standIns := [], harness := (true, "abba7afd4560005d6352444a47622e7100184930ae58c8f4feaefa17a4c696be"), looks := true }, kinds := [], alts := [], laidByText := true, laidKinds := [.data, .handle, .pinned], laidTests := true, laidLooks := .later }
def BookTruthUptoCardSaid : Prop := Claim7.holds Tryd.pinned (.plain (OpenSpec.upto bookTruthSpec)) bookTruthUptoCard
end Rows
end Go.Proofs.YtpbbbiifeihkaaaDoor
