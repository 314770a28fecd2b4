/-
  NARROWER THAN 'FOR EVERY INPUT', by the rows' own cells (each row's printed sentence says how): LedgerBack: laid · CostEmpties: laid · CostConserves: laid · CostCausal: laid · CostApart: laid.
  DERIVED. THE GIVEN ROWS OF THIS SEAT. 5 by the template 'for every input the law returns true; each argument reads behind the call as it read before'; 0 by the template 'total and deterministic' (their statements: YtefbedineniejaaDoorTotals.lean).
  GIVEN WITH THE SEED: the statements are not yours to turn. If you find one false, say at which input.
  Laid BY PROGRAM, IN A SANDBOX (cutbox-rows.mjs): the forced cells as the released guide's own fill.sh prints them over the translation c4a20e6380cb68a0… (all of the seat's roots in one cut). By AI agents, Wed Nov 11 2026. No macro, syntax, notation, axiom, sorry.
-/
import Derived.Test.YtefbedineniejaaDoorChecked
import GoSem.PinnedTables
import GoSem.Claim
import GoSem.ClaimJoined
import GoSem.ClaimMapViews
import Derived.JoinedTies
import Derived.KernelRfl
namespace Go.Proofs.YtefbedineniejaaDoor
/- THE CELL 'sum', in the pinned program and in every row, IS THE sha256 OF THE DUMP (.gsa) THAT YtefbedineniejaaDoorProg.lean LOADS. Nothing in Lean hashes anything: it is a label: what it is worth is what the hold of that sum in a sandbox is worth. -/
noncomputable def Tryd.pinned : Pinned := { name := "ytefbedineniejaadoor", sum := "c4a20e6380cb68a07b19286d07d52127f9a4553a6cdba68c8c78607e2cb72180", checked := Tryd.checked }
namespace Rows
def none {H : Type} : Left H := { results := [], args := [] }

/- WHAT THE LISTED PACKAGE-LEVEL VARIABLES READ AS WHEN THE CALL BEGINS. Each datum BY PROGRAM (the guide's laid-datum.mjs) off the statement by which the dump's own 'gosem.cut.vars' lays the variable. In a bare row this is a premise. The card (YtefbedineniejaaDoorCards.lean) ties it to the program's text. -/
def laid_unicode_utf8_acceptRanges {H : Type} : DataW H := .agg [.agg [.lit (.int .u8 128), .lit (.int .u8 191)], .agg [.lit (.int .u8 160), .lit (.int .u8 191)], .agg [.lit (.int .u8 128), .lit (.int .u8 159)], .agg [.lit (.int .u8 144), .lit (.int .u8 191)], .agg [.lit (.int .u8 128), .lit (.int .u8 143)], .agg [.lit (.int .u8 0), .lit (.int .u8 0)], .agg [.lit (.int .u8 0), .lit (.int .u8 0)], .agg [.lit (.int .u8 0), .lit (.int .u8 0)], .agg [.lit (.int .u8 0), .lit (.int .u8 0)], .agg [.lit (.int .u8 0), .lit (.int .u8 0)], .agg [.lit (.int .u8 0), .lit (.int .u8 0)], .agg [.lit (.int .u8 0), .lit (.int .u8 0)], .agg [.lit (.int .u8 0), .lit (.int .u8 0)], .agg [.lit (.int .u8 0), .lit (.int .u8 0)], .agg [.lit (.int .u8 0), .lit (.int .u8 0)], .agg [.lit (.int .u8 0), .lit (.int .u8 0)]]
def laid_tallyman_ledger_accounts {H : Type} : DataW H := .agg [.lit (.string [103, 97, 105, 110]), .lit (.string [108, 97, 116, 101]), .lit (.string [108, 111, 115, 115]), .lit (.string [115, 111, 108, 100]), .lit (.string [115, 116, 111, 99, 107]), .lit (.string [115, 117, 112, 112, 108, 121])]
/-- One of Go's own tables, pinned by name: the form's constant. -/
def laid_unicode_utf8_first : DataW Unit := Go.Pinned.utf8First

/-- 'tallymankeep.LedgerBack': WHATEVER THE INPUT: true; the input reads as it did. -/
def ledgerBackSpec : ChangeSpec := { name := "ledgerBack", fn := fun _ => fun
  | [d1, d2] => { results := [.lit (.bool true)], args := [d1, d2] }
  | _ => none }
def ledgerBackRow : OpenClaim := { program := "ytefbedineniejaadoor", sum := "c4a20e6380cb68a07b19286d07d52127f9a4553a6cdba68c8c78607e2cb72180", func := "tallyman/tallymankeep.LedgerBack", spec := "ledgerBack", inPlace := ["internal/abi.NoEscape", "internal/bytealg.IndexByteString", "internal/bytealg.IndexString", "internal/bytealg.CountString"], unfollowed := true, recurses := true, named := ["tallyman/ledger.accounts", "unicode/utf8.first", "unicode/utf8.acceptRanges", "internal/bytealg.MaxLen"], apart := false, laid := [("unicode/utf8.acceptRanges", laid_unicode_utf8_acceptRanges), ("tallyman/ledger.accounts", laid_tallyman_ledger_accounts), ("unicode/utf8.first", laid_unicode_utf8_first)] }
def LedgerBackSaid : Prop := ledgerBackRow.holds Tryd.pinned (OpenSpec.ofChange ledgerBackSpec)

/-- ITS FALSE NEIGHBOUR: 'it returns false'. Refute it at one input. -/
def ledgerBackWrong : ChangeSpec := { name := "ledgerBack", fn := fun _ => fun
  | [d1, d2] => { results := [.lit (.bool false)], args := [d1, d2] }
  | _ => none }
def LedgerBackWrongFalsely : Prop := ledgerBackRow.holds Tryd.pinned (OpenSpec.ofChange ledgerBackWrong)

/-- 'tallymankeep.CostEmpties': WHATEVER THE INPUT: true; the input reads as it did. -/
def costEmptiesSpec : ChangeSpec := { name := "costEmpties", fn := fun _ => fun
  | [d] => { results := [.lit (.bool true)], args := [d] }
  | _ => none }
def costEmptiesRow : OpenClaim := { program := "ytefbedineniejaadoor", sum := "c4a20e6380cb68a07b19286d07d52127f9a4553a6cdba68c8c78607e2cb72180", func := "tallyman/tallymankeep.CostEmpties", spec := "costEmpties", inPlace := ["internal/bytealg.IndexByteString", "internal/bytealg.IndexString"], unfollowed := true, recurses := true, named := ["unicode/utf8.first", "unicode/utf8.acceptRanges", "internal/bytealg.MaxLen"], apart := false, laid := [("unicode/utf8.acceptRanges", laid_unicode_utf8_acceptRanges), ("unicode/utf8.first", laid_unicode_utf8_first)] }
def CostEmptiesSaid : Prop := costEmptiesRow.holds Tryd.pinned (OpenSpec.ofChange costEmptiesSpec)

/-- ITS FALSE NEIGHBOUR: 'it returns false'. Refute it at one input. -/
def costEmptiesWrong : ChangeSpec := { name := "costEmpties", fn := fun _ => fun
  | [d] => { results := [.lit (.bool false)], args := [d] }
  | _ => none }
def CostEmptiesWrongFalsely : Prop := costEmptiesRow.holds Tryd.pinned (OpenSpec.ofChange costEmptiesWrong)

/-- 'tallymankeep.CostConserves': WHATEVER THE INPUT: true; the input reads as it did. -/
def costConservesSpec : ChangeSpec := { name := "costConserves", fn := fun _ => fun
  | [d] => { results := [.lit (.bool true)], args := [d] }
  | _ => none }
def costConservesRow : OpenClaim := { program := "ytefbedineniejaadoor", sum := "c4a20e6380cb68a07b19286d07d52127f9a4553a6cdba68c8c78607e2cb72180", func := "tallyman/tallymankeep.CostConserves", spec := "costConserves", inPlace := ["internal/bytealg.IndexByteString", "internal/bytealg.IndexString"], unfollowed := true, recurses := true, named := ["unicode/utf8.first", "unicode/utf8.acceptRanges", "internal/bytealg.MaxLen"], apart := false, laid := [("unicode/utf8.acceptRanges", laid_unicode_utf8_acceptRanges), ("unicode/utf8.first", laid_unicode_utf8_first)] }
def CostConservesSaid : Prop := costConservesRow.holds Tryd.pinned (OpenSpec.ofChange costConservesSpec)

/-- ITS FALSE NEIGHBOUR: 'it returns false'. Refute it at one input. -/
def costConservesWrong : ChangeSpec := { name := "costConserves", fn := fun _ => fun
  | [d] => { results := [.lit (.bool false)], args := [d] }
  | _ => none }
def CostConservesWrongFalsely : Prop := costConservesRow.holds Tryd.pinned (OpenSpec.ofChange costConservesWrong)

/-- 'tallymankeep.CostCausal': WHATEVER THE INPUT: true; the input reads as it did. -/
def costCausalSpec : ChangeSpec := { name := "costCausal", fn := fun _ => fun
  | [d1, d2, d3] => { results := [.lit (.bool true)], args := [d1, d2, d3] }
  | _ => none }
def costCausalRow : OpenClaim := { program := "ytefbedineniejaadoor", sum := "c4a20e6380cb68a07b19286d07d52127f9a4553a6cdba68c8c78607e2cb72180", func := "tallyman/tallymankeep.CostCausal", spec := "costCausal", inPlace := ["internal/bytealg.IndexByteString", "internal/bytealg.IndexString"], unfollowed := true, recurses := true, named := ["unicode/utf8.first", "unicode/utf8.acceptRanges", "internal/bytealg.MaxLen"], apart := false, laid := [("unicode/utf8.acceptRanges", laid_unicode_utf8_acceptRanges), ("unicode/utf8.first", laid_unicode_utf8_first)] }
def CostCausalSaid : Prop := costCausalRow.holds Tryd.pinned (OpenSpec.ofChange costCausalSpec)

/-- ITS FALSE NEIGHBOUR: 'it returns false'. Refute it at one input. -/
def costCausalWrong : ChangeSpec := { name := "costCausal", fn := fun _ => fun
  | [d1, d2, d3] => { results := [.lit (.bool false)], args := [d1, d2, d3] }
  | _ => none }
def CostCausalWrongFalsely : Prop := costCausalRow.holds Tryd.pinned (OpenSpec.ofChange costCausalWrong)

/-- 'tallymankeep.CostApart': WHATEVER THE INPUT: true; the input reads as it did. -/
def costApartSpec : ChangeSpec := { name := "costApart", fn := fun _ => fun
  | [d] => { results := [.lit (.bool true)], args := [d] }
  | _ => none }
def costApartRow : OpenClaim := { program := "ytefbedineniejaadoor", sum := "c4a20e6380cb68a07b19286d07d52127f9a4553a6cdba68c8c78607e2cb72180", func := "tallyman/tallymankeep.CostApart", spec := "costApart", inPlace := ["internal/bytealg.IndexByteString", "internal/bytealg.IndexString"], unfollowed := true, recurses := true, named := ["unicode/utf8.first", "unicode/utf8.acceptRanges", "internal/bytealg.MaxLen"], apart := false, laid := [("unicode/utf8.acceptRanges", laid_unicode_utf8_acceptRanges), ("unicode/utf8.first", laid_unicode_utf8_first)] }
def CostApartSaid : Prop := costApartRow.holds Tryd.pinned (OpenSpec.ofChange costApartSpec)

/-- ITS FALSE NEIGHBOUR: 'it returns false'. Refute it at one input. -/
def costApartWrong : ChangeSpec := { name := "costApart", fn := fun _ => fun
  | [d] => { results := [.lit (.bool false)], args := [d] }
  | _ => none }
def CostApartWrongFalsely : Prop := costApartRow.holds Tryd.pinned (OpenSpec.ofChange costApartWrong)

/- THE SECOND FORM. 'bulk': how many values and letters a reading holds, each counted each time it is reached (what is shared counts as often as it is met; a slice's spare places count too). A statement '..UptoSaid' is the law's where the arguments, and the package variables that the reading takes, are together of bulk at most 1048576: NARROWER than '..Said'. Prove '..Said' where nothing that the law and all that it calls make is longer than what came in: it says more and counts as full. Else prove '..UptoSaid'. A law counts once. -/
mutual
def uptoBulk {H : Type} : DataW H → Nat
  | .lit (.string bytes) => bytes.length + 1
  | .lit _ => 1
  | .nil => 1
  | .ptr d => uptoBulk d + 1
  | .slice elems spare => uptoBulkAll elems + uptoBulkAll spare + 1
  | .agg parts => uptoBulkAll parts + 1
  | .iface _ d => uptoBulk d + 1
  | .map entries => uptoBulkEntries entries + 1
  | .held _ => 1
def uptoBulkAll {H : Type} : List (DataW H) → Nat
  | [] => 0
  | d :: r => uptoBulk d + uptoBulkAll r
def uptoBulkEntries {H : Type} : List (Lit × DataW H) → Nat
  | [] => 0
  | x :: r => uptoBulkEntry x + uptoBulkEntries r
def uptoBulkEntry {H : Type} : Lit × DataW H → Nat
  | (.string bytes, d) => bytes.length + uptoBulk d + 1
  | (_, d) => uptoBulk d + 1
 end
def uptoSmall : (H : Type) → List (DataW H) → Bool := fun _ ds => decide (uptoBulkAll ds ≤ 1048576)
def OpenSpec.upto (s : _root_.Go.ChangeSpec) : _root_.Go.OpenSpec := { _root_.Go.OpenSpec.ofChange s with cond := some uptoSmall }

/-- 'tallymankeep.LedgerBack', WHERE WHAT IT READS IS OF BULK AT MOST 1048576: true; the input reads as it did. -/
def ledgerBackUptoRow : OpenClaim := { program := "ytefbedineniejaadoor", sum := "c4a20e6380cb68a07b19286d07d52127f9a4553a6cdba68c8c78607e2cb72180", func := "tallyman/tallymankeep.LedgerBack", spec := "ledgerBack", inPlace := ["internal/abi.NoEscape", "internal/bytealg.IndexByteString", "internal/bytealg.IndexString", "internal/bytealg.CountString"], unfollowed := true, recurses := true, named := ["tallyman/ledger.accounts", "unicode/utf8.first", "unicode/utf8.acceptRanges", "internal/bytealg.MaxLen"], apart := false, laid := [("unicode/utf8.acceptRanges", laid_unicode_utf8_acceptRanges), ("tallyman/ledger.accounts", laid_tallyman_ledger_accounts), ("unicode/utf8.first", laid_unicode_utf8_first)], narrowed := true }
def LedgerBackUptoSaid : Prop := ledgerBackUptoRow.holds Tryd.pinned (OpenSpec.upto ledgerBackSpec)

/-- 'tallymankeep.CostEmpties', WHERE WHAT IT READS IS OF BULK AT MOST 1048576: true; the input reads as it did. -/
def costEmptiesUptoRow : OpenClaim := { program := "ytefbedineniejaadoor", sum := "c4a20e6380cb68a07b19286d07d52127f9a4553a6cdba68c8c78607e2cb72180", func := "tallyman/tallymankeep.CostEmpties", spec := "costEmpties", inPlace := ["internal/bytealg.IndexByteString", "internal/bytealg.IndexString"], unfollowed := true, recurses := true, named := ["unicode/utf8.first", "unicode/utf8.acceptRanges", "internal/bytealg.MaxLen"], apart := false, laid := [("unicode/utf8.acceptRanges", laid_unicode_utf8_acceptRanges), ("unicode/utf8.first", laid_unicode_utf8_first)], narrowed := true }
def CostEmptiesUptoSaid : Prop := costEmptiesUptoRow.holds Tryd.pinned (OpenSpec.upto costEmptiesSpec)

/-- 'tallymankeep.CostConserves', WHERE WHAT IT READS IS OF BULK AT MOST 1048576: true; the input reads as it did. -/
def costConservesUptoRow : OpenClaim := { program := "ytefbedineniejaadoor", sum := "c4a20e6380cb68a07b19286d07d52127f9a4553a6cdba68c8c78607e2cb72180", func := "tallyman/tallymankeep.CostConserves", spec := "costConserves", inPlace := ["internal/bytealg.IndexByteString", "internal/bytealg.IndexString"], unfollowed := true, recurses := true, named := ["unicode/utf8.first", "unicode/utf8.acceptRanges", "internal/bytealg.MaxLen"], apart := false, laid := [("unicode/utf8.acceptRanges", laid_unicode_utf8_acceptRanges), ("unicode/utf8.first", laid_unicode_utf8_first)], narrowed := true }
def CostConservesUptoSaid : Prop := costConservesUptoRow.holds Tryd.pinned (OpenSpec.upto costConservesSpec)

/-- 'tallymankeep.CostCausal', WHERE WHAT IT READS IS OF BULK AT MOST 1048576: true; the input reads as it did. -/
def costCausalUptoRow : OpenClaim := { program := "ytefbedineniejaadoor", sum := "c4a20e6380cb68a07b19286d07d52127f9a4553a6cdba68c8c78607e2cb72180", func := "tallyman/tallymankeep.CostCausal", spec := "costCausal", inPlace := ["internal/bytealg.IndexByteString", "internal/bytealg.IndexString"], unfollowed := true, recurses := true, named := ["unicode/utf8.first", "unicode/utf8.acceptRanges", "internal/bytealg.MaxLen"], apart := false, laid := [("unicode/utf8.acceptRanges", laid_unicode_utf8_acceptRanges), ("unicode/utf8.first", laid_unicode_utf8_first)], narrowed := true }
def CostCausalUptoSaid : Prop := costCausalUptoRow.holds Tryd.pinned (OpenSpec.upto costCausalSpec)

/-- 'tallymankeep.CostApart', WHERE WHAT IT READS IS OF BULK AT MOST 1048576: true; the input reads as it did. -/
def costApartUptoRow : OpenClaim := { program := "ytefbedineniejaadoor", sum := "c4a20e6380cb68a07b19286d07d52127f9a4553a6cdba68c8c78607e2cb72180", func := "tallyman/tallymankeep.CostApart", spec := "costApart", inPlace := ["internal/bytealg.IndexByteString", "internal/bytealg.IndexString"], unfollowed := true, recurses := true, named := ["unicode/utf8.first", "unicode/utf8.acceptRanges", "internal/bytealg.MaxLen"], apart := false, laid := [("unicode/utf8.acceptRanges", laid_unicode_utf8_acceptRanges), ("unicode/utf8.first", laid_unicode_utf8_first)], narrowed := true }
def CostApartUptoSaid : Prop := costApartUptoRow.holds Tryd.pinned (OpenSpec.upto costApartSpec)

end Rows
end Go.Proofs.YtefbedineniejaaDoor
