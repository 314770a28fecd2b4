/- What the laid variables of the law LedgerBack's row give the walks; a start that holds them. -/
import Derived.Test.YtefbedineniejaaDoorCards
import Derived.Test.YtefbedineniejaaDoorTie
import Derived.Test.YtefbedineniejaaDoorLawLgB
import Derived.Test.YtefbedineniejaaDoorOpenF
import Derived.Stop.LaidErr
import Derived.Lib.LaidTab
import Derived.LaidLaws
import Derived.LaidHandle
namespace Go.Proofs.YtefbedineniejaaDoor.ledgerBack
open Go.ChangeShapes Go.WideShapes Go.ChangeAt Go.RowKit
theorem plain_of {W : World} (h : laidMetH Tryd.prog Rows.ledgerBackRow.laid W) : laidMet Tryd.prog [("unicode/utf8.acceptRanges", Rows.laid_unicode_utf8_acceptRanges), ("tallyman/ledger.accounts", Rows.laid_tallyman_ledger_accounts), ("unicode/utf8.first", Rows.laid_unicode_utf8_first)] W := h
theorem gAccounts : Tryd.prog.globalNamed "tallyman/ledger.accounts" = some 0 := by kernel_rfl
theorem tAccounts : (Tryd.prog.globals[0]?).map (·.type) = some 75 := by kernel_rfl
theorem accounts_of {W : World} (h : laidMetH Tryd.prog Rows.ledgerBackRow.laid W) (i : Nat) (z : List UInt8) (hi : ([[103, 97, 105, 110], [108, 97, 116, 101], [108, 111, 115, 115], [115, 111, 108, 100], [115, 116, 111, 99, 107], [115, 117, 112, 112, 108, 121]])[i]? = some z) : W.cell? ⟨0, i, none⟩ = some (.string ⟨z.toArray⟩) :=
  strsIs_of_head gAccounts tAccounts Tryd.underlying75 Tryd.underlying9 (by kernel_rfl) (by kernel_rfl) (zs := [[103, 97, 105, 110], [108, 97, 116, 101], [108, 111, 115, 115], [115, 111, 108, 100], [115, 116, 111, 99, 107], [115, 117, 112, 112, 108, 121]]) (plain_of h).tail i z hi
theorem most_of {W : World} (h : W.ShapedOpen Tryd.prog) : ∃ m, W.cell? ⟨3, 0, none⟩ = some (.int .i64 m) :=
  Go.Proofs.cell_of_shapedOpen_int (zero := #[.int .i64 0]) (t := 3) h (of_decide_eq_true (by kernel_rfl)) (by kernel_rfl) rfl (by kernel_rfl) (by kernel_rfl) Tryd.underlying3
theorem lw_of {W : World} (hL : laidMetH Tryd.prog Rows.ledgerBackRow.laid W) (hS : W.ShapedOpen Tryd.prog) : LW W := lw_mk (most_of hS) (accounts_of hL)

/-- A table's cells, as a row lists it. -/
def flatCells (d : DataW Unit) : Array Value := match d with
  | .agg ps => (ps.flatMap fun p => match p with
    | .lit (.int k z) => [Value.int k z]
    | .lit (.string b) => [Value.string ⟨b.toArray⟩]
    | .agg qs => qs.map fun q => match q with
      | .lit (.int k z) => Value.int k z
      | _ => undef
    | _ => [undef]).toArray
  | _ => #[]
def put (cs : Array Value) (o : Obj) : Obj := match o with
  | .cells _ t frozen => .cells cs t frozen
  | o => o
noncomputable def lowB : Nat := (World.holding Tryd.prog default ⟨#[], #[], []⟩).heap.size
/-- A start that holds what the list tells. -/
noncomputable def laidWorld (os : Os) : World :=
  let w0 := World.holding Tryd.prog os ⟨#[], #[], []⟩
  { w0 with heap := (((w0.heap.modify 2 (put (flatCells Rows.laid_unicode_utf8_acceptRanges))).modify 0 (put (flatCells Rows.laid_tallyman_ledger_accounts))).modify 1 (put (flatCells Rows.laid_unicode_utf8_first))) }
theorem laid_plain (os : Os) (args : Array Value) : laidMet Tryd.prog [("unicode/utf8.acceptRanges", Rows.laid_unicode_utf8_acceptRanges), ("tallyman/ledger.accounts", Rows.laid_tallyman_ledger_accounts), ("unicode/utf8.first", Rows.laid_unicode_utf8_first)] ((laidWorld os).forCall (fun _ _ => 0) ⟨#[], args, []⟩).memory :=
  laidMet_of_run' 8 (by kernel_rfl) (by kernel_rfl)
theorem laid_met (os : Os) (args : Array Value) : laidMetH Tryd.prog Rows.ledgerBackRow.laid ((laidWorld os).forCall (fun _ _ => 0) ⟨#[], args, []⟩).memory := laid_plain os args
end Go.Proofs.YtefbedineniejaaDoor.ledgerBack
