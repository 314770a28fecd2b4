/- What the laid variables of the law CostRuns's row give the walks; a start that holds them. -/
import Derived.Test.YtpbbbiifeihkaaaGreatDoorCards
import Derived.Test.YtpbbbiifeihkaaaGreatDoorTie
import Derived.Test.YtpbbbiifeihkaaaGreatDoorLawLift
import Derived.Test.YtpbbbiifeihkaaaGreatDoorNumI
import Derived.Stop.LaidErr
import Derived.Lib.LaidTab
import Derived.LaidLaws
import Derived.LaidHandle
namespace Go.Proofs.YtpbbbiifeihkaaaGreatDoor.costRuns
open Go.ChangeShapes Go.WideShapes Go.ChangeAt Go.RowKit
theorem plain_of {W : World} (h : laidMetH Tryz.prog Rows.costRunsRow.laid W) : laidMet Tryz.prog [("math/bits.deBruijn32tab", Rows.laid_math_bits_deBruijn32tab), ("math/bits.deBruijn64tab", Rows.laid_math_bits_deBruijn64tab), ("internal/strconv.uint64pow10", Rows.laid_internal_strconv_uint64pow10), ("unicode/utf8.acceptRanges", Rows.laid_unicode_utf8_acceptRanges), ("unicode/utf8.first", Rows.laid_unicode_utf8_first)] W := h
theorem gPow : Tryz.prog.globalNamed "internal/strconv.uint64pow10" = some 4 := by kernel_rfl
theorem tPow : (Tryz.prog.globals[4]?).map (·.type) = some 269 := by kernel_rfl
theorem pow_of {W : World} (h : laidMetH Tryz.prog Rows.costRunsRow.laid W) : Lib.TabIs Tryz.prog W "internal/strconv.uint64pow10" .u64 Lib.pow10Tab :=
  Lib.tabIs_of_head gPow tPow Tryz.underlying269 Tryz.underlying193 (by kernel_rfl) (by kernel_rfl) (plain_of h).tail.tail
theorem nw_of {W : World} (hL : laidMetH Tryz.prog Rows.costRunsRow.laid W) (_hS : W.ShapedOpen Tryz.prog) : NW W := ⟨pow_of hL⟩

/-- A table's cells, as a row lists it. -/
def flatCells (d : DataW Unit) : Array Value := match d with
  | .agg ps => (ps.flatMap fun p => match p with
    | .lit (.int k z) => [Value.int k z]
    | .lit (.string b) => [Value.string ⟨b.toArray⟩]
    | .agg qs => qs.map fun q => match q with
      | .lit (.int k z) => Value.int k z
      | _ => undef
    | _ => [undef]).toArray
  | _ => #[]
def put (cs : Array Value) (o : Obj) : Obj := match o with
  | .cells _ t frozen => .cells cs t frozen
  | o => o
noncomputable def lowB : Nat := (World.holding Tryz.prog default ⟨#[], #[], []⟩).heap.size
/-- A start that holds what the list tells. -/
noncomputable def laidWorld (os : Os) : World :=
  let w0 := World.holding Tryz.prog os ⟨#[], #[], []⟩
  { w0 with heap := (((((w0.heap.modify 5 (put (flatCells Rows.laid_math_bits_deBruijn32tab))).modify 6 (put (flatCells Rows.laid_math_bits_deBruijn64tab))).modify 4 (put (flatCells Rows.laid_internal_strconv_uint64pow10))).modify 3 (put (flatCells Rows.laid_unicode_utf8_acceptRanges))).modify 2 (put (flatCells Rows.laid_unicode_utf8_first))) }
theorem laid_plain (os : Os) (args : Array Value) : laidMet Tryz.prog [("math/bits.deBruijn32tab", Rows.laid_math_bits_deBruijn32tab), ("math/bits.deBruijn64tab", Rows.laid_math_bits_deBruijn64tab), ("internal/strconv.uint64pow10", Rows.laid_internal_strconv_uint64pow10), ("unicode/utf8.acceptRanges", Rows.laid_unicode_utf8_acceptRanges), ("unicode/utf8.first", Rows.laid_unicode_utf8_first)] ((laidWorld os).forCall (fun _ _ => 0) ⟨#[], args, []⟩).memory :=
  laidMet_of_run' 8 (by kernel_rfl) (by kernel_rfl)
theorem laid_met (os : Os) (args : Array Value) : laidMetH Tryz.prog Rows.costRunsRow.laid ((laidWorld os).forCall (fun _ _ => 0) ⟨#[], args, []⟩).memory := laid_plain os args
end Go.Proofs.YtpbbbiifeihkaaaGreatDoor.costRuns
