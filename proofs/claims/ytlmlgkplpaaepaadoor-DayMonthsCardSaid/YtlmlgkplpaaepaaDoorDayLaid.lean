/- What the laid variables of the rows over days give the walks; a start that holds them. -/
import Derived.Test.YtlmlgkplpaaepaaDoorCards
import Derived.Test.YtlmlgkplpaaepaaDoorTie
import Derived.Test.YtlmlgkplpaaepaaDoorDayW
import Derived.Stop.LaidErr
import Derived.Lib.LaidTab
import Derived.LaidLaws
namespace Go.Proofs.YtlmlgkplpaaepaaDoor
open Go.ChangeShapes Go.WideShapes Go.ChangeAt Go.RowKit

theorem tLengths : (Tryd.prog.globals[1]?).map (·.type) = some 115 := by kernel_rfl
theorem tPow : (Tryd.prog.globals[7]?).map (·.type) = some 178 := by kernel_rfl
theorem tSyn : (Tryd.prog.globals[2]?).map (·.type) = some 27 := by kernel_rfl
theorem rowErr (u : TypeId) (h : Tryd.prog.typeName? 3 u = some "*errors.errorString") : u = 164 :=
  typeName_ptr_named (nm := "errors.errorString") (by rw [show "*" ++ "errors.errorString" = "*errors.errorString" from by decide]; kernel_rfl) (by kernel_rfl) (by decide) u (by rw [show "*" ++ "errors.errorString" = "*errors.errorString" from by decide]; exact h)

theorem dw_of {W : World} (h : laidMet Tryd.prog Rows.dayBackRow.laid W) : DW W := by
  have h3 := h.tail.tail
  have h5 := h3.tail.tail
  have h6 := h5.tail
  refine ⟨Lib.tabIs_of_head gLengths tLengths Tryd.underlying115 Tryd.underlying3 (by kernel_rfl) (by kernel_rfl) h6, Lib.tabIs_of_head gPow tPow Tryd.underlying178 Tryd.underlying112 (by kernel_rfl) (by kernel_rfl) h3, ?_⟩
  obtain ⟨a0, s0, hv0, -, -, -⟩ := laid_sentinel h5 gSyn tSyn Tryd.underlying27 rowErr Tryd.underlying164 Tryd.underlying166 rfl rfl Tryd.underlying9 (by kernel_rfl) (by kernel_rfl)
  exact ⟨_, _, hv0⟩

/-- The cells of a table, as a row lists it. -/
def tabCells (d : DataW Unit) : Array Value := match d with
  | .agg ps => (ps.map fun p => match p with
    | .lit (.int k z) => Value.int k z
    | _ => undef).toArray
  | _ => #[]
def put (cs : Array Value) (o : Obj) : Obj := match o with
  | .cells _ t frozen => .cells cs t frozen
  | o => o
noncomputable def lowB : Nat := (World.holding Tryd.prog default ⟨#[], #[], []⟩).heap.size
/-- A start that holds what the list tells. -/
noncomputable def laidWorld (os : Os) : World :=
  let w0 := World.holding Tryd.prog os ⟨#[.cells #[.string ⟨#[105, 110, 118, 97, 108, 105, 100, 32, 115, 121, 110, 116, 97, 120]⟩] 166, .cells #[.string ⟨#[118, 97, 108, 117, 101, 32, 111, 117, 116, 32, 111, 102, 32, 114, 97, 110, 103, 101]⟩] 166], #[], []⟩
  { w0 with heap := (((((w0.heap.modify 2 (put #[.iface 164 (.pointer (some ⟨lowB, 0, none⟩))])).modify 3 (put #[.iface 164 (.pointer (some ⟨lowB + 1, 0, none⟩))])).modify
      1 (put (tabCells Rows.laid_tallyman_day_lengths))).modify 7 (put (tabCells Rows.laid_internal_strconv_uint64pow10))).modify
      8 (put (tabCells Rows.laid_math_bits_deBruijn32tab))).modify 9 (put (tabCells Rows.laid_math_bits_deBruijn64tab)) }
theorem laid_met (os : Os) (args : Array Value) : laidMet Tryd.prog Rows.dayBackRow.laid ((laidWorld os).forCall (fun _ _ => 0) ⟨#[], args, []⟩).memory :=
  laidMet_of_run' 8 (by kernel_rfl) (by kernel_rfl)
end Go.Proofs.YtlmlgkplpaaepaaDoor
