/- What the laid variables of the law PeriodWhole's row give the walks; a start that holds them. -/
import Derived.Test.YtackpcohmmlkeaaGreatDoorCards
import Derived.Test.YtackpcohmmlkeaaGreatDoorTie
import Derived.Test.YtackpcohmmlkeaaGreatDoorLawPw
import Derived.Stop.LaidErr
import Derived.Lib.LaidTab
import Derived.LaidLaws
import Derived.LaidHandle
namespace Go.Proofs.YtackpcohmmlkeaaGreatDoor.periodWhole
open Go.ChangeShapes Go.WideShapes Go.ChangeAt Go.RowKit
theorem parts_of {W : World} (h : laidMetH Tryz.prog Rows.periodWholeRow.laid W) : laidMet Tryz.prog [("unicode/utf8.acceptRanges", Rows.laid_unicode_utf8_acceptRanges), ("tallyman/day.lengths", Rows.laid_tallyman_day_lengths), ("unicode/utf8.first", Rows.laid_unicode_utf8_first)] W ∧ handlesMet Tryz.prog [("errors.errorType", Rows.laid_errors_errorType)] W := h
theorem plain_of {W : World} (h : laidMetH Tryz.prog Rows.periodWholeRow.laid W) : laidMet Tryz.prog [("unicode/utf8.acceptRanges", Rows.laid_unicode_utf8_acceptRanges), ("tallyman/day.lengths", Rows.laid_tallyman_day_lengths), ("unicode/utf8.first", Rows.laid_unicode_utf8_first)] W := (parts_of h).1
theorem gLen : Tryz.prog.globalNamed "tallyman/day.lengths" = some 1 := by kernel_rfl
theorem tLen : (Tryz.prog.globals[1]?).map (·.type) = some 257 := by kernel_rfl
theorem len_of {W : World} (h : laidMetH Tryz.prog Rows.periodWholeRow.laid W) : Lib.TabIs Tryz.prog W "tallyman/day.lengths" .i64 Dy.lens :=
  Lib.tabIs_of_head gLen tLen Tryz.underlying257 Tryz.underlying3 (by kernel_rfl) (by kernel_rfl) (plain_of h).tail
theorem gEt : Tryz.prog.globalNamed "errors.errorType" = some 0 := by kernel_rfl
theorem rtR : (Tryz.prog.cutTypes.find? (·.1 == "internal/reflectlite.rtype")).map (·.2) = some 239 := by kernel_rfl
theorem oneRow : ((List.range 326).filter fun t => Tryz.prog.rowNamed t [101, 114, 114, 111, 114]) = [45] := by kernel_rfl
theorem size : Tryz.prog.types.size = 326 := by kernel_rfl
theorem err_of {W : World} (h : laidMetH Tryz.prog Rows.periodWholeRow.laid W) : EW W := by
  obtain ⟨name, u, ty, e1, e2, e3, e4, e5⟩ := (parts_of h).2 _ (List.mem_singleton.2 rfl)
  have en : name = [101, 114, 114, 111, 114] := (Option.some.inj e1).symm
  subst en
  obtain rfl := Option.some.inj (rtR.symm.trans e2)
  have hm : ty ∈ (List.range 326).filter fun t => Tryz.prog.rowNamed t [101, 114, 114, 111, 114] := List.mem_filter.2 ⟨List.mem_range.2 (by rw [← size]; exact e3), e4⟩
  rw [oneRow] at hm
  obtain rfl := List.mem_singleton.1 hm
  have hh : typeHandle Tryz.prog 45 = .pointer (some ⟨8, 45, none⟩) := by kernel_rfl
  rw [hh] at e5
  unfold EW
  simpa using World.var?_cell gEt e5 0
theorem ed_of {W : World} (hL : laidMetH Tryz.prog Rows.periodWholeRow.laid W) (_hS : W.ShapedOpen Tryz.prog) : EW W ∧ DW W := ⟨err_of hL, ⟨len_of hL⟩⟩

/-- A table's cells, as a row lists it. -/
def flatCells (d : DataW Unit) : Array Value := match d with
  | .agg ps => (ps.flatMap fun p => match p with
    | .lit (.int k z) => [Value.int k z]
    | .lit (.string b) => [Value.string ⟨b.toArray⟩]
    | .agg qs => qs.map fun q => match q with
      | .lit (.int k z) => Value.int k z
      | _ => undef
    | _ => [undef]).toArray
  | _ => #[]
def put (cs : Array Value) (o : Obj) : Obj := match o with
  | .cells _ t frozen => .cells cs t frozen
  | o => o
noncomputable def lowB : Nat := (World.holding Tryz.prog default ⟨#[], #[], []⟩).heap.size
/-- A start that holds what the list tells. -/
noncomputable def laidWorld (os : Os) : World :=
  let w0 := World.holding Tryz.prog os ⟨#[], #[], []⟩
  { w0 with heap := ((((w0.heap.modify 0 (put #[.iface 239 (.agg #[.pointer (some ⟨8, 45, none⟩)])])).modify 4 (put (flatCells Rows.laid_unicode_utf8_acceptRanges))).modify 1 (put (flatCells Rows.laid_tallyman_day_lengths))).modify 3 (put (flatCells Rows.laid_unicode_utf8_first))) }
theorem laid_plain (os : Os) (args : Array Value) : laidMet Tryz.prog [("unicode/utf8.acceptRanges", Rows.laid_unicode_utf8_acceptRanges), ("tallyman/day.lengths", Rows.laid_tallyman_day_lengths), ("unicode/utf8.first", Rows.laid_unicode_utf8_first)] ((laidWorld os).forCall (fun _ _ => 0) ⟨#[], args, []⟩).memory :=
  laidMet_of_run' 8 (by kernel_rfl) (by kernel_rfl)
theorem laid_met (os : Os) (args : Array Value) : laidMetH Tryz.prog Rows.periodWholeRow.laid ((laidWorld os).forCall (fun _ _ => 0) ⟨#[], args, []⟩).memory :=
  laidMetH_of_parts (laid_plain os args) (by kernel_rfl)
end Go.Proofs.YtackpcohmmlkeaaGreatDoor.periodWhole
