/- What the laid variables of the law MoneyParts's row give the walks; a start that holds them. -/
import Derived.Test.YtmkfdmbjeppndaaDoorCards
import Derived.Test.YtmkfdmbjeppndaaDoorTie
import Derived.Test.YtmkfdmbjeppndaaDoorLawParts
import Derived.Stop.LaidErr
import Derived.Lib.LaidTab
import Derived.LaidLaws
import Derived.LaidHandle
namespace Go.Proofs.YtmkfdmbjeppndaaDoor.moneyParts
open Go.ChangeShapes Go.WideShapes Go.ChangeAt Go.RowKit
theorem parts_of {W : World} (h : laidMetH Tryd.prog Rows.moneyPartsRow.laid W) : laidMet Tryd.prog [("math/bits.deBruijn32tab", Rows.laid_math_bits_deBruijn32tab), ("math/bits.deBruijn64tab", Rows.laid_math_bits_deBruijn64tab), ("internal/strconv.uint64pow10", Rows.laid_internal_strconv_uint64pow10), ("unicode/utf8.acceptRanges", Rows.laid_unicode_utf8_acceptRanges), ("strconv.ErrRange", Rows.laid_strconv_ErrRange), ("strconv.ErrSyntax", Rows.laid_strconv_ErrSyntax), ("unicode/utf8.first", Rows.laid_unicode_utf8_first)] W ∧ handlesMet Tryd.prog [("errors.errorType", Rows.laid_errors_errorType)] W := h
theorem plain_of {W : World} (h : laidMetH Tryd.prog Rows.moneyPartsRow.laid W) : laidMet Tryd.prog [("math/bits.deBruijn32tab", Rows.laid_math_bits_deBruijn32tab), ("math/bits.deBruijn64tab", Rows.laid_math_bits_deBruijn64tab), ("internal/strconv.uint64pow10", Rows.laid_internal_strconv_uint64pow10), ("unicode/utf8.acceptRanges", Rows.laid_unicode_utf8_acceptRanges), ("strconv.ErrRange", Rows.laid_strconv_ErrRange), ("strconv.ErrSyntax", Rows.laid_strconv_ErrSyntax), ("unicode/utf8.first", Rows.laid_unicode_utf8_first)] W := (parts_of h).1
theorem gPow : Tryd.prog.globalNamed "internal/strconv.uint64pow10" = some 7 := by kernel_rfl
theorem tPow : (Tryd.prog.globals[7]?).map (·.type) = some 131 := by kernel_rfl
theorem pow_of {W : World} (h : laidMetH Tryd.prog Rows.moneyPartsRow.laid W) : Lib.TabIs Tryd.prog W "internal/strconv.uint64pow10" .u64 Lib.pow10Tab :=
  Lib.tabIs_of_head gPow tPow Tryd.underlying131 Tryd.underlying57 (by kernel_rfl) (by kernel_rfl) (plain_of h).tail.tail
theorem rowErr (u : TypeId) (h : Tryd.prog.typeName? 3 u = some "*errors.errorString") : u = 137 :=
  typeName_ptr_named (nm := "errors.errorString") (by rw [show "*" ++ "errors.errorString" = "*errors.errorString" from by decide]; kernel_rfl) (by kernel_rfl) (by decide) u (by rw [show "*" ++ "errors.errorString" = "*errors.errorString" from by decide]; exact h)
theorem gSyn : Tryd.prog.globalNamed "strconv.ErrSyntax" = some 1 := by kernel_rfl
theorem tSyn : (Tryd.prog.globals[1]?).map (·.type) = some 27 := by kernel_rfl
theorem syn_of {W : World} (h : laidMetH Tryd.prog Rows.moneyPartsRow.laid W) : ∃ tp p, W.var? Tryd.prog "strconv.ErrSyntax" = some #[.iface tp p] := by
  obtain ⟨a0, s0, hv0, -, -, -⟩ := laid_sentinel (plain_of h).tail.tail.tail.tail.tail gSyn tSyn Tryd.underlying27 rowErr Tryd.underlying137 Tryd.underlying139 rfl rfl Tryd.underlying9 (by kernel_rfl) (by kernel_rfl)
  exact ⟨_, _, hv0⟩
theorem gRng : Tryd.prog.globalNamed "strconv.ErrRange" = some 2 := by kernel_rfl
theorem tRng : (Tryd.prog.globals[2]?).map (·.type) = some 27 := by kernel_rfl
theorem rng_of {W : World} (h : laidMetH Tryd.prog Rows.moneyPartsRow.laid W) : ∃ tp p, W.var? Tryd.prog "strconv.ErrRange" = some #[.iface tp p] := by
  obtain ⟨a0, s0, hv0, -, -, -⟩ := laid_sentinel (plain_of h).tail.tail.tail.tail gRng tRng Tryd.underlying27 rowErr Tryd.underlying137 Tryd.underlying139 rfl rfl Tryd.underlying9 (by kernel_rfl) (by kernel_rfl)
  exact ⟨_, _, hv0⟩
theorem gEt : Tryd.prog.globalNamed "errors.errorType" = some 6 := by kernel_rfl
theorem rtR : (Tryd.prog.cutTypes.find? (·.1 == "internal/reflectlite.rtype")).map (·.2) = some 143 := by kernel_rfl
theorem oneRow : ((List.range 184).filter fun t => Tryd.prog.rowNamed t [101, 114, 114, 111, 114]) = [27] := by kernel_rfl
theorem size : Tryd.prog.types.size = 184 := by kernel_rfl
theorem err_of {W : World} (h : laidMetH Tryd.prog Rows.moneyPartsRow.laid W) : EW W := by
  obtain ⟨name, u, ty, e1, e2, e3, e4, e5⟩ := (parts_of h).2 _ (List.mem_singleton.2 rfl)
  have en : name = [101, 114, 114, 111, 114] := (Option.some.inj e1).symm
  subst en
  obtain rfl := Option.some.inj (rtR.symm.trans e2)
  have hm : ty ∈ (List.range 184).filter fun t => Tryd.prog.rowNamed t [101, 114, 114, 111, 114] := List.mem_filter.2 ⟨List.mem_range.2 (by rw [← size]; exact e3), e4⟩
  rw [oneRow] at hm
  obtain rfl := List.mem_singleton.1 hm
  have hh : typeHandle Tryd.prog 27 = .pointer (some ⟨10, 27, none⟩) := by kernel_rfl
  rw [hh] at e5
  unfold EW
  simpa using World.var?_cell gEt e5 0
theorem most_of {W : World} (h : W.ShapedOpen Tryd.prog) : ∃ m, W.cell? ⟨3, 0, none⟩ = some (.int .i64 m) :=
  Go.Proofs.cell_of_shapedOpen_int (zero := #[.int .i64 0]) (t := 3) h (of_decide_eq_true (by kernel_rfl)) (by kernel_rfl) rfl (by kernel_rfl) (by kernel_rfl) Tryd.underlying3
theorem pw_of {W : World} (hL : laidMetH Tryd.prog Rows.moneyPartsRow.laid W) (hS : W.ShapedOpen Tryd.prog) : PW W := ⟨⟨pow_of hL, syn_of hL, rng_of hL, most_of hS⟩, err_of hL⟩

/-- A table's cells, as a row lists it. -/
def flatCells (d : DataW Unit) : Array Value := match d with
  | .agg ps => (ps.flatMap fun p => match p with
    | .lit (.int k z) => [Value.int k z]
    | .lit (.string b) => [Value.string ⟨b.toArray⟩]
    | .agg qs => qs.map fun q => match q with
      | .lit (.int k z) => Value.int k z
      | _ => undef
    | _ => [undef]).toArray
  | _ => #[]
def put (cs : Array Value) (o : Obj) : Obj := match o with
  | .cells _ t frozen => .cells cs t frozen
  | o => o
noncomputable def lowB : Nat := (World.holding Tryd.prog default ⟨#[], #[], []⟩).heap.size
/-- A start that holds what the list tells. -/
noncomputable def laidWorld (os : Os) : World :=
  let w0 := World.holding Tryd.prog os ⟨#[.cells #[.string ⟨#[118, 97, 108, 117, 101, 32, 111, 117, 116, 32, 111, 102, 32, 114, 97, 110, 103, 101]⟩] 139, .cells #[.string ⟨#[105, 110, 118, 97, 108, 105, 100, 32, 115, 121, 110, 116, 97, 120]⟩] 139], #[], []⟩
  { w0 with heap := ((((((((w0.heap.modify 2 (put #[.iface 137 (.pointer (some ⟨lowB + 0, 0, none⟩))])).modify 1 (put #[.iface 137 (.pointer (some ⟨lowB + 1, 0, none⟩))])).modify 6 (put #[.iface 143 (.agg #[.pointer (some ⟨10, 27, none⟩)])])).modify 8 (put (flatCells Rows.laid_math_bits_deBruijn32tab))).modify 9 (put (flatCells Rows.laid_math_bits_deBruijn64tab))).modify 7 (put (flatCells Rows.laid_internal_strconv_uint64pow10))).modify 5 (put (flatCells Rows.laid_unicode_utf8_acceptRanges))).modify 4 (put (flatCells Rows.laid_unicode_utf8_first))) }
theorem laid_plain (os : Os) (args : Array Value) : laidMet Tryd.prog [("math/bits.deBruijn32tab", Rows.laid_math_bits_deBruijn32tab), ("math/bits.deBruijn64tab", Rows.laid_math_bits_deBruijn64tab), ("internal/strconv.uint64pow10", Rows.laid_internal_strconv_uint64pow10), ("unicode/utf8.acceptRanges", Rows.laid_unicode_utf8_acceptRanges), ("strconv.ErrRange", Rows.laid_strconv_ErrRange), ("strconv.ErrSyntax", Rows.laid_strconv_ErrSyntax), ("unicode/utf8.first", Rows.laid_unicode_utf8_first)] ((laidWorld os).forCall (fun _ _ => 0) ⟨#[], args, []⟩).memory :=
  laidMet_of_run' 8 (by kernel_rfl) (by kernel_rfl)
theorem laid_met (os : Os) (args : Array Value) : laidMetH Tryd.prog Rows.moneyPartsRow.laid ((laidWorld os).forCall (fun _ _ => 0) ⟨#[], args, []⟩).memory :=
  laidMetH_of_parts (laid_plain os args) (by kernel_rfl)
end Go.Proofs.YtmkfdmbjeppndaaDoor.moneyParts
