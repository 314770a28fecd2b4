/- What the laid variables of the law EventOrder's row give the walks; a start that holds them. -/
import Derived.Test.YtjbpeebhphmffaaDoorCards
import Derived.Test.YtjbpeebhphmffaaDoorTie
import Derived.Test.YtjbpeebhphmffaaDoorLawEvO
import Derived.Test.YtjbpeebhphmffaaDoorOpenS
import Derived.Stop.LaidErr
import Derived.Lib.LaidTab
import Derived.LaidLaws
import Derived.LaidHandle
namespace Go.Proofs.YtjbpeebhphmffaaDoor.eventOrder
open Go.ChangeShapes Go.WideShapes Go.ChangeAt Go.RowKit
theorem plain_of {W : World} (h : laidMetH Tryd.prog Rows.eventOrderRow.laid W) : laidMet Tryd.prog [("math/bits.deBruijn32tab", Rows.laid_math_bits_deBruijn32tab), ("math/bits.deBruijn64tab", Rows.laid_math_bits_deBruijn64tab), ("internal/strconv.uint64pow10", Rows.laid_internal_strconv_uint64pow10), ("unicode/utf8.acceptRanges", Rows.laid_unicode_utf8_acceptRanges), ("strconv.ErrRange", Rows.laid_strconv_ErrRange), ("strconv.ErrSyntax", Rows.laid_strconv_ErrSyntax), ("tallyman/day.lengths", Rows.laid_tallyman_day_lengths), ("tallyman/event.words", Rows.laid_tallyman_event_words), ("unicode/utf8.first", Rows.laid_unicode_utf8_first)] W := h
theorem gPow : Tryd.prog.globalNamed "internal/strconv.uint64pow10" = some 5 := by kernel_rfl
theorem tPow : (Tryd.prog.globals[5]?).map (·.type) = some 96 := by kernel_rfl
theorem pow_of {W : World} (h : laidMetH Tryd.prog Rows.eventOrderRow.laid W) : Lib.TabIs Tryd.prog W "internal/strconv.uint64pow10" .u64 Lib.pow10Tab :=
  Lib.tabIs_of_head gPow tPow Tryd.underlying96 Tryd.underlying55 (by kernel_rfl) (by kernel_rfl) (plain_of h).tail.tail
theorem gLen : Tryd.prog.globalNamed "tallyman/day.lengths" = some 1 := by kernel_rfl
theorem tLen : (Tryd.prog.globals[1]?).map (·.type) = some 80 := by kernel_rfl
theorem len_of {W : World} (h : laidMetH Tryd.prog Rows.eventOrderRow.laid W) : Lib.TabIs Tryd.prog W "tallyman/day.lengths" .i64 Dy.lens :=
  Lib.tabIs_of_head gLen tLen Tryd.underlying80 Tryd.underlying3 (by kernel_rfl) (by kernel_rfl) (plain_of h).tail.tail.tail.tail.tail.tail
theorem rowErr (u : TypeId) (h : Tryd.prog.typeName? 3 u = some "*errors.errorString") : u = 109 :=
  typeName_ptr_named (nm := "errors.errorString") (by rw [show "*" ++ "errors.errorString" = "*errors.errorString" from by decide]; kernel_rfl) (by kernel_rfl) (by decide) u (by rw [show "*" ++ "errors.errorString" = "*errors.errorString" from by decide]; exact h)
theorem gWords : Tryd.prog.globalNamed "tallyman/event.words" = some 0 := by kernel_rfl
theorem tWords : (Tryd.prog.globals[0]?).map (·.type) = some 44 := by kernel_rfl
theorem words_of {W : World} (h : laidMetH Tryd.prog Rows.eventOrderRow.laid W) (i : Nat) (z : List UInt8) (hi : ([[], [105, 110], [99, 104, 97, 114, 103, 101], [111, 117, 116], [99, 111, 117, 110, 116]])[i]? = some z) : W.cell? ⟨0, i, none⟩ = some (.string ⟨z.toArray⟩) :=
  strsIs_of_head gWords tWords Tryd.underlying44 Tryd.underlying9 (by kernel_rfl) (by kernel_rfl) (zs := [[], [105, 110], [99, 104, 97, 114, 103, 101], [111, 117, 116], [99, 111, 117, 110, 116]]) (plain_of h).tail.tail.tail.tail.tail.tail.tail i z hi
theorem gSyn : Tryd.prog.globalNamed "strconv.ErrSyntax" = some 3 := by kernel_rfl
theorem tSyn : (Tryd.prog.globals[3]?).map (·.type) = some 26 := by kernel_rfl
theorem syn_of {W : World} (h : laidMetH Tryd.prog Rows.eventOrderRow.laid W) : ∃ tp p, W.var? Tryd.prog "strconv.ErrSyntax" = some #[.iface tp p] := by
  obtain ⟨a0, s0, hv0, -, -, -⟩ := laid_sentinel (plain_of h).tail.tail.tail.tail.tail gSyn tSyn Tryd.underlying26 rowErr Tryd.underlying109 Tryd.underlying111 rfl rfl Tryd.underlying9 (by kernel_rfl) (by kernel_rfl)
  exact ⟨_, _, hv0⟩
theorem gRng : Tryd.prog.globalNamed "strconv.ErrRange" = some 4 := by kernel_rfl
theorem tRng : (Tryd.prog.globals[4]?).map (·.type) = some 26 := by kernel_rfl
theorem rng_of {W : World} (h : laidMetH Tryd.prog Rows.eventOrderRow.laid W) : ∃ tp p, W.var? Tryd.prog "strconv.ErrRange" = some #[.iface tp p] := by
  obtain ⟨a0, s0, hv0, -, -, -⟩ := laid_sentinel (plain_of h).tail.tail.tail.tail gRng tRng Tryd.underlying26 rowErr Tryd.underlying109 Tryd.underlying111 rfl rfl Tryd.underlying9 (by kernel_rfl) (by kernel_rfl)
  exact ⟨_, _, hv0⟩
theorem most_of {W : World} (h : W.ShapedOpen Tryd.prog) : ∃ m, W.cell? ⟨2, 0, none⟩ = some (.int .i64 m) :=
  Go.Proofs.cell_of_shapedOpen_int (zero := #[.int .i64 0]) (t := 3) h (of_decide_eq_true (by kernel_rfl)) (by kernel_rfl) rfl (by kernel_rfl) (by kernel_rfl) Tryd.underlying3
theorem vw_of {W : World} (hL : laidMetH Tryd.prog Rows.eventOrderRow.laid W) (hS : W.ShapedOpen Tryd.prog) : VW W := ⟨⟨len_of hL, pow_of hL, syn_of hL⟩, ⟨pow_of hL, syn_of hL, rng_of hL, most_of hS⟩, words_of hL 1 _ rfl, words_of hL 2 _ rfl, words_of hL 3 _ rfl, words_of hL 4 _ rfl⟩

/-- A table's cells, as a row lists it. -/
def flatCells (d : DataW Unit) : Array Value := match d with
  | .agg ps => (ps.flatMap fun p => match p with
    | .lit (.int k z) => [Value.int k z]
    | .lit (.string b) => [Value.string ⟨b.toArray⟩]
    | .agg qs => qs.map fun q => match q with
      | .lit (.int k z) => Value.int k z
      | _ => undef
    | _ => [undef]).toArray
  | _ => #[]
def put (cs : Array Value) (o : Obj) : Obj := match o with
  | .cells _ t frozen => .cells cs t frozen
  | o => o
noncomputable def lowB : Nat := (World.holding Tryd.prog default ⟨#[], #[], []⟩).heap.size
/-- A start that holds what the list tells. -/
noncomputable def laidWorld (os : Os) : World :=
  let w0 := World.holding Tryd.prog os ⟨#[.cells #[.string ⟨#[118, 97, 108, 117, 101, 32, 111, 117, 116, 32, 111, 102, 32, 114, 97, 110, 103, 101]⟩] 111, .cells #[.string ⟨#[105, 110, 118, 97, 108, 105, 100, 32, 115, 121, 110, 116, 97, 120]⟩] 111], #[], []⟩
  { w0 with heap := (((((((((w0.heap.modify 4 (put #[.iface 109 (.pointer (some ⟨lowB + 0, 0, none⟩))])).modify 3 (put #[.iface 109 (.pointer (some ⟨lowB + 1, 0, none⟩))])).modify 8 (put (flatCells Rows.laid_math_bits_deBruijn32tab))).modify 9 (put (flatCells Rows.laid_math_bits_deBruijn64tab))).modify 5 (put (flatCells Rows.laid_internal_strconv_uint64pow10))).modify 7 (put (flatCells Rows.laid_unicode_utf8_acceptRanges))).modify 1 (put (flatCells Rows.laid_tallyman_day_lengths))).modify 0 (put (flatCells Rows.laid_tallyman_event_words))).modify 6 (put (flatCells Rows.laid_unicode_utf8_first))) }
theorem laid_plain (os : Os) (args : Array Value) : laidMet Tryd.prog [("math/bits.deBruijn32tab", Rows.laid_math_bits_deBruijn32tab), ("math/bits.deBruijn64tab", Rows.laid_math_bits_deBruijn64tab), ("internal/strconv.uint64pow10", Rows.laid_internal_strconv_uint64pow10), ("unicode/utf8.acceptRanges", Rows.laid_unicode_utf8_acceptRanges), ("strconv.ErrRange", Rows.laid_strconv_ErrRange), ("strconv.ErrSyntax", Rows.laid_strconv_ErrSyntax), ("tallyman/day.lengths", Rows.laid_tallyman_day_lengths), ("tallyman/event.words", Rows.laid_tallyman_event_words), ("unicode/utf8.first", Rows.laid_unicode_utf8_first)] ((laidWorld os).forCall (fun _ _ => 0) ⟨#[], args, []⟩).memory :=
  laidMet_of_run' 8 (by kernel_rfl) (by kernel_rfl)
theorem laid_met (os : Os) (args : Array Value) : laidMetH Tryd.prog Rows.eventOrderRow.laid ((laidWorld os).forCall (fun _ _ => 0) ⟨#[], args, []⟩).memory := laid_plain os args
end Go.Proofs.YtjbpeebhphmffaaDoor.eventOrder
