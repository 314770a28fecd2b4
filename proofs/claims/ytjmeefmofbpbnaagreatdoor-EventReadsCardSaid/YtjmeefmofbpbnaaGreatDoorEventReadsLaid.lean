/- What the laid variables of the law EventReads's row give the walks; a start that holds them. -/
import Derived.Test.YtjmeefmofbpbnaaGreatDoorCards
import Derived.Test.YtjmeefmofbpbnaaGreatDoorTie
import Derived.Test.YtjmeefmofbpbnaaGreatDoorLawEvRw
import Derived.Test.YtjmeefmofbpbnaaGreatDoorOpenS
import Derived.Stop.LaidErr
import Derived.Lib.LaidTab
import Derived.LaidLaws
import Derived.LaidHandle
namespace Go.Proofs.YtjmeefmofbpbnaaGreatDoor.eventReads
open Go.ChangeShapes Go.WideShapes Go.ChangeAt Go.RowKit
theorem parts_of {W : World} (h : laidMetH Tryz.prog Rows.eventReadsRow.laid W) : laidMet Tryz.prog [("math/bits.deBruijn32tab", Rows.laid_math_bits_deBruijn32tab), ("math/bits.deBruijn64tab", Rows.laid_math_bits_deBruijn64tab), ("internal/strconv.uint64pow10", Rows.laid_internal_strconv_uint64pow10), ("unicode/utf8.acceptRanges", Rows.laid_unicode_utf8_acceptRanges), ("strconv.ErrRange", Rows.laid_strconv_ErrRange), ("strconv.ErrSyntax", Rows.laid_strconv_ErrSyntax), ("tallyman/day.lengths", Rows.laid_tallyman_day_lengths), ("tallyman/event.words", Rows.laid_tallyman_event_words), ("unicode/utf8.first", Rows.laid_unicode_utf8_first)] W ∧ handlesMet Tryz.prog [("errors.errorType", Rows.laid_errors_errorType)] W := h
theorem plain_of {W : World} (h : laidMetH Tryz.prog Rows.eventReadsRow.laid W) : laidMet Tryz.prog [("math/bits.deBruijn32tab", Rows.laid_math_bits_deBruijn32tab), ("math/bits.deBruijn64tab", Rows.laid_math_bits_deBruijn64tab), ("internal/strconv.uint64pow10", Rows.laid_internal_strconv_uint64pow10), ("unicode/utf8.acceptRanges", Rows.laid_unicode_utf8_acceptRanges), ("strconv.ErrRange", Rows.laid_strconv_ErrRange), ("strconv.ErrSyntax", Rows.laid_strconv_ErrSyntax), ("tallyman/day.lengths", Rows.laid_tallyman_day_lengths), ("tallyman/event.words", Rows.laid_tallyman_event_words), ("unicode/utf8.first", Rows.laid_unicode_utf8_first)] W := (parts_of h).1
theorem gPow : Tryz.prog.globalNamed "internal/strconv.uint64pow10" = some 7 := by kernel_rfl
theorem tPow : (Tryz.prog.globals[7]?).map (·.type) = some 135 := by kernel_rfl
theorem pow_of {W : World} (h : laidMetH Tryz.prog Rows.eventReadsRow.laid W) : Lib.TabIs Tryz.prog W "internal/strconv.uint64pow10" .u64 Lib.pow10Tab :=
  Lib.tabIs_of_head gPow tPow Tryz.underlying135 Tryz.underlying76 (by kernel_rfl) (by kernel_rfl) (plain_of h).tail.tail
theorem gLen : Tryz.prog.globalNamed "tallyman/day.lengths" = some 2 := by kernel_rfl
theorem tLen : (Tryz.prog.globals[2]?).map (·.type) = some 111 := by kernel_rfl
theorem len_of {W : World} (h : laidMetH Tryz.prog Rows.eventReadsRow.laid W) : Lib.TabIs Tryz.prog W "tallyman/day.lengths" .i64 Dy.lens :=
  Lib.tabIs_of_head gLen tLen Tryz.underlying111 Tryz.underlying3 (by kernel_rfl) (by kernel_rfl) (plain_of h).tail.tail.tail.tail.tail.tail
theorem rowErr (u : TypeId) (h : Tryz.prog.typeName? 3 u = some "*errors.errorString") : u = 155 :=
  typeName_ptr_named (nm := "errors.errorString") (by rw [show "*" ++ "errors.errorString" = "*errors.errorString" from by decide]; kernel_rfl) (by kernel_rfl) (by decide) u (by rw [show "*" ++ "errors.errorString" = "*errors.errorString" from by decide]; exact h)
theorem gWords : Tryz.prog.globalNamed "tallyman/event.words" = some 0 := by kernel_rfl
theorem tWords : (Tryz.prog.globals[0]?).map (·.type) = some 50 := by kernel_rfl
theorem words_of {W : World} (h : laidMetH Tryz.prog Rows.eventReadsRow.laid W) (i : Nat) (z : List UInt8) (hi : ([[], [105, 110], [99, 104, 97, 114, 103, 101], [111, 117, 116], [99, 111, 117, 110, 116]])[i]? = some z) : W.cell? ⟨0, i, none⟩ = some (.string ⟨z.toArray⟩) :=
  strsIs_of_head gWords tWords Tryz.underlying50 Tryz.underlying9 (by kernel_rfl) (by kernel_rfl) (zs := [[], [105, 110], [99, 104, 97, 114, 103, 101], [111, 117, 116], [99, 111, 117, 110, 116]]) (plain_of h).tail.tail.tail.tail.tail.tail.tail i z hi
theorem gSyn : Tryz.prog.globalNamed "strconv.ErrSyntax" = some 3 := by kernel_rfl
theorem tSyn : (Tryz.prog.globals[3]?).map (·.type) = some 32 := by kernel_rfl
theorem syn_of {W : World} (h : laidMetH Tryz.prog Rows.eventReadsRow.laid W) : ∃ tp p, W.var? Tryz.prog "strconv.ErrSyntax" = some #[.iface tp p] := by
  obtain ⟨a0, s0, hv0, -, -, -⟩ := laid_sentinel (plain_of h).tail.tail.tail.tail.tail gSyn tSyn Tryz.underlying32 rowErr Tryz.underlying155 Tryz.underlying157 rfl rfl Tryz.underlying9 (by kernel_rfl) (by kernel_rfl)
  exact ⟨_, _, hv0⟩
theorem gRng : Tryz.prog.globalNamed "strconv.ErrRange" = some 4 := by kernel_rfl
theorem tRng : (Tryz.prog.globals[4]?).map (·.type) = some 32 := by kernel_rfl
theorem rng_of {W : World} (h : laidMetH Tryz.prog Rows.eventReadsRow.laid W) : ∃ tp p, W.var? Tryz.prog "strconv.ErrRange" = some #[.iface tp p] := by
  obtain ⟨a0, s0, hv0, -, -, -⟩ := laid_sentinel (plain_of h).tail.tail.tail.tail gRng tRng Tryz.underlying32 rowErr Tryz.underlying155 Tryz.underlying157 rfl rfl Tryz.underlying9 (by kernel_rfl) (by kernel_rfl)
  exact ⟨_, _, hv0⟩
theorem gEt : Tryz.prog.globalNamed "errors.errorType" = some 8 := by kernel_rfl
theorem rtR : (Tryz.prog.cutTypes.find? (·.1 == "internal/reflectlite.rtype")).map (·.2) = some 160 := by kernel_rfl
theorem oneRow : ((List.range 202).filter fun t => Tryz.prog.rowNamed t [101, 114, 114, 111, 114]) = [32] := by kernel_rfl
theorem size : Tryz.prog.types.size = 202 := by kernel_rfl
theorem err_of {W : World} (h : laidMetH Tryz.prog Rows.eventReadsRow.laid W) : EW W := by
  obtain ⟨name, u, ty, e1, e2, e3, e4, e5⟩ := (parts_of h).2 _ (List.mem_singleton.2 rfl)
  have en : name = [101, 114, 114, 111, 114] := (Option.some.inj e1).symm
  subst en
  obtain rfl := Option.some.inj (rtR.symm.trans e2)
  have hm : ty ∈ (List.range 202).filter fun t => Tryz.prog.rowNamed t [101, 114, 114, 111, 114] := List.mem_filter.2 ⟨List.mem_range.2 (by rw [← size]; exact e3), e4⟩
  rw [oneRow] at hm
  obtain rfl := List.mem_singleton.1 hm
  have hh : typeHandle Tryz.prog 32 = .pointer (some ⟨11, 32, none⟩) := by kernel_rfl
  rw [hh] at e5
  unfold EW
  simpa using World.var?_cell gEt e5 0
theorem most_of {W : World} (h : W.ShapedOpen Tryz.prog) : ∃ m, W.cell? ⟨1, 0, none⟩ = some (.int .i64 m) :=
  Go.Proofs.cell_of_shapedOpen_int (zero := #[.int .i64 0]) (t := 3) h (of_decide_eq_true (by kernel_rfl)) (by kernel_rfl) rfl (by kernel_rfl) (by kernel_rfl) Tryz.underlying3
theorem xw_of {W : World} (hL : laidMetH Tryz.prog Rows.eventReadsRow.laid W) (hS : W.ShapedOpen Tryz.prog) : XW W := ⟨⟨⟨len_of hL, pow_of hL, syn_of hL⟩, ⟨pow_of hL, syn_of hL, rng_of hL, most_of hS⟩, words_of hL 1 _ rfl, words_of hL 2 _ rfl, words_of hL 3 _ rfl, words_of hL 4 _ rfl⟩, ⟨⟨len_of hL, pow_of hL, syn_of hL⟩, rng_of hL, most_of hS⟩, err_of hL⟩

/-- A table's cells, as a row lists it. -/
def flatCells (d : DataW Unit) : Array Value := match d with
  | .agg ps => (ps.flatMap fun p => match p with
    | .lit (.int k z) => [Value.int k z]
    | .lit (.string b) => [Value.string ⟨b.toArray⟩]
    | .agg qs => qs.map fun q => match q with
      | .lit (.int k z) => Value.int k z
      | _ => undef
    | _ => [undef]).toArray
  | _ => #[]
def put (cs : Array Value) (o : Obj) : Obj := match o with
  | .cells _ t frozen => .cells cs t frozen
  | o => o
noncomputable def lowB : Nat := (World.holding Tryz.prog default ⟨#[], #[], []⟩).heap.size
/-- A start that holds what the list tells. -/
noncomputable def laidWorld (os : Os) : World :=
  let w0 := World.holding Tryz.prog os ⟨#[.cells #[.string ⟨#[118, 97, 108, 117, 101, 32, 111, 117, 116, 32, 111, 102, 32, 114, 97, 110, 103, 101]⟩] 157, .cells #[.string ⟨#[105, 110, 118, 97, 108, 105, 100, 32, 115, 121, 110, 116, 97, 120]⟩] 157], #[], []⟩
  { w0 with heap := ((((((((((w0.heap.modify 4 (put #[.iface 155 (.pointer (some ⟨lowB + 0, 0, none⟩))])).modify 3 (put #[.iface 155 (.pointer (some ⟨lowB + 1, 0, none⟩))])).modify 8 (put #[.iface 160 (.agg #[.pointer (some ⟨11, 32, none⟩)])])).modify 9 (put (flatCells Rows.laid_math_bits_deBruijn32tab))).modify 10 (put (flatCells Rows.laid_math_bits_deBruijn64tab))).modify 7 (put (flatCells Rows.laid_internal_strconv_uint64pow10))).modify 6 (put (flatCells Rows.laid_unicode_utf8_acceptRanges))).modify 2 (put (flatCells Rows.laid_tallyman_day_lengths))).modify 0 (put (flatCells Rows.laid_tallyman_event_words))).modify 5 (put (flatCells Rows.laid_unicode_utf8_first))) }
theorem laid_plain (os : Os) (args : Array Value) : laidMet Tryz.prog [("math/bits.deBruijn32tab", Rows.laid_math_bits_deBruijn32tab), ("math/bits.deBruijn64tab", Rows.laid_math_bits_deBruijn64tab), ("internal/strconv.uint64pow10", Rows.laid_internal_strconv_uint64pow10), ("unicode/utf8.acceptRanges", Rows.laid_unicode_utf8_acceptRanges), ("strconv.ErrRange", Rows.laid_strconv_ErrRange), ("strconv.ErrSyntax", Rows.laid_strconv_ErrSyntax), ("tallyman/day.lengths", Rows.laid_tallyman_day_lengths), ("tallyman/event.words", Rows.laid_tallyman_event_words), ("unicode/utf8.first", Rows.laid_unicode_utf8_first)] ((laidWorld os).forCall (fun _ _ => 0) ⟨#[], args, []⟩).memory :=
  laidMet_of_run' 8 (by kernel_rfl) (by kernel_rfl)
theorem laid_met (os : Os) (args : Array Value) : laidMetH Tryz.prog Rows.eventReadsRow.laid ((laidWorld os).forCall (fun _ _ => 0) ⟨#[], args, []⟩).memory :=
  laidMetH_of_parts (laid_plain os args) (by kernel_rfl)
end Go.Proofs.YtjmeefmofbpbnaaGreatDoor.eventReads
