/- strconv.Atoi at every text: a number, and an error or none. -/
import Derived.Test.YtmkfdmbjeppndaaDoorDayR
import Derived.Shelf.Strconv.ErrVarAll
namespace Go.Proofs.YtmkfdmbjeppndaaDoor
open Go.RowKit

/-- What the reference's reading of a day asks of the world, beside DW. -/
structure DR (w : World) : Prop where
  dw : DW w
  rng : ∃ tp p, w.var? Tryd.prog "strconv.ErrRange" = some #[.iface tp p]
  most : ∃ m, w.cell? ⟨3, 0, none⟩ = some (.int .i64 m)

theorem gRng : Tryd.prog.globalNamed "strconv.ErrRange" = some 2 := by kernel_rfl
theorem DR.below {w w' : World} (h : DR w) (hb : Below w.heap.size w w') : DR w' := by
  refine ⟨h.dw.below hb, ?_, ?_⟩
  · obtain ⟨tp, p, hs⟩ := h.rng
    exact ⟨tp, p, Joins.var_stays gRng hs hb (Nat.le_refl _)⟩
  · obtain ⟨m, hm⟩ := h.most
    exact ⟨m, by rw [hb.cell (p := ⟨3, 0, none⟩) (cell_lt hm), hm]⟩

def AtoiX (w : World) (e : Ending) (w' : World) : Prop :=
  ∃ (v : Int) (er : Value), e = .returned (.tuple #[.int .i64 v, er]) ∧ (er = .nilIface ∨ ∃ N, er = .iface 89 (.pointer (some ⟨N, 0, none⟩))) ∧ Below w.heap.size w w'

theorem atoi_x (s : ByteArray) (w : World) (hw : DR w) (hl : s.size ≤ 100) : Calls Tryd.prog 32 #[.string s] w (AtoiX w) := by
  obtain ⟨tp, p, hv⟩ := hw.dw.syn
  obtain ⟨tq, q, hr⟩ := hw.rng
  rcases h : Lib.atoiAll s.data.toList with v | _ | _
  · refine (Tryd.strconv_Atoi_ok s (by omega) v h w).mono ?_
    rintro e w' ⟨rfl, rfl | ⟨t, rfl⟩⟩
    · exact ⟨v, _, rfl, Or.inl rfl, Below.refl _ _⟩
    · exact ⟨v, _, rfl, Or.inl rfl, Lib.bytesWorld_below _ _ _⟩
  · refine (Any.strconv_Atoi_syntax_var Tryd.laysC172 s (by omega) h tp p w hv).mono ?_
    rintro e w' ⟨N, rfl, -, -, hb⟩
    exact ⟨0, _, rfl, Or.inr ⟨N, rfl⟩, hb⟩
  · refine (Any.strconv_Atoi_range_var Tryd.laysC172 s (by omega) h tq q w hr).mono ?_
    rintro e w' ⟨N, rfl, -, -, hb⟩
    exact ⟨_, _, rfl, Or.inr ⟨N, rfl⟩, hb⟩
end Go.Proofs.YtmkfdmbjeppndaaDoor
