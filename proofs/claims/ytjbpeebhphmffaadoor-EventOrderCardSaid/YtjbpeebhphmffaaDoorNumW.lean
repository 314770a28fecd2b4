/- strconv at every number and at texts of at most 100 bytes; what the walks over numbers as text ask of the world. -/
import Derived.Test.YtjbpeebhphmffaaDoorBase
import Derived.Test.YtjbpeebhphmffaaDoorLawLift
import Derived.Test.YtjbpeebhphmffaaDoorShelf
import Derived.Shelf.Strconv.ErrVarAll
import Derived.Lib.Hide
import Derived.Lib.LaidTab
import Derived.Lib.SmallJoins
import Derived.WalkSpells
import Derived.WalkLawsBesides
import Derived.Handy
namespace Go.Proofs.YtjbpeebhphmffaaDoor
open Go.RowKit

/-- What the laid variables of strconv and of the search in texts hold. -/
structure NW (w : World) : Prop where
  pow : Lib.TabIs Tryd.prog w "internal/strconv.uint64pow10" .u64 Lib.pow10Tab
  syn : ∃ tp p, w.var? Tryd.prog "strconv.ErrSyntax" = some #[.iface tp p]
  rng : ∃ tp p, w.var? Tryd.prog "strconv.ErrRange" = some #[.iface tp p]
  most : ∃ m, w.cell? ⟨2, 0, none⟩ = some (.int .i64 m)
namespace NW
theorem gPow : Tryd.prog.globalNamed "internal/strconv.uint64pow10" = some 5 := by kernel_rfl
theorem gSyn : Tryd.prog.globalNamed "strconv.ErrSyntax" = some 3 := by kernel_rfl
theorem gRng : Tryd.prog.globalNamed "strconv.ErrRange" = some 4 := by kernel_rfl
theorem below {w w' : World} (h : NW w) (hb : Below w.heap.size w w') : NW w' := by
  refine ⟨Joins.var_stays gPow h.pow hb (Nat.le_refl _), ?_, ?_, ?_⟩
  · obtain ⟨tp, p, hs⟩ := h.syn
    exact ⟨tp, p, Joins.var_stays gSyn hs hb (Nat.le_refl _)⟩
  · obtain ⟨tp, p, hs⟩ := h.rng
    exact ⟨tp, p, Joins.var_stays gRng hs hb (Nat.le_refl _)⟩
  · obtain ⟨m, hm⟩ := h.most
    exact ⟨m, by rw [hb.cell (p := ⟨2, 0, none⟩) (cell_lt hm), hm]⟩
theorem grows (w : World) (q : Nat) (os : Array Obj) : Below w.heap.size w (Go.Sort.grow (w.drewN q) os) :=
  ⟨rfl, rfl, rfl, by simp [Go.Sort.grow], fun i hi => by
    show ((w.drewN q).heap ++ os)[i]? = _
    rw [Array.getElem?_append_left (by show i < w.heap.size; omega)]
    rfl⟩
theorem itoa_pos (n : Nat) : Lib.itoa (n : Int) = Lib.decDigits n := by rw [Lib.itoa, if_neg (by omega)]; simp
theorem itoa (n : Int) (w : World) (hw : NW w) (h0 : -9223372036854775808 ≤ n) (h1 : n ≤ 9223372036854775807) :
    Calls Tryd.prog 16 #[.int .i64 n] w (Gives (.string ⟨(Lib.itoa n).toArray⟩) w) := by
  refine (Tryd.strconv_Itoa n h0 h1 _ hw.pow).mono ?_
  rintro e w1 ⟨rfl, q, os, rfl⟩
  exact ⟨rfl, grows _ _ _⟩

/-- Atoi at a text: a number and no error, as the text reads; or some number and an error. -/
def AtoiPost (s : ByteArray) (w : World) (e : Ending) (w' : World) : Prop :=
  ∃ (v : Int) (er : Value), e = .returned (.tuple #[.int .i64 v, er]) ∧ ((Lib.atoiAll s.data.toList = .ok v ∧ er = .nilIface) ∨ ((∀ u, Lib.atoiAll s.data.toList ≠ .ok u) ∧ ∃ N, er = .iface 77 (.pointer (some ⟨N, 0, none⟩)))) ∧ Below w.heap.size w w'
theorem atoi (s : ByteArray) (w : World) (hw : NW w) (hl : s.size ≤ 1000) : Calls Tryd.prog 23 #[.string s] w (AtoiPost s w) := by
  obtain ⟨tp, p, hv⟩ := hw.syn
  obtain ⟨tq, q, hr⟩ := hw.rng
  rcases h : Lib.atoiAll s.data.toList with v | _ | _
  · refine (Tryd.strconv_Atoi_ok s (by omega) v h w).mono ?_
    rintro e w' ⟨rfl, rfl | ⟨t, rfl⟩⟩
    · exact ⟨v, _, rfl, Or.inl ⟨h, rfl⟩, Below.refl _ _⟩
    · exact ⟨v, _, rfl, Or.inl ⟨h, rfl⟩, Lib.bytesWorld_below _ _ _⟩
  · refine (Any.strconv_Atoi_syntax_var Tryd.laysC172 s (by omega) h tp p w hv).mono ?_
    rintro e w' ⟨N, rfl, -, -, hb⟩
    exact ⟨0, _, rfl, Or.inr ⟨fun u hu => by (rw [h] at hu; cases hu), N, rfl⟩, hb⟩
  · refine (Any.strconv_Atoi_range_var Tryd.laysC172 s (by omega) h tq q w hr).mono ?_
    rintro e w' ⟨N, rfl, -, -, hb⟩
    exact ⟨_, _, rfl, Or.inr ⟨fun u hu => by (rw [h] at hu; cases hu), N, rfl⟩, hb⟩
theorem atoi_ok (s : ByteArray) (v : Int) (w : World) (hl : s.size ≤ 1000) (h : Lib.atoiAll s.data.toList = .ok v) : Calls Tryd.prog 23 #[.string s] w (Gives (.tuple #[.int .i64 v, .nilIface]) w) := by
  refine (Tryd.strconv_Atoi_ok s (by omega) v h w).mono ?_
  rintro e w' ⟨rfl, rfl | ⟨t, rfl⟩⟩
  · exact ⟨rfl, Below.refl _ _⟩
  · exact ⟨rfl, Lib.bytesWorld_below _ _ _⟩
end NW
end Go.Proofs.YtjbpeebhphmffaaDoor
