/- day.leap, day.length: what they hand back; what the walks ask of the world. -/
import Derived.Test.YtjbpeebhphmffaaDoorDayM
import Derived.Test.YtjbpeebhphmffaaDoorBase
import Derived.WalkKit
import Derived.WalkSpells
import Derived.WalkLawsBesides
import Derived.Handy
import Derived.Lib.Hide
import Derived.Lib.LaidTab
import Derived.Lib.ItoaNum
import Derived.Test.YtjbpeebhphmffaaDoorShelf
import Derived.Lib.SmallJoins
namespace Go.Proofs.YtjbpeebhphmffaaDoor
open Go.RowKit

/-- What the laid variables hold, as the walks read it. -/
structure DW (w : World) : Prop where
  len : Lib.TabIs Tryd.prog w "tallyman/day.lengths" .i64 Dy.lens
  pow : Lib.TabIs Tryd.prog w "internal/strconv.uint64pow10" .u64 Lib.pow10Tab
  syn : ∃ tp p, w.var? Tryd.prog "strconv.ErrSyntax" = some #[.iface tp p]

theorem gLengths : Tryd.prog.globalNamed "tallyman/day.lengths" = some 1 := by kernel_rfl

theorem gPow : Tryd.prog.globalNamed "internal/strconv.uint64pow10" = some 5 := by kernel_rfl
theorem gSyn : Tryd.prog.globalNamed "strconv.ErrSyntax" = some 3 := by kernel_rfl
theorem DW.below {w w' : World} (h : DW w) (hb : Below w.heap.size w w') : DW w' :=
  ⟨Joins.var_stays gLengths h.len hb (Nat.le_refl _), Joins.var_stays gPow h.pow hb (Nat.le_refl _), by
    obtain ⟨tp, p, hs⟩ := h.syn
    exact ⟨tp, p, Joins.var_stays gSyn hs hb (Nat.le_refl _)⟩⟩
theorem DW.drew {w : World} (h : DW w) (n : Nat) : DW (w.drewN n) := h.below (below_drewN (Below.refl _ _) n)

set_option maxHeartbeats 400000 in
theorem leap_any (y : Int) (w : World) (h0 : 0 ≤ y) (h1 : y ≤ 3000) :
    Calls Tryd.prog 37 #[.int .i64 y] w fun e w' => e = .returned (.bool (Dy.leap y)) ∧ w = w' := by
  have h := Dy.leap_iff y
  by_cases c4 : y % 4 = 0
  · by_cases c100 : y % 100 = 0
    · by_cases c400 : y % 400 = 0
      · have e : Dy.leap y = true := by rw [h]; omega
        rw [e]; clear h e
        go_enter Tryd.func37, Tryd.ntmps37
        go_wp2
        go_ret
        exact ⟨rfl, rfl⟩
      · have e : Dy.leap y = false := by simp only [Dy.leap, c4, c100, c400]; rfl
        have c400' : (y % 400 == 0) = false := by simpa using c400
        rw [e]; clear h e
        go_enter Tryd.func37, Tryd.ntmps37
        go_wp2
        go_ret
        exact ⟨rfl, rfl⟩
    · have e : Dy.leap y = true := by rw [h]; omega
      rw [e]; clear h e
      go_enter Tryd.func37, Tryd.ntmps37
      go_wp2
      go_ret
      exact ⟨rfl, rfl⟩
  · have e : Dy.leap y = false := by simp only [Dy.leap, c4]; rfl
    rw [e]; clear h e
    go_enter Tryd.func37, Tryd.ntmps37
    go_wp2
    go_ret
    exact ⟨rfl, rfl⟩

set_option maxHeartbeats 400000 in
theorem length_any (y : Int) (m : Nat) (w : World) (hw : DW w) (h0 : 0 ≤ y) (h1 : y ≤ 3000) (m0 : 1 ≤ m) (m1 : m ≤ 12) :
    Calls Tryd.prog 36 #[.int .i64 y, .int .i64 m] w fun e w' => e = .returned (.int .i64 (Dy.len y m)) ∧ ∃ n, w' = w.drewN n := by
  have c : w.cell? ⟨1, m, none⟩ = some (.int .i64 (Dy.lens.getD m 0)) := hw.len.cell gLengths m (by simp [Dy.lens]; omega)
  by_cases m2 : m = 2
  · subst m2
    rcases hl : Dy.leap y with _ | _
    · rw [show Dy.len y 2 = Dy.lens.getD 2 0 by simp [Dy.len, hl]]
      have HL := Lib.hid hl
      clear hl
      go_enter Tryd.func36, Tryd.ntmps36
      go_wp2_with (go_at_call 37; refine (leap_any y _ h0 h1).mono ?_; rintro e w1 ⟨rfl, rfl⟩; rw [HL.out])
      go_ret
      exact ⟨rfl, 0, rfl⟩
    · rw [show Dy.len y 2 = 29 by simp [Dy.len, hl]]
      have HL := Lib.hid hl
      clear hl
      go_enter Tryd.func36, Tryd.ntmps36
      go_wp2_with (go_at_call 37; refine (leap_any y _ h0 h1).mono ?_; rintro e w1 ⟨rfl, rfl⟩; rw [HL.out])
      go_ret
      exact ⟨rfl, 0, rfl⟩
  · rw [show Dy.len y m = Dy.lens.getD m 0 by simp [Dy.len, m2]]
    go_enter Tryd.func36, Tryd.ntmps36
    go_wp2
    go_ret
    exact ⟨rfl, 0, rfl⟩
end Go.Proofs.YtjbpeebhphmffaaDoor
