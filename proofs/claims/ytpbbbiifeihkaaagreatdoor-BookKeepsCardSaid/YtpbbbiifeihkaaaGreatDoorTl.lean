/- api.Tell at an Errno and at no error. -/
import Derived.Test.YtpbbbiifeihkaaaGreatDoorErrAs
import Derived.Lib.Hide
namespace Go.Proofs.YtpbbbiifeihkaaaGreatDoor
open Go.RowKit Go.Extern.Stop Go.Stop Go.Extern

/-- What errors.As reads: the laid variable's cell. -/
def EW (w : World) : Prop := w.cell? ⟨1, 0, none⟩ = some (.iface 197 (.agg #[.pointer (some ⟨7, 113, none⟩)]))
theorem EW.below {w w' : World} (h : EW w) (hb : Below w.heap.size w w') : EW w' := by
  unfold EW at *
  rw [hb.cell (p := ⟨1, 0, none⟩) (cell_lt h), h]

theorem set_alloc4 (w : World) (o1 o2 o3 o4 : Obj) (t : Addr) (old v : Value) (B : Nat) (ht : w.cell? t = some old) (hB : B ≤ t.block) (hBw : B ≤ w.heap.size) (hlt : t.block < w.heap.size) :
    (((((w.alloc o1).alloc o2).alloc o3).alloc o4).setCell t v).cell? t = some v ∧ Below B w (((((w.alloc o1).alloc o2).alloc o3).alloc o4).setCell t v) := by
  constructor
  · refine World.cell?_setCell_same _ t v (u := old) ?_
    rw [World.cell?_alloc_lt _ _ t (by simp; omega), World.cell?_alloc_lt _ _ t (by simp; omega), World.cell?_alloc_lt _ _ t (by simp; omega), World.cell?_alloc_lt _ _ t hlt]
    exact ht
  · refine Below.setCell ?_ hB v
    exact ((((Below.refl _ _).alloc hBw _).alloc (by simp; omega) _).alloc (by simp; omega) _).alloc (by simp; omega) _

theorem tell_nil (w : World) : Calls Tryz.prog 146 #[.nilIface] w fun e w' => e = .returned (.int .i64 0) ∧ w = w' := by
  go_enter Tryz.func146, Tryz.ntmps146
  go_wp2
  go_ret
  exact ⟨rfl, rfl⟩

set_option maxHeartbeats 1000000 in
theorem tell_errno (k : Int) (w : World) (hw : EW w) : Calls Tryz.prog 146 #[.iface 109 (.int .i64 k)] w (Gives (.int .i64 k) w) := by
  have hg2 : EW (w.alloc (.cells #[.int .i64 0] 109)) := hw.below ((Below.refl _ _).alloc (Nat.le_refl _) _)
  have hA : Hid (Calls Tryz.prog 169 #[.iface 109 (.int .i64 k), .iface 233 (.pointer (some ⟨w.heap.size, 0, none⟩))] (w.alloc (.cells #[.int .i64 0] 109)) fun e w1 => e = .returned (.bool true) ∧ w1.cell? ⟨w.heap.size, 0, none⟩ = some (.int .i64 k) ∧ Below w.heap.size w w1) := by
    refine Lib.hid ((ErrAs.as_hit k ⟨w.heap.size, 0, none⟩ (.int .i64 0) (w.alloc (.cells #[.int .i64 0] 109)) hg2 (by simp) (by simp)).mono ?_)
    rintro e w1 ⟨rfl, rfl⟩
    have h4 := set_alloc4 (w.alloc (.cells #[.int .i64 0] 109)) (.cells #[.pointer (some ⟨w.heap.size, 0, none⟩)] 233) (.cells #[.pointer (some ⟨7, 233, none⟩), .pointer (some ⟨(w.alloc (.cells #[.int .i64 0] 109)).heap.size, 0, none⟩), .int .u64 150] 162) (.cells #[.pointer (some ⟨7, 233, none⟩), .pointer (some ⟨(w.alloc (.cells #[.int .i64 0] 109)).heap.size, 0, none⟩), .int .u64 150] 162) (.cells #[.int .i64 k] 109) ⟨w.heap.size, 0, none⟩ (.int .i64 0) (.int .i64 k) w.heap.size (by simp) (Nat.le_refl _) (by simp) (by simp)
    exact ⟨rfl, h4.1, ((Below.refl _ _).alloc (Nat.le_refl _) _).trans h4.2⟩
  clear hg2
  go_enter Tryz.func146, Tryz.ntmps146
  go_wp2_with fail
  refine hA.out.mono ?_
  rintro e w1 ⟨rfl, hc, hb⟩
  go_wp2_with fail
  go_ret
  exact ⟨rfl, hb⟩
end Go.Proofs.YtpbbbiifeihkaaaGreatDoor
