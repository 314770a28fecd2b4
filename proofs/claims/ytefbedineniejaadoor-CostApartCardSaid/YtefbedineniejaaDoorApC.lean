/- CostApart's closures. -/
import Derived.Test.YtefbedineniejaaDoorDelN
import Derived.Test.YtefbedineniejaaDoorApP
import Derived.Test.YtefbedineniejaaDoorDelE
namespace Go.Proofs.YtefbedineniejaaDoor
open Go.RowKit
open Go.Maps (Keyed)
set_option linter.unusedVariables false

set_option maxHeartbeats 1000000 in
theorem notItemA_any (e : Evt) (R I ib io n ic k : Nat) (s : ByteArray) (w : World) (hR : w.cell? ⟨R, 0, none⟩ = some (.slice (some ⟨ib, io, none⟩) n ic)) (hI : w.cell? ⟨I, 0, none⟩ = some (.int .i64 k)) (hk : k < n) (hc : w.cell? ⟨ib, io + k, none⟩ = some (.string s)) :
    Calls Tryd.prog 31 #[e.agg, .pointer (some ⟨R, 0, none⟩), .pointer (some ⟨I, 0, none⟩)] w fun x w' => x = .returned (.bool (!decide (e.item.data.toList = s.data.toList))) ∧ Below w.heap.size w w' := by
  obtain ⟨i, it, kd, q, p, o, d⟩ := e
  have hRl := cell_lt hR
  have hIl := cell_lt hI
  have hcl := cell_lt hc
  have hkz : (k : Int) < (n : Int) := by omega
  obtain ⟨W1, hW1⟩ : ∃ W1, W1 = w.alloc (.cells #[.int .i64 i, .string it, .int .i64 kd, .int .i64 q, .int .i64 p, .int .i64 o, .int .i64 d] 50) := ⟨_, rfl⟩
  have hb1 : Below w.heap.size w W1 := by rw [hW1]; exact (Below.refl _ w).new _
  have h1 : W1.cell? ⟨w.heap.size, 1, none⟩ = some (.string it) := by rw [hW1]; exact new_at w _ _ 1 _ rfl
  have r1 := (hb1.cell (p := ⟨R, 0, none⟩) hRl).trans hR
  have r2 := (hb1.cell (p := ⟨I, 0, none⟩) hIl).trans hI
  have r3 := (hb1.cell (p := ⟨ib, io + k, none⟩) hcl).trans hc
  have HW1 := Lib.hid hW1
  have HB := Lib.hid hb1
  clear hW1 hb1 hR hI hc
  simp only [Evt.agg]
  by_cases he : it.data.toList = s.data.toList
  · have e1 : (it.toList == s.toList) = true := by rw [ba_list, ba_list, he]; simp
    have e2 : (it.toList != s.toList) = false := by rw [ba_list, ba_list, he]; simp
    have HE : Hid ((!decide (it.data.toList = s.data.toList)) = false) := Lib.hid (by rw [he]; simp)
    rw [HE.out]
    clear he
    go_enter Tryd.func31, Tryd.ntmps31
    go_wp2_with fail
    rw [← HW1.out]
    go_quiet (fail)
    go_wp2_with fail
    go_ret
    exact ⟨rfl, below_drewN HB.out nq⟩
  · have hl : it.toList ≠ s.toList := fun h => he (by rw [ba_list, ba_list] at h; exact h)
    have e1 : (it.toList == s.toList) = false := by simpa using hl
    have e2 : (it.toList != s.toList) = true := by simpa using hl
    have HE : Hid ((!decide (it.data.toList = s.data.toList)) = true) := Lib.hid (by simp [he])
    rw [HE.out]
    clear he hl
    go_enter Tryd.func31, Tryd.ntmps31
    go_wp2_with fail
    rw [← HW1.out]
    go_quiet (fail)
    go_wp2_with fail
    go_ret
    exact ⟨rfl, below_drewN HB.out nq⟩
set_option maxHeartbeats 1000000 in
theorem apart21_any (e : Evt) (X : Nat) (z : Int) (w : World) (hX : w.cell? ⟨X, 0, none⟩ = some (.int .i64 z)) : Calls Tryd.prog 35 #[e.agg, .pointer (some ⟨X, 0, none⟩)] w fun x w' => x = .returned (.bool (e.id == z)) ∧ Below w.heap.size w w' := by
  obtain ⟨i, s, k, q, p, o, d⟩ := e
  have hl : X < w.heap.size := cell_lt hX
  go_enter Tryd.func35, Tryd.ntmps35
  go_wp2
  go_ret
  exact ⟨rfl, (Below.refl _ w).new _⟩
set_option maxHeartbeats 1000000 in
theorem apart2_any (x : Ln) (X hi : Nat) (v : Value) (M : List Evt) (w : World) (hX : w.cell? ⟨X, 0, none⟩ = some v) (hr : RdE hi w v M) (hh : hi ≤ w.heap.size) (hlen : M.length ≤ 1000) : Calls Tryd.prog 34 #[x.agg, .pointer (some ⟨X, 0, none⟩)] w fun y w' => y = .returned (.bool (!M.any fun e => e.id == x.id)) ∧ Below w.heap.size w w' := by
  obtain ⟨xi, xv, xs, xl, xg⟩ := x
  have hl : X < w.heap.size := cell_lt hX
  obtain ⟨a, c, rfl⟩ := hr.shape
  obtain ⟨W1, hW1⟩ : ∃ W1, W1 = w.alloc (.cells #[.int .i64 xi, .int .i64 xv, .int .i64 xs, .int .i64 xl, .bool xg] 54) := ⟨_, rfl⟩
  have hb1 : Below w.heap.size w W1 := by rw [hW1]; exact (Below.refl _ w).new _
  have hc1 : W1.cell? ⟨w.heap.size, 0, none⟩ = some (.int .i64 xi) := by rw [hW1]; exact new_at w _ _ 0 _ rfl
  have hcl : w.heap.size < W1.heap.size := cell_lt hc1
  have HCE := Lib.hid (containsE_any 35 #[.pointer (some ⟨w.heap.size, 0, none⟩)] (fun e => e.id == xi) hi (.slice a M.length c) M W1 (hr.below (hb1.mono hh)) (Nat.le_trans hh hb1.size) hlen (enters_of Tryd.func35 (by kernel_rfl) rfl) (fun e he W hW => apart21_any e _ xi W ((hW.cell (p := ⟨w.heap.size, 0, none⟩) hcl).trans hc1)))
  have HW1 := Lib.hid hW1
  have HB1 := Lib.hid hb1
  clear hW1 hb1 hr hc1 hcl
  simp only [Ln.agg]
  generalize (M.any fun e => e.id == xi) = b at HCE ⊢
  go_enter Tryd.func34, Tryd.ntmps34
  go_wp2_with fail
  rw [← HW1.out]
  refine HCE.out.mono ?_
  rintro e w2 ⟨rfl, hb2⟩
  go_wp2_with fail
  go_ret
  exact ⟨rfl, HB1.out.step hb2⟩
end Go.Proofs.YtefbedineniejaaDoor
