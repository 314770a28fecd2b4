/- tallymanref.in, tallymanref.days: what they hand back. -/
import Derived.Test.YtjmeefmofbpbnaaGreatDoorJoined1
import Derived.Test.YtjmeefmofbpbnaaGreatDoorJoined4
import Derived.Test.YtjmeefmofbpbnaaGreatDoorBase
import Derived.WalkKit
import Derived.WalkSpells
import Derived.WalkLawsBesides
import Derived.Handy
import Derived.Lib.Hide
import Derived.Test.YtjmeefmofbpbnaaGreatDoorJoined14
namespace Go.Proofs.YtjmeefmofbpbnaaGreatDoor
open Go.RowKit


theorem idx1 (w : World) : (Instr.index 111 (.agg #[.int .i64 0, .int .i64 31, .int .i64 28, .int .i64 31, .int .i64 30, .int .i64 31, .int .i64 30, .int .i64 31, .int .i64 31, .int .i64 30, .int .i64 31, .int .i64 30, .int .i64 31]) (.int .i64 1)).run Tryz.prog w = .ok (.int .i64 31) w := by kernel_rfl
theorem idx2 (w : World) : (Instr.index 111 (.agg #[.int .i64 0, .int .i64 31, .int .i64 28, .int .i64 31, .int .i64 30, .int .i64 31, .int .i64 30, .int .i64 31, .int .i64 31, .int .i64 30, .int .i64 31, .int .i64 30, .int .i64 31]) (.int .i64 2)).run Tryz.prog w = .ok (.int .i64 28) w := by kernel_rfl
theorem idx3 (w : World) : (Instr.index 111 (.agg #[.int .i64 0, .int .i64 31, .int .i64 28, .int .i64 31, .int .i64 30, .int .i64 31, .int .i64 30, .int .i64 31, .int .i64 31, .int .i64 30, .int .i64 31, .int .i64 30, .int .i64 31]) (.int .i64 3)).run Tryz.prog w = .ok (.int .i64 31) w := by kernel_rfl
theorem idx4 (w : World) : (Instr.index 111 (.agg #[.int .i64 0, .int .i64 31, .int .i64 28, .int .i64 31, .int .i64 30, .int .i64 31, .int .i64 30, .int .i64 31, .int .i64 31, .int .i64 30, .int .i64 31, .int .i64 30, .int .i64 31]) (.int .i64 4)).run Tryz.prog w = .ok (.int .i64 30) w := by kernel_rfl
theorem idx5 (w : World) : (Instr.index 111 (.agg #[.int .i64 0, .int .i64 31, .int .i64 28, .int .i64 31, .int .i64 30, .int .i64 31, .int .i64 30, .int .i64 31, .int .i64 31, .int .i64 30, .int .i64 31, .int .i64 30, .int .i64 31]) (.int .i64 5)).run Tryz.prog w = .ok (.int .i64 31) w := by kernel_rfl
theorem idx6 (w : World) : (Instr.index 111 (.agg #[.int .i64 0, .int .i64 31, .int .i64 28, .int .i64 31, .int .i64 30, .int .i64 31, .int .i64 30, .int .i64 31, .int .i64 31, .int .i64 30, .int .i64 31, .int .i64 30, .int .i64 31]) (.int .i64 6)).run Tryz.prog w = .ok (.int .i64 30) w := by kernel_rfl
theorem idx7 (w : World) : (Instr.index 111 (.agg #[.int .i64 0, .int .i64 31, .int .i64 28, .int .i64 31, .int .i64 30, .int .i64 31, .int .i64 30, .int .i64 31, .int .i64 31, .int .i64 30, .int .i64 31, .int .i64 30, .int .i64 31]) (.int .i64 7)).run Tryz.prog w = .ok (.int .i64 31) w := by kernel_rfl
theorem idx8 (w : World) : (Instr.index 111 (.agg #[.int .i64 0, .int .i64 31, .int .i64 28, .int .i64 31, .int .i64 30, .int .i64 31, .int .i64 30, .int .i64 31, .int .i64 31, .int .i64 30, .int .i64 31, .int .i64 30, .int .i64 31]) (.int .i64 8)).run Tryz.prog w = .ok (.int .i64 31) w := by kernel_rfl
theorem idx9 (w : World) : (Instr.index 111 (.agg #[.int .i64 0, .int .i64 31, .int .i64 28, .int .i64 31, .int .i64 30, .int .i64 31, .int .i64 30, .int .i64 31, .int .i64 31, .int .i64 30, .int .i64 31, .int .i64 30, .int .i64 31]) (.int .i64 9)).run Tryz.prog w = .ok (.int .i64 30) w := by kernel_rfl
theorem idx10 (w : World) : (Instr.index 111 (.agg #[.int .i64 0, .int .i64 31, .int .i64 28, .int .i64 31, .int .i64 30, .int .i64 31, .int .i64 30, .int .i64 31, .int .i64 31, .int .i64 30, .int .i64 31, .int .i64 30, .int .i64 31]) (.int .i64 10)).run Tryz.prog w = .ok (.int .i64 31) w := by kernel_rfl
theorem idx11 (w : World) : (Instr.index 111 (.agg #[.int .i64 0, .int .i64 31, .int .i64 28, .int .i64 31, .int .i64 30, .int .i64 31, .int .i64 30, .int .i64 31, .int .i64 31, .int .i64 30, .int .i64 31, .int .i64 30, .int .i64 31]) (.int .i64 11)).run Tryz.prog w = .ok (.int .i64 30) w := by kernel_rfl
theorem idx12 (w : World) : (Instr.index 111 (.agg #[.int .i64 0, .int .i64 31, .int .i64 28, .int .i64 31, .int .i64 30, .int .i64 31, .int .i64 30, .int .i64 31, .int .i64 31, .int .i64 30, .int .i64 31, .int .i64 30, .int .i64 31]) (.int .i64 12)).run Tryz.prog w = .ok (.int .i64 31) w := by kernel_rfl

set_option maxHeartbeats 1000000 in
set_option maxRecDepth 100000 in
theorem days_2 (y : Int) (w : World) (h0 : 0 ≤ y) (h1 : y ≤ 3000) :
    Calls Tryz.prog 61 #[.int .i64 y, .int .i64 2] w (Same (.int .i64 (Dy.len y 2)) w) := by
  have fi := idx2 w
  have h := Dy.leap_iff y
  by_cases c400 : y % 400 = 0
  · have e : Dy.leap y = true := by rw [h]; omega
    rw [show Dy.len y 2 = 29 by simp [Dy.len, e]]; clear h e
    go_enter Tryz.func61, Tryz.ntmps61
    go_wp2
    go_ret
    exact ⟨rfl, rfl⟩
  · by_cases c4 : y % 4 = 0
    · by_cases c100 : y % 100 = 0
      · have e : Dy.leap y = false := by simp only [Dy.leap, c4, c100, c400]; rfl
        rw [show Dy.len y 2 = 28 by simp [Dy.len, e, Dy.lens]]; clear h e
        go_enter Tryz.func61, Tryz.ntmps61
        go_wp2
        go_ret
        exact ⟨rfl, rfl⟩
      · have e : Dy.leap y = true := by rw [h]; omega
        have c100' : (y % 100 != 0) = true := by simpa using c100
        have c400' : (y % 400 == 0) = false := by simpa using c400
        rw [show Dy.len y 2 = 29 by simp [Dy.len, e]]; clear h e
        go_enter Tryz.func61, Tryz.ntmps61
        go_wp2
        go_ret
        exact ⟨rfl, rfl⟩
    · have e : Dy.leap y = false := by simp only [Dy.leap, c4]; rfl
      rw [show Dy.len y 2 = 28 by simp [Dy.len, e, Dy.lens]]; clear h e
      go_enter Tryz.func61, Tryz.ntmps61
      go_wp2
      go_ret
      exact ⟨rfl, rfl⟩

set_option maxHeartbeats 1000000 in
set_option maxRecDepth 100000 in
theorem days_any (y : Int) (m : Nat) (w : World) (h0 : 0 ≤ y) (h1 : y ≤ 3000) (m0 : 1 ≤ m) (m1 : m ≤ 12) :
    Calls Tryz.prog 61 #[.int .i64 y, .int .i64 m] w (Same (.int .i64 (Dy.len y m)) w) := by
  have hm : m = 2 ∨ (m = 1 ∨ m = 3 ∨ m = 4 ∨ m = 5 ∨ m = 6 ∨ m = 7 ∨ m = 8 ∨ m = 9 ∨ m = 10 ∨ m = 11 ∨ m = 12) := by omega
  rcases hm with rfl | hm
  · exact days_2 y w h0 h1
  · have e : Dy.len y m = Dy.lens.getD m 0 := by unfold Dy.len; rw [if_neg (by omega)]
    rw [e]
    clear e m0 m1
    rcases hm with rfl | rfl | rfl | rfl | rfl | rfl | rfl | rfl | rfl | rfl | rfl
    · have fi := idx1 w
      go_enter Tryz.func61, Tryz.ntmps61
      go_wp2
      go_ret
      exact ⟨rfl, rfl⟩
    · have fi := idx3 w
      go_enter Tryz.func61, Tryz.ntmps61
      go_wp2
      go_ret
      exact ⟨rfl, rfl⟩
    · have fi := idx4 w
      go_enter Tryz.func61, Tryz.ntmps61
      go_wp2
      go_ret
      exact ⟨rfl, rfl⟩
    · have fi := idx5 w
      go_enter Tryz.func61, Tryz.ntmps61
      go_wp2
      go_ret
      exact ⟨rfl, rfl⟩
    · have fi := idx6 w
      go_enter Tryz.func61, Tryz.ntmps61
      go_wp2
      go_ret
      exact ⟨rfl, rfl⟩
    · have fi := idx7 w
      go_enter Tryz.func61, Tryz.ntmps61
      go_wp2
      go_ret
      exact ⟨rfl, rfl⟩
    · have fi := idx8 w
      go_enter Tryz.func61, Tryz.ntmps61
      go_wp2
      go_ret
      exact ⟨rfl, rfl⟩
    · have fi := idx9 w
      go_enter Tryz.func61, Tryz.ntmps61
      go_wp2
      go_ret
      exact ⟨rfl, rfl⟩
    · have fi := idx10 w
      go_enter Tryz.func61, Tryz.ntmps61
      go_wp2
      go_ret
      exact ⟨rfl, rfl⟩
    · have fi := idx11 w
      go_enter Tryz.func61, Tryz.ntmps61
      go_wp2
      go_ret
      exact ⟨rfl, rfl⟩
    · have fi := idx12 w
      go_enter Tryz.func61, Tryz.ntmps61
      go_wp2
      go_ret
      exact ⟨rfl, rfl⟩
end Go.Proofs.YtjmeefmofbpbnaaGreatDoor
