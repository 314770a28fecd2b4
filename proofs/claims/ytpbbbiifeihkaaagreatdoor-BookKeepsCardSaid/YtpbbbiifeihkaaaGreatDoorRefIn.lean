/- tallymanref.in: what it hands back. -/
import Derived.Test.YtpbbbiifeihkaaaGreatDoorLawLift
import Derived.Test.YtpbbbiifeihkaaaGreatDoorBase
import Derived.WalkKit
import Derived.WalkSpells
import Derived.WalkLawsBesides
import Derived.Handy
import Derived.Lib.Hide
namespace Go.Proofs.YtpbbbiifeihkaaaGreatDoor
open Go.RowKit

/-- It hands this back; the world is the same. -/
def Same (v : Value) (w : World) (e : Ending) (w' : World) : Prop := e = .returned v ∧ w = w'

theorem in_yes (n lo hi : Int) (w : World) (h1 : lo ≤ n) (h2 : n ≤ hi) : Calls Tryz.prog 53 #[.int .i64 n, .int .i64 lo, .int .i64 hi] w (Same (.bool true) w) := by
  go_enter Tryz.func53, Tryz.ntmps53
  go_wp2
  go_ret
  exact ⟨rfl, rfl⟩
theorem in_no (n lo hi : Int) (w : World) (h : n < lo ∨ hi < n) : Calls Tryz.prog 53 #[.int .i64 n, .int .i64 lo, .int .i64 hi] w (Same (.bool false) w) := by
  by_cases h1 : lo ≤ n
  · have h2 : ¬ n ≤ hi := by omega
    clear h
    have h3 : decide (n ≤ hi) = false := by simpa using h2
    go_enter Tryz.func53, Tryz.ntmps53
    go_wp2
    go_ret
    exact ⟨rfl, rfl⟩
  · clear h
    go_enter Tryz.func53, Tryz.ntmps53
    go_wp2
    go_ret
    exact ⟨rfl, rfl⟩
end Go.Proofs.YtpbbbiifeihkaaaGreatDoor
