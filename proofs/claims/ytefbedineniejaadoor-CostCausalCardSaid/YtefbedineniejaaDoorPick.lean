/- tallymankeep.pick: what it hands back. -/
import Derived.Test.YtefbedineniejaaDoorRows
import Derived.Test.YtefbedineniejaaDoorLawLift
import Derived.Test.YtefbedineniejaaDoorBase
import Derived.WalkKit
import Derived.WalkSpells
import Derived.WalkLawsBesides
import Derived.Handy
import Derived.Lib.Hide
namespace Go.Proofs.YtefbedineniejaaDoor
open Go.RowKit

def IntIn (lo hi : Int) (w : World) (e : Ending) (w' : World) : Prop := ∃ r : Int, lo ≤ r ∧ r < hi ∧ e = .returned (.int .i64 r) ∧ w = w'

theorem pick_math (a n : Int) (h1 : 1 ≤ n) : 0 ≤ IntKind.u64.wrap a % n ∧ IntKind.u64.wrap a % n < n :=
  ⟨Int.emod_nonneg _ (by omega), Int.emod_lt_of_pos _ (by omega)⟩
theorem u64_nonneg (a : Int) : 0 ≤ IntKind.u64.wrap a := by rw [IntKind.wrap_u64]; omega

set_option maxHeartbeats 400000 in
theorem pick_any (a n : Int) (w : World) (h1 : 1 ≤ n) (h2 : n ≤ 4611686018427387904) :
    Calls Tryd.prog 29 #[.int .i64 a, .int .i64 n] w (IntIn 0 n w) := by
  have hn : IntKind.u64.wrap n = n := IntWalk.u64_in _ ⟨by omega, by omega⟩
  have hp := pick_math a n h1
  have hu := u64_nonneg a
  go_enter Tryd.func29, Tryd.ntmps29
  go_wp2
  go_ret
  refine ⟨IntKind.u64.wrap a % n, hp.1, hp.2, ?_, rfl⟩
  first | rfl | (congr 2; exact IntWalk.i64_in _ ⟨by omega, by omega⟩)

end Go.Proofs.YtefbedineniejaaDoor
