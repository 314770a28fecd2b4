/- money.Part: what it hands back. -/
import Derived.Test.YtackpcohmmlkeaaGreatDoorRows
import Derived.WalkKit
import Derived.WalkSpells
import Derived.WalkLawsBesides
import Derived.Deep.QuietTactic
import Derived.BigQuiet
namespace Go.Proofs.YtackpcohmmlkeaaGreatDoor
open Go.RowKit

theorem part_math (t s m : Int) (hm : 1 ≤ m) : t / m * s + t % m * s / m = t * s / m := by
  have h := Int.mul_ediv_add_emod t m
  have e : t * s = t % m * s + (t / m * s) * m := by
    have : t * s = (m * (t / m) + t % m) * s := by rw [h]
    rw [this, Int.add_mul]; rw [Int.mul_comm m (t / m), Int.mul_assoc, Int.mul_comm m s, ← Int.mul_assoc]; omega
  rw [e, Int.add_mul_ediv_right _ _ (by omega)]; omega

theorem part_le (t s m : Int) (h1 : 0 ≤ t) (h3 : 1 ≤ m) (h5 : 0 ≤ s) (h6 : s ≤ m) : 0 ≤ t * s / m ∧ t * s / m ≤ t := by
  constructor
  · exact Int.ediv_nonneg (Int.mul_nonneg h1 h5) (by omega)
  · have : t * s ≤ t * m := Int.mul_le_mul_of_nonneg_left h6 h1
    calc t * s / m ≤ t * m / m := Int.ediv_le_ediv (by omega) this
      _ = t := Int.mul_ediv_cancel _ (by omega)

theorem part_wrap (t s m M : Int) (h1 : 0 ≤ t) (h2 : t ≤ 20000000000000) (h3 : 1 ≤ m) (h4 : m ≤ M) (hM : M ≤ 1000000000) (h5 : 0 ≤ s) (h6 : s ≤ m) :
    wrap64 (wrap64 (t / m * s) + wrap64 ((wrap64 (t % m * s)).tdiv m)) = t * s / m := by
  have a0 : 0 ≤ t / m := Int.ediv_nonneg h1 (by omega)
  have a1 : 0 ≤ t / m * s := Int.mul_nonneg a0 h5
  have a2 : t / m * s ≤ t / m * m := Int.mul_le_mul_of_nonneg_left h6 a0
  have a3 : t / m * m ≤ t := Int.ediv_mul_le _ (by omega)
  have b0 : 0 ≤ t % m := Int.emod_nonneg _ (by omega)
  have b1 : t % m < m := Int.emod_lt_of_pos _ (by omega)
  have b2 : 0 ≤ t % m * s := Int.mul_nonneg b0 h5
  have b3 : t % m * s ≤ m * s := Int.mul_le_mul_of_nonneg_right (by omega) h5
  have b4 : m * s ≤ 1000000000 * 1000000000 := Int.mul_le_mul (by omega) (by omega) h5 (by omega)
  have c := part_le t s m h1 h3 h5 h6
  have d := part_math t s m h3
  rw [IntWalk.wrap64_in (t / m * s) ⟨by omega, by omega⟩, IntWalk.wrap64_in (t % m * s) ⟨by omega, by omega⟩, Int.tdiv_eq_ediv_of_nonneg b2]
  have e0 : 0 ≤ t % m * s / m := Int.ediv_nonneg b2 (by omega)
  rw [IntWalk.wrap64_in (t % m * s / m) ⟨by omega, by omega⟩, d, IntWalk.wrap64_in _ ⟨by omega, by omega⟩]

theorem two_of {k : IntKind} {a b : Int} {v : Value} (h : a = b) : Ending.returned (.tuple #[.int k a, v]) = .returned (.tuple #[.int k b, v]) := by rw [h]

set_option maxHeartbeats 400000 in
theorem part_ok (t s m : Int) (w : World) (h1 : 0 ≤ t) (h2 : t ≤ 20000000000000) (h3 : 1 ≤ m) (h4 : m ≤ 100000) (h5 : 0 ≤ s) (h6 : s ≤ m) :
    Calls Tryz.prog 137 #[.int .i64 t, .int .i64 s, .int .i64 m] w fun e w' => e = .returned (.tuple #[.int .i64 (t * s / m), .nilIface]) ∧ ∃ n, w' = w.drewN n := by
  go_enter Tryz.func137, Tryz.ntmps137
  go_wp2
  go_quiet (fail)
  go_wp2
  go_ret2
  exact ⟨two_of (part_wrap t s m 100000 h1 h2 h3 h4 (by omega) h5 h6), _, rfl⟩
end Go.Proofs.YtackpcohmmlkeaaGreatDoor
