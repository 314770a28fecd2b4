/- tallymankeep.pick, counted: what they hand back. -/
import Derived.Test.YtlmlgkplpaaepaaRows
import Derived.Test.YtlmlgkplpaaepaaMoneyA
import Derived.Test.YtlmlgkplpaaepaaMoneyS
import Derived.Test.YtlmlgkplpaaepaaMoneyP
import Derived.Test.YtlmlgkplpaaepaaEqI
import Derived.Test.YtlmlgkplpaaepaaLawLift
import Derived.Test.YtlmlgkplpaaepaaBase
import Derived.WalkKit
import Derived.WalkSpells
import Derived.WalkLawsBesides
import Derived.Deep.QuietTactic
import Derived.BigQuiet
import Derived.Deep.LoopGhost
import Derived.Handy
import Derived.Lib.Hide
namespace Go.Proofs.Ytlmlgkplpaaepaa
open Go.RowKit

def IntIn (lo hi : Int) (w : World) (e : Ending) (w' : World) : Prop := ∃ r : Int, lo ≤ r ∧ r < hi ∧ e = .returned (.int .i64 r) ∧ w = w'

theorem pick_math (a n : Int) (h1 : 1 ≤ n) : 0 ≤ IntKind.u64.wrap a % n ∧ IntKind.u64.wrap a % n < n :=
  ⟨Int.emod_nonneg _ (by omega), Int.emod_lt_of_pos _ (by omega)⟩
theorem u64_nonneg (a : Int) : 0 ≤ IntKind.u64.wrap a := by rw [IntKind.wrap_u64]; omega

set_option maxHeartbeats 400000 in
theorem pick_any (a n : Int) (w : World) (h1 : 1 ≤ n) (h2 : n ≤ 4611686018427387904) :
    Calls Try.prog 10 #[.int .i64 a, .int .i64 n] w (IntIn 0 n w) := by
  have hn : IntKind.u64.wrap n = n := IntWalk.u64_in _ ⟨by omega, by omega⟩
  have hp := pick_math a n h1
  have hu := u64_nonneg a
  go_enter Try.func10, Try.ntmps10
  go_wp2
  go_ret
  refine ⟨IntKind.u64.wrap a % n, hp.1, hp.2, ?_, rfl⟩
  first | rfl | (congr 2; exact IntWalk.i64_in _ ⟨by omega, by omega⟩)


theorem print_1205 (w : World) : Calls Try.prog 18 #[.int .i64 (-1205)] w (Gives (.string ⟨#[45, 49, 50, 46, 48, 53]⟩) w) := by
  refine (print_any (-1205) w (by omega) (by omega)).mono ?_
  rintro e w' ⟨rfl, hb⟩
  exact ⟨by rw [show Mn.prt (-1205) = [45, 49, 50, 46, 48, 53] from by decide +kernel], hb⟩
theorem print_7 (w : World) : Calls Try.prog 18 #[.int .i64 7] w (Gives (.string ⟨#[48, 46, 48, 55]⟩) w) := by
  refine (print_any 7 w (by omega) (by omega)).mono ?_
  rintro e w' ⟨rfl, hb⟩
  exact ⟨by rw [show Mn.prt 7 = [48, 46, 48, 55] from by decide +kernel], hb⟩

theorem part_100 (w : World) : Calls Try.prog 12 #[.int .i64 100, .int .i64 1, .int .i64 3] w (Gives (.tuple #[.int .i64 33, .nilIface]) w) := by
  refine (part_ok 100 1 3 w (by omega) (by omega) (by omega) (by omega) (by omega) (by omega)).mono ?_
  rintro e w' ⟨rfl, n, rfl⟩
  exact ⟨rfl, below_drewN (Below.refl _ _) n⟩

def Spread111 (w : World) (e : Ending) (w' : World) : Prop := ∃ v, e = .returned (.tuple #[v, .nilIface]) ∧ w'.ownsRow w.heap.size 3 1 v 3 [.int .i64 33, .int .i64 33, .int .i64 34] ∧ Below w.heap.size w w'
theorem spread_111 (w : World) (b : Nat) (h0 : w.cell? ⟨b, 0, none⟩ = some (.int .i64 1)) (h1 : w.cell? ⟨b, 1, none⟩ = some (.int .i64 1)) (h2 : w.cell? ⟨b, 2, none⟩ = some (.int .i64 1)) :
    Calls Try.prog 11 #[.int .i64 100, .slice (some ⟨b, 0, none⟩) 3 3] w (Spread111 w) := by
  refine (spread_any 100 (some ⟨b, 0, none⟩) 3 [1, 1, 1] w ?_ (by simp)).mono ?_
  · intro j hj
    refine ⟨b, 0, rfl, ?_⟩
    simp at hj
    match j, hj with
    | 0, _ => simpa using h0
    | 1, _ => simpa using h1
    | 2, _ => simpa using h2
  · rintro e w' (⟨_, v, rfl, ho, hb⟩ | ⟨hno, _⟩)
    · exact ⟨v, rfl, ho, hb⟩
    · refine absurd ⟨by omega, by omega, ?_, by decide, by decide⟩ hno
      intro j hj
      simp at hj
      match j, hj with
      | 0, _ => decide
      | 1, _ => decide
      | 2, _ => decide

theorem equal_333 (a : Option Addr) (c b : Nat) (w : World) (hr : Rd w a [.int .i64 33, .int .i64 33, .int .i64 34]) (h0 : w.cell? ⟨b, 0, none⟩ = some (.int .i64 33)) (h1 : w.cell? ⟨b, 1, none⟩ = some (.int .i64 33)) (h2 : w.cell? ⟨b, 2, none⟩ = some (.int .i64 34)) :
    Calls Try.prog 30 #[.slice a 3 c, .slice (some ⟨b, 0, none⟩) 3 3] w (Gives (.bool true) w) := by
  refine (equal_ints_yes a _ c 3 3 3 [33, 33, 34] w rfl rfl (by simp) hr ?_).mono ?_
  · intro j hj
    refine ⟨b, 0, rfl, ?_⟩
    simp at hj
    match j, hj with
    | 0, _ => simpa using h0
    | 1, _ => simpa using h1
    | 2, _ => simpa using h2
  · rintro e w' ⟨rfl, n, rfl⟩
    exact ⟨rfl, below_drewN (Below.refl _ _) n⟩

set_option maxHeartbeats 400000 in
theorem counted_any (w : World) : Calls Try.prog 9 #[] w (Gives (.bool true) w) := by
  go_enter Try.func9, Try.ntmps9
  go_wp2_with fail
  refine (part_100 _).mono ?_
  rintro e w1 ⟨rfl, hb1⟩
  go_wp2_with fail
  refine (spread_111 _ w1.heap.size (by simp) (by simp) (by simp)).mono ?_
  rintro e w2 ⟨v, rfl, ho, hb2⟩
  obtain ⟨a, cap, rfl, hr, hc1, hc2⟩ := rd_of_own ho
  clear ho
  go_wp2_with fail
  refine (equal_333 _ _ _ _ (hr.alloc _) (by simp) (by simp) (by simp)).mono ?_
  rintro e w3 ⟨rfl, hb3⟩
  go_wp2_with fail
  refine (print_1205 _).mono ?_
  rintro e w4 ⟨rfl, hb4⟩
  go_wp2_with fail
  refine (print_7 _).mono ?_
  rintro e w5 ⟨rfl, hb5⟩
  go_wp2_with fail
  go_ret
  exact ⟨rfl, (((((hb1.new _).step hb2).new _).step hb3).step hb4).step hb5⟩
end Go.Proofs.Ytlmlgkplpaaepaa
