/- tallymanlaw.sameTexts at two slices that hold the same: true. -/
import Derived.Test.YtmkkoccnnehkeaaDoorBase
import Derived.Test.YtmkkoccnnehkeaaDoorLawLift
import Derived.Deep.QuietTactic
import Derived.BigQuiet
import Derived.Deep.LoopGhost
import Derived.Handy
import Derived.WalkSpells
import Derived.WalkLawsBesides
import Derived.Lib.Hide
namespace Go.Proofs.YtmkkoccnnehkeaaDoor
open Go.RowKit

set_option maxHeartbeats 400000 in
set_option maxRecDepth 100000 in
theorem sameTexts_yes (a1 a2 : Option Addr) (c d n m : Nat) (xs : List ByteArray) (w : World) (hn : n = xs.length) (hm : m = xs.length) (hbig : xs.length ≤ 4000000000) (h1 : Rd w a1 (xs.map Value.string)) (h2 : Rd w a2 (xs.map Value.string)) :
    Calls Tryd.prog 20 #[.slice a1 n c, .slice a2 m d] w (Gives (.bool true) w) := by
  subst hn
  subst hm
  have H1 := Lib.hid h1
  have H2 := Lib.hid h2
  clear h1 h2
  go_enter Tryd.func20, Tryd.ntmps20
  go_wp2
  go_loopw [5] (fun i wr => ∃ k q : Nat, k ≤ xs.length ∧ i = .int .i64 k ∧ wr = w.drewN q) (fun i _ => xs.length - (intOf i).toNat)
  case atStart => exact ⟨0, 0, by omega, rfl, rfl⟩
  case round =>
    obtain ⟨k, q, hk, rfl, rfl⟩ := hrel
    by_cases hlt : k < xs.length
    · obtain ⟨b1, o1, rfl, c1⟩ := H1.out.strs k hlt
      obtain ⟨b2, o2, rfl, c2⟩ := H2.out.strs k hlt
      obtain ⟨x, hx⟩ : ∃ x, x = xs.getD k ByteArray.empty := ⟨_, rfl⟩
      rw [← hx] at c1 c2
      clear hx
      go_wp2
      go_quiet (fail)
      go_wp2
      go_roundw
      case rel => exact ⟨k + 1, _, by omega, by go_num, rfl⟩
      case measure => simp [intOf]; omega
    · go_wp2
      go_ret
      exact ⟨rfl, below_drewN (Below.refl _ _) q⟩
end Go.Proofs.YtmkkoccnnehkeaaDoor
