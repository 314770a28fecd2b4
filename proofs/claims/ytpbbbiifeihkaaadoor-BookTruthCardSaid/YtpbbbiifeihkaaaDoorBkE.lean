/- slices.Equal at events that are alike. -/
import Derived.Test.YtpbbbiifeihkaaaDoorEvQ
import Derived.Test.YtpbbbiifeihkaaaDoorEvS
import Derived.Test.YtpbbbiifeihkaaaDoorSince
namespace Go.Proofs.YtpbbbiifeihkaaaDoor
open Go.RowKit
set_option linter.unusedVariables false

set_option maxHeartbeats 1000000 in
set_option maxRecDepth 100000 in
theorem equalE_same (h1i h2i : Nat) (ls : List Evt) (a b : Option Addr) (c1 c2 : Nat) (w : World) (hL : ls.length ≤ 1000) (e1 : h1i ≤ w.heap.size) (e2 : h2i ≤ w.heap.size) (h1 : RdE h1i w (.slice a ls.length c1) ls) (h2 : RdE h2i w (.slice b ls.length c2) ls) :
    Calls Tryd.prog 10 #[.slice a ls.length c1, .slice b ls.length c2] w (Gives (.bool true) w) := by
  have H1 := Lib.hid h1
  have H2 := Lib.hid h2
  clear h1 h2
  have hne : ((ls.length : Int) != (ls.length : Int)) = false := by simp
  go_enter Tryd.func10, Tryd.ntmps10
  go_wp2
  go_loopw [13] (fun i wr => ∃ k q : Nat, k ≤ ls.length ∧ i = .int .i64 k ∧ wr = w.drewN q) (fun i _ => ls.length - (intOf i).toNat)
  case atStart => exact ⟨0, 0, by omega, rfl, rfl⟩
  case round =>
    obtain ⟨k, q, hk, rfl, rfl⟩ := hrel
    by_cases hlt : k < ls.length
    · obtain ⟨b1, o1, rfl, hw1, p⟩ := H1.out.seven k hlt
      obtain ⟨b2, o2, rfl, hw2, q'⟩ := H2.out.seven k hlt
      obtain ⟨p0, p1, p2, p3, p4, p5, p6⟩ := p w (Below.refl _ _)
      obtain ⟨q0, q1, q2, q3, q4, q5, q6⟩ := q' w (Below.refl _ _)
      clear p q'
      obtain ⟨p, hp⟩ : ∃ p, p = ls[k] := ⟨_, rfl⟩
      rw [← hp] at p0 p1 p2 p3 p4 p5 p6 q0 q1 q2 q3 q4 q5 q6
      clear hp
      have hs := ev_same p.id p.kind p.qty p.price p.ofn p.day p.item
      go_wp2
      go_quiet (fail)
      go_wp2
      go_roundw
      case rel => exact ⟨k + 1, _, by omega, by go_num, rfl⟩
      case measure => simp [intOf]; omega
    · go_wp2
      go_ret
      exact ⟨rfl, below_drewN (Below.refl _ _) q⟩
end Go.Proofs.YtpbbbiifeihkaaaDoor
