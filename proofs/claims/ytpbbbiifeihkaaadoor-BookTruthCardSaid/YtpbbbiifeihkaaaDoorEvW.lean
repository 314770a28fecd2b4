/- Whether an event may be. -/
import Derived.Test.YtpbbbiifeihkaaaDoorEvU
import Derived.Test.YtpbbbiifeihkaaaDoorEvL
namespace Go.Proofs.YtpbbbiifeihkaaaDoor
open Go.RowKit
set_option linter.unusedVariables false

def Evt.right (e : Evt) : Bool := Ev.rightB e.item.data.toList e.kind e.qty e.price e.ofn e.day
abbrev Evt.key (e : Evt) : List UInt8 := e.item.data.toList
/-- A right event's bounds. -/
theorem right_bd {e : Evt} (h : e.right = true) : e.item.size ≤ 10 ∧ ((e.kind = 1 ∧ 1 ≤ e.qty ∧ e.qty ≤ 100000 ∧ 0 ≤ e.price ∧ e.price ≤ 1000000 ∧ e.ofn = 0) ∨ (e.kind = 2 ∧ e.qty = 0 ∧ 1 ≤ e.price ∧ e.price ≤ 100000000000 ∧ 1 ≤ e.ofn) ∨ (e.kind = 3 ∧ 1 ≤ e.qty ∧ e.qty ≤ 100000 ∧ e.price = 0 ∧ e.ofn = 0) ∨ (e.kind = 4 ∧ 0 ≤ e.qty ∧ e.qty ≤ 100000 ∧ e.price = 0 ∧ e.ofn = 0)) := by
  obtain ⟨h1, -, -, h2⟩ : Ev.RightP _ _ _ _ _ _ := of_decide_eq_true h
  refine ⟨?_, h2⟩
  have := h1.2.1
  simpa using this
end Go.Proofs.YtpbbbiifeihkaaaDoor
