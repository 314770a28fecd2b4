/- Figures that came in: how they are read. -/
import Derived.Test.YtefbedineniejaaOpenS
namespace Go.Proofs.Ytefbedineniejaa
open Go.Joins Go.ChangeShapes Go.WideShapes Go.RowKit Go.Deep

set_option maxRecDepth 100000 in
theorem open_figs {H : Type} {enc : TypeId × Value → H} {W : World} {base : Nat} {spare : Nat → Bool} {held : Bool} {r : Reach} {b0 : Nat} {v : Value} {d : DataW H} {p : List MemPlace}
    (hv : Value.okWide Try.prog W r b0 23 v) (h : DataW.Trod enc Try.prog W base spare held 23 v d p) :
    ∃ i o l g t : Int, v = .agg #[.int .i64 i, .int .i64 o, .int .i64 l, .int .i64 g, .int .i64 t] ∧
      (-9223372036854775808 ≤ i ∧ i ≤ 9223372036854775807) ∧ (-9223372036854775808 ≤ o ∧ o ≤ 9223372036854775807) ∧ (-9223372036854775808 ≤ l ∧ l ≤ 9223372036854775807) ∧ (-9223372036854775808 ≤ g ∧ g ≤ 9223372036854775807) ∧ (-9223372036854775808 ≤ t ∧ t ≤ 9223372036854775807) := by
  obtain ⟨v0, v1, v2, v3, v4, y0, y1, y2, y3, y4, n, rfl, -, -, h0, h1, h2, h3, h4⟩ := open_agg5 Try.underlying23 (by kernel_rfl) (by kernel_rfl) hv h
  obtain ⟨z0, e0, -, w0⟩ := DataW.trod_int Try.underlying3 h0
  obtain ⟨z1, e1, -, w1⟩ := DataW.trod_int Try.underlying3 h1
  obtain ⟨z2, e2, -, w2⟩ := DataW.trod_int Try.underlying3 h2
  obtain ⟨z3, e3, -, w3⟩ := DataW.trod_int Try.underlying3 h3
  obtain ⟨z4, e4, -, w4⟩ := DataW.trod_int Try.underlying3 h4
  simp only [List.cons.injEq, and_true] at e0 e1 e2 e3 e4
  subst e0 e1 e2 e3 e4
  exact ⟨_, _, _, _, _, rfl, wf_bounds w0, wf_bounds w1, wf_bounds w2, wf_bounds w3, wf_bounds w4⟩
end Go.Proofs.Ytefbedineniejaa
