/- An event that came in: how it is read. -/
import Derived.Test.YtpbbbiifeihkaaaDoorOpenS
namespace Go.Proofs.YtpbbbiifeihkaaaDoor
open Go.Joins Go.ChangeShapes Go.WideShapes Go.RowKit Go.Deep

set_option maxRecDepth 100000 in
theorem open_event {H : Type} {enc : TypeId × Value → H} {W : World} {base : Nat} {spare : Nat → Bool} {held : Bool} {r : Reach} {b0 : Nat} {v : Value} {d : DataW H} {p : List MemPlace}
    (hv : Value.okWide Tryd.prog W r b0 34 v) (h : DataW.Trod enc Tryd.prog W base spare held 34 v d p) :
    ∃ (i k q pr o dy : Int) (it : ByteArray), v = .agg #[.int .i64 i, .string it, .int .i64 k, .int .i64 q, .int .i64 pr, .int .i64 o, .int .i64 dy] ∧ it.size ≤ maxLen ∧
      (-9223372036854775808 ≤ i ∧ i ≤ 9223372036854775807) ∧ (-9223372036854775808 ≤ k ∧ k ≤ 9223372036854775807) ∧ (-9223372036854775808 ≤ q ∧ q ≤ 9223372036854775807) ∧ (-9223372036854775808 ≤ pr ∧ pr ≤ 9223372036854775807) ∧
      (-9223372036854775808 ≤ o ∧ o ≤ 9223372036854775807) ∧ (-9223372036854775808 ≤ dy ∧ dy ≤ 9223372036854775807) := by
  obtain ⟨v0, v1, v2, v3, v4, v5, v6, y0, y1, y2, y3, y4, y5, y6, n, rfl, -, -, h0, h1, h2, h3, h4, h5, h6⟩ := open_agg7 Tryd.underlying34 (by kernel_rfl) (by kernel_rfl) hv h
  obtain ⟨z0, e0, -, w0⟩ := DataW.trod_int Tryd.underlying3 h0
  obtain ⟨z1, e1, -, w1⟩ := DataW.trod_string Tryd.underlying9 h1
  obtain ⟨z2, e2, -, w2⟩ := DataW.trod_int Tryd.underlying3 h2
  obtain ⟨z3, e3, -, w3⟩ := DataW.trod_int Tryd.underlying3 h3
  obtain ⟨z4, e4, -, w4⟩ := DataW.trod_int Tryd.underlying3 h4
  obtain ⟨z5, e5, -, w5⟩ := DataW.trod_int Tryd.underlying3 h5
  obtain ⟨z6, e6, -, w6⟩ := DataW.trod_int Tryd.underlying3 h6
  simp only [List.cons.injEq, and_true] at e0 e1 e2 e3 e4 e5 e6
  subst e0 e1 e2 e3 e4 e5 e6
  exact ⟨_, _, _, _, _, _, _, rfl, w1, wf_bounds w0, wf_bounds w2, wf_bounds w3, wf_bounds w4, wf_bounds w5, wf_bounds w6⟩
end Go.Proofs.YtpbbbiifeihkaaaDoor
