/- period.Plus, Minus, of: what they hand back. -/
import Derived.Test.YtackpcohmmlkeaaGreatDoorPrN
import Derived.Test.YtackpcohmmlkeaaGreatDoorCsPa
namespace Go.Proofs.YtackpcohmmlkeaaGreatDoor
open Go.RowKit
set_option linter.unusedVariables false

set_option maxHeartbeats 1000000 in
set_option maxRecDepth 100000 in
theorem fplus_any (a b : Fg) (w : World) (ha : a.le 1000000000000000000) (hb : b.le 1000000000000000000) : Calls Tryz.prog 11 #[a.agg, b.agg] w (Gives (a.plus b).agg w) := by
  obtain ⟨i, o, l, g, t⟩ := a
  obtain ⟨i', o', l', g', t'⟩ := b
  obtain ⟨⟨a1, a2⟩, ⟨b1, b2⟩, ⟨c1, c2⟩, ⟨d1, d2⟩, ⟨e1, e2⟩⟩ := ha
  obtain ⟨⟨a1', a2'⟩, ⟨b1', b2'⟩, ⟨c1', c2'⟩, ⟨d1', d2'⟩, ⟨e1', e2'⟩⟩ := hb
  simp only at a1 a2 b1 b2 c1 c2 d1 d2 e1 e2 a1' a2' b1' b2' c1' c2' d1' d2' e1' e2'
  simp only [Fg.agg, Fg.plus]
  go_enter Tryz.func11, Tryz.ntmps11
  go_wp2
  exact bodyPost_ret (v := Fg.agg ⟨i + i', o + o', l + l', g + g', t + t'⟩) (by simp [results, Tryz.results11, go_sem]) rfl ⟨rfl, (((Below.refl _ w).new _).new _).new _⟩
set_option maxHeartbeats 1000000 in
set_option maxRecDepth 100000 in
theorem fminus_any (a b : Fg) (w : World) (ha : a.le 1000000000000000000) (hb : b.le 1000000000000000000) : Calls Tryz.prog 13 #[a.agg, b.agg] w (Gives (a.minus b).agg w) := by
  obtain ⟨i, o, l, g, t⟩ := a
  obtain ⟨i', o', l', g', t'⟩ := b
  obtain ⟨⟨a1, a2⟩, ⟨b1, b2⟩, ⟨c1, c2⟩, ⟨d1, d2⟩, ⟨e1, e2⟩⟩ := ha
  obtain ⟨⟨a1', a2'⟩, ⟨b1', b2'⟩, ⟨c1', c2'⟩, ⟨d1', d2'⟩, ⟨e1', e2'⟩⟩ := hb
  simp only at a1 a2 b1 b2 c1 c2 d1 d2 e1 e2 a1' a2' b1' b2' c1' c2' d1' d2' e1' e2'
  simp only [Fg.agg, Fg.minus]
  go_enter Tryz.func13, Tryz.ntmps13
  go_wp2
  exact bodyPost_ret (v := Fg.agg ⟨i - i', o - o', l - l', g - g', t - t'⟩) (by simp [results, Tryz.results13, go_sem]) rfl ⟨rfl, (((Below.refl _ w).new _).new _).new _⟩
set_option maxHeartbeats 1000000 in
set_option maxRecDepth 100000 in
theorem of_any (e : Evt) (x : Ln) (w : World) (hk : 1 ≤ e.kind ∧ e.kind ≤ 4) : Calls Tryz.prog 44 #[e.agg, x.agg] w (Gives (ofP e x).agg w) := by
  obtain ⟨i, s, kd, q, p, o, d⟩ := e
  obtain ⟨xi, xv, xs, xl, xg⟩ := x
  simp only at hk
  have hb : Below w.heap.size w (((w.alloc (Evt.ob ⟨i, s, kd, q, p, o, d⟩)).alloc (Ln.ob ⟨xi, xv, xs, xl, xg⟩)).alloc (.cells #[.int .i64 0, .int .i64 0, .int .i64 0, .int .i64 0, .int .i64 0] 29)) := (((Below.refl _ w).new _).new _).new _
  have h4 : kd = 1 ∨ kd = 2 ∨ kd = 3 ∨ kd = 4 := by omega
  rcases h4 with rfl | rfl | rfl | rfl
  · rw [show ofP ⟨i, s, 1, q, p, o, d⟩ ⟨xi, xv, xs, xl, xg⟩ = ⟨xv, 0, 0, 0, xl⟩ by simp [ofP]]
    go_enter Tryz.func44, Tryz.ntmps44
    go_wp2
    exact bodyPost_ret (v := Fg.agg ⟨xv, 0, 0, 0, xl⟩) (by simp [results, Tryz.results44, go_sem]) rfl ⟨rfl, (((Below.refl _ w).new _).new _).new _⟩
  · rw [show ofP ⟨i, s, 2, q, p, o, d⟩ ⟨xi, xv, xs, xl, xg⟩ = ⟨xv, 0, 0, 0, xl⟩ by simp [ofP]]
    go_enter Tryz.func44, Tryz.ntmps44
    go_wp2
    exact bodyPost_ret (v := Fg.agg ⟨xv, 0, 0, 0, xl⟩) (by simp [results, Tryz.results44, go_sem]) rfl ⟨rfl, (((Below.refl _ w).new _).new _).new _⟩
  · rw [show ofP ⟨i, s, 3, q, p, o, d⟩ ⟨xi, xv, xs, xl, xg⟩ = ⟨0, xv, 0, 0, 0⟩ by simp [ofP]]
    go_enter Tryz.func44, Tryz.ntmps44
    go_wp2
    exact bodyPost_ret (v := Fg.agg ⟨0, xv, 0, 0, 0⟩) (by simp [results, Tryz.results44, go_sem]) rfl ⟨rfl, (((Below.refl _ w).new _).new _).new _⟩
  · cases xg with
    | true =>
      rw [show ofP ⟨i, s, 4, q, p, o, d⟩ ⟨xi, xv, xs, xl, true⟩ = ⟨0, 0, 0, xv, 0⟩ by simp [ofP]]
      go_enter Tryz.func44, Tryz.ntmps44
      go_wp2
      exact bodyPost_ret (v := Fg.agg ⟨0, 0, 0, xv, 0⟩) (by simp [results, Tryz.results44, go_sem]) rfl ⟨rfl, (((Below.refl _ w).new _).new _).new _⟩
    | false =>
      rw [show ofP ⟨i, s, 4, q, p, o, d⟩ ⟨xi, xv, xs, xl, false⟩ = ⟨0, 0, xv, 0, 0⟩ by simp [ofP]]
      go_enter Tryz.func44, Tryz.ntmps44
      go_wp2
      exact bodyPost_ret (v := Fg.agg ⟨0, 0, xv, 0, 0⟩) (by simp [results, Tryz.results44, go_sem]) rfl ⟨rfl, (((Below.refl _ w).new _).new _).new _⟩
set_option maxHeartbeats 1000000 in
set_option maxRecDepth 100000 in
theorem months1_any (e : Evt) (X : Nat) (id : Int) (w : World) (hX : w.cell? ⟨X, 0, none⟩ = some (.int .i64 id)) : Calls Tryz.prog 42 #[e.agg, .pointer (some ⟨X, 0, none⟩)] w fun r w' => r = .returned (.bool (e.id == id)) ∧ Below w.heap.size w w' := by
  obtain ⟨i, s, kd, q, p, o, d⟩ := e
  have hXl : X < w.heap.size := cell_lt hX
  have hb0 := (Below.refl _ w).new (Evt.ob ⟨i, s, kd, q, p, o, d⟩)
  have hX1 := (hb0.cell (p := ⟨X, 0, none⟩) hXl).trans hX
  go_enter Tryz.func42, Tryz.ntmps42
  go_wp2
  go_ret
  exact ⟨rfl, hb0⟩
end Go.Proofs.YtackpcohmmlkeaaGreatDoor
