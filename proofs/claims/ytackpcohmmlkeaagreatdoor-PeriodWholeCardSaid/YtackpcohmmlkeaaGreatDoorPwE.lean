/- slices.Equal at alike closes; sums of figures. -/
import Derived.Test.YtackpcohmmlkeaaGreatDoorPdD
namespace Go.Proofs.YtackpcohmmlkeaaGreatDoor
open Go.RowKit
set_option linter.unusedVariables false
set_option linter.unusedSimpArgs false

theorem Fg.assoc (a b c : Fg) : (a.plus b).plus c = a.plus (b.plus c) := by
  obtain ⟨a1, a2, a3, a4, a5⟩ := a
  obtain ⟨b1, b2, b3, b4, b5⟩ := b
  obtain ⟨c1, c2, c3, c4, c5⟩ := c
  simp only [Fg.plus, Fg.mk.injEq]
  omega
theorem Fg.zero_plus (a : Fg) : a.plus fg0 = a := by
  obtain ⟨a1, a2, a3, a4, a5⟩ := a
  simp only [Fg.plus, fg0, Fg.mk.injEq]
  omega
theorem Fg.sub_add (a b : Fg) : (a.minus b).plus b = a := by
  obtain ⟨a1, a2, a3, a4, a5⟩ := a
  obtain ⟨b1, b2, b3, b4, b5⟩ := b
  simp only [Fg.plus, Fg.minus, Fg.mk.injEq]
  omega
theorem slice_preC (a : Option Addr) (n cap k : Nat) (hc : k ≤ cap) (w : World) :
    (Instr.slice 41 (.slice a n cap) none (some (.int .i64 k)) none).run Tryz.prog w = .ok (.slice a k cap) w := by
  cases a with
  | none => go_simp
  | some ad => go_simp
theorem close_ext (p : Pd) (b : Bk) (m : Int) : ∃ t, (p.close b m).1.l = p.l ++ t := by
  unfold Pd.close
  (repeat' split)
  · exact ⟨[], by simp⟩
  · exact ⟨[], by simp⟩
  · exact ⟨[], by simp⟩
  · exact ⟨_, rfl⟩
/-- A close's cells, at once. -/
theorem RdC.seven {w : World} {a : Option Addr} {ls ms : List Cl} (h : RdC w a (ls ++ ms)) (hn : a ≠ none) (k : Nat) (hk : k < ls.length) : ∃ g, a = some ⟨g, 0, none⟩ ∧ g < w.heap.size ∧ w.cell? ⟨g, k * 7, none⟩ = some (.int .i64 ls[k].mo) ∧ w.cell? ⟨g, k * 7 + 1, none⟩ = some (.int .i64 ls[k].turn) ∧ w.cell? ⟨g, k * 7 + 2, none⟩ = some (.int .i64 ls[k].f.i) ∧ w.cell? ⟨g, k * 7 + 3, none⟩ = some (.int .i64 ls[k].f.o) ∧ w.cell? ⟨g, k * 7 + 4, none⟩ = some (.int .i64 ls[k].f.l) ∧ w.cell? ⟨g, k * 7 + 5, none⟩ = some (.int .i64 ls[k].f.g) ∧ w.cell? ⟨g, k * 7 + 6, none⟩ = some (.int .i64 ls[k].f.t) := by
  cases a with
  | none => exact absurd rfl hn
  | some ad =>
    obtain ⟨g, rfl, hg, hc⟩ := h ad rfl
    have hx : ∀ j, j < 7 → (flC (ls ++ ms))[k * 7 + j]? = (ls[k].cells)[j]? := fun j hj => by
      have h1 := flK_get cl_len (ls ++ ms) k (by simp; omega) j hj
      rw [List.getElem_append_left hk] at h1
      exact h1
    exact ⟨g, rfl, hg, hc _ _ (hx 0 (by omega)), hc _ _ (hx 1 (by omega)), hc _ _ (hx 2 (by omega)), hc _ _ (hx 3 (by omega)), hc _ _ (hx 4 (by omega)), hc _ _ (hx 5 (by omega)), hc _ _ (hx 6 (by omega))⟩
set_option maxHeartbeats 8000000 in
set_option maxRecDepth 100000 in
theorem equalC_same (ls ms : List Cl) (a b : Option Addr) (c1 c2 : Nat) (w : World) (hL : ls.length ≤ 1000) (h1 : RdC w a (ls ++ ms)) (h2 : RdC w b (ls ++ [])) (n1 : ls ≠ [] → a ≠ none) (n2 : ls ≠ [] → b ≠ none) :
    Calls Tryz.prog 18 #[.slice a ls.length c1, .slice b ls.length c2] w (Gives (.bool true) w) := by
  have H1 := Lib.hid h1
  have H2 := Lib.hid h2
  have N1 := Lib.hid n1
  have N2 := Lib.hid n2
  clear h1 h2 n1 n2
  have hne : ((ls.length : Int) != (ls.length : Int)) = false := by simp
  go_enter Tryz.func18, Tryz.ntmps18
  go_wp2
  go_loopw [13] (fun i wr => ∃ k q : Nat, k ≤ ls.length ∧ i = .int .i64 k ∧ wr = w.drewN q) (fun i _ => ls.length - (intOf i).toNat)
  case atStart => exact ⟨0, 0, by omega, rfl, rfl⟩
  case round =>
    obtain ⟨k, q, hk, rfl, rfl⟩ := hrel
    by_cases hlt : k < ls.length
    · have hnn : ls ≠ [] := fun h => by rw [h] at hlt; exact absurd hlt (Nat.not_lt_zero _)
      obtain ⟨b1, rfl, hw1, p0, p1, p2, p3, p4, p5, p6⟩ := H1.out.seven (N1.out hnn) k hlt
      obtain ⟨b2, rfl, hw2, q0, q1, q2, q3, q4, q5, q6⟩ := H2.out.seven (N2.out hnn) k hlt
      obtain ⟨p, hp⟩ : ∃ p, p = ls[k] := ⟨_, rfl⟩
      rw [← hp] at p0 p1 p2 p3 p4 p5 p6 q0 q1 q2 q3 q4 q5 q6
      clear hp
      go_wp2
      go_quiet (fail)
      go_wp2
      go_roundw
      case rel => exact ⟨k + 1, _, by omega, by go_num, rfl⟩
      case measure => simp [intOf]; omega
    · go_wp2
      go_ret
      exact ⟨rfl, below_drewN (Below.refl _ _) q⟩
end Go.Proofs.YtackpcohmmlkeaaGreatDoor
