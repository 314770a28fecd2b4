/- The teller tells what an event comes to: a Charge. -/
import Derived.Test.YtefbedineniejaaDoorCsG
namespace Go.Proofs.YtefbedineniejaaDoor
open Go.RowKit
open Go.Maps (Keyed)
set_option linter.unusedVariables false

theorem ev_cells {W : World} {b : Nat} {i k q p o d : Int} {s : ByteArray} (h : W.heap[b]? = some (.cells #[.int .i64 i, .string s, .int .i64 k, .int .i64 q, .int .i64 p, .int .i64 o, .int .i64 d] 50 (0, 0))) :
    W.cell? ⟨b, 0, none⟩ = some (.int .i64 i) ∧ W.cell? ⟨b, 1, none⟩ = some (.string s) ∧ W.cell? ⟨b, 2, none⟩ = some (.int .i64 k) ∧ W.cell? ⟨b, 3, none⟩ = some (.int .i64 q) ∧ W.cell? ⟨b, 4, none⟩ = some (.int .i64 p) ∧ W.cell? ⟨b, 5, none⟩ = some (.int .i64 o) ∧ W.cell? ⟨b, 6, none⟩ = some (.int .i64 d) := by
  refine ⟨?_, ?_, ?_, ?_, ?_, ?_, ?_⟩ <;> simp [World.cell?, h]
theorem ln_set {W : World} {b : Nat} {i v s l : Int} {g : Bool} (h : W.heap[b]? = some (.cells #[.int .i64 i, .int .i64 v, .int .i64 s, .int .i64 l, .bool g] 54 (0, 0))) (u : Int) :
    (W.setCell ⟨b, 1, none⟩ (.int .i64 u)).heap[b]? = some (.cells #[.int .i64 i, .int .i64 u, .int .i64 s, .int .i64 l, .bool g] 54 (0, 0)) := by
  obtain ⟨hlt, hk⟩ := Array.getElem?_eq_some_iff.1 h
  show (W.heap.modify b _)[b]? = _
  rw [Array.getElem?_eq_getElem (by rw [Array.size_modify]; exact hlt), Array.getElem_modify_self, hk]
  rfl
theorem ln_gain {W : World} {b : Nat} {i v s l : Int} {g : Bool} (h : W.heap[b]? = some (.cells #[.int .i64 i, .int .i64 v, .int .i64 s, .int .i64 l, .bool g] 54 (0, 0))) (u : Bool) :
    (W.setCell ⟨b, 4, none⟩ (.bool u)).heap[b]? = some (.cells #[.int .i64 i, .int .i64 v, .int .i64 s, .int .i64 l, .bool u] 54 (0, 0)) := by
  obtain ⟨hlt, hk⟩ := Array.getElem?_eq_some_iff.1 h
  show (W.heap.modify b _)[b]? = _
  rw [Array.getElem?_eq_getElem (by rw [Array.size_modify]; exact hlt), Array.getElem_modify_self, hk]
  rfl
theorem chargeP_late (ls : List Lay) (o p : Int) : (chargeP ls o p).1 = 0 ∨ (chargeP ls o p).1 = p := by
  induction ls with
  | nil => exact .inr rfl
  | cons x r ih => rw [chargeP]; split; exact .inl rfl; exact ih
set_option maxHeartbeats 4000000 in
set_option maxRecDepth 100000 in
theorem one_charge (T bl bm c : Nat) (L : List UInt8 → List Lay) (G : List UInt8 → Int) (s : ByteArray) (i q p o d : Int) (w : World) (h : TW w T bl bm c L G) (hs : s.size ≤ maxLen) (hc : c < 100000) (hl : (L s.data.toList).length ≤ 999)
    (hg : GoodY 20000000000000 (L s.data.toList)) (hp : 0 ≤ p ∧ p ≤ 1000000000000) :
    Calls Tryd.prog 51 #[.pointer (some ⟨T, 0, none⟩), .agg #[.int .i64 i, .string s, .int .i64 2, .int .i64 q, .int .i64 p, .int .i64 o, .int .i64 d]] w fun e w' =>
      e = .returned (Ln.agg ⟨i, p - (chargeP (L s.data.toList) o p).1, 0, (chargeP (L s.data.toList) o p).1, false⟩) ∧ TW w' T bl bm (c + 1) (updL L s.data.toList (chargeP (L s.data.toList) o p).2) (G) ∧ Li bl bm w w' := by
  have hTl : T < w.heap.size := cell_blk h.t0
  obtain ⟨W0, hW0⟩ : ∃ W0, W0 = ((w.alloc (Evt.ob ⟨i, s, 2, q, p, o, d⟩)).alloc (Ln.ob ⟨0, 0, 0, 0, false⟩)).alloc (Ln.ob ⟨i, 0, 0, 0, false⟩) := ⟨_, rfl⟩
  have hb0 : Below w.heap.size w W0 := by rw [hW0]; exact (((Below.refl _ w).new _).new _).new _
  have x1 : W0.heap[w.heap.size + 1]? = some (Ln.ob ⟨0, 0, 0, 0, false⟩) := by
    rw [hW0]
    have := World.alloc_heap_new (w.alloc (Evt.ob ⟨i, s, 2, q, p, o, d⟩)) (Ln.ob ⟨0, 0, 0, 0, false⟩)
    rw [World.size_alloc] at this
    exact (Below.heap_alloc _ _ _ (by simp)).trans this
  have x2 : W0.heap[w.heap.size + 2]? = some (Ln.ob ⟨i, 0, 0, 0, false⟩) := by
    rw [hW0]
    have := World.alloc_heap_new ((w.alloc (Evt.ob ⟨i, s, 2, q, p, o, d⟩)).alloc (Ln.ob ⟨0, 0, 0, 0, false⟩)) (Ln.ob ⟨i, 0, 0, 0, false⟩)
    rw [World.size_alloc, World.size_alloc] at this
    exact this
  have x0 : W0.heap[w.heap.size]? = some (Evt.ob ⟨i, s, 2, q, p, o, d⟩) := by
    rw [hW0]
    exact (Below.heap_alloc _ _ _ (by simp; omega)).trans ((Below.heap_alloc _ _ _ (by simp)).trans (World.alloc_heap_new w _))
  have hT0 := h.below hb0
  have n0 := hT0.not_cells x0
  have n1 := hT0.not_cells x1
  have n2 := hT0.not_cells x2
  have HL0 : Li bl bm w W0 := Li.of_below hb0
  obtain ⟨B, hBe⟩ : ∃ B, B = w.heap.size := ⟨_, rfl⟩
  have hBw : w.heap.size ≤ B := by omega
  have HCH := Lib.hid (charge_any T bl bm c L G s i 2 q p o d W0 hT0 hs (by omega) (by omega) hg hp)
  obtain ⟨lv, hlv⟩ : ∃ lv, lv = (chargeP (L s.data.toList) o p).1 := ⟨_, rfl⟩
  obtain ⟨tl, htl⟩ : ∃ tl, tl = (chargeP (L s.data.toList) o p).2 := ⟨_, rfl⟩
  have hll : 0 ≤ lv ∧ lv ≤ p := by
    rw [hlv]
    rcases chargeP_late (L s.data.toList) o p with h | h <;> rw [h] <;> omega
  rw [← hlv, ← htl] at HCH ⊢
  have HT0 : Aside (TW W0 T bl bm c L G) := hT0
  have HX0 := Lib.hid x0
  have HX1 := Lib.hid x1
  have HX2 := Lib.hid x2
  rw [← hBe] at n0 n1 n2 HX0 HX1 HX2 hTl
  clear h hT0 x0 x1 x2 hb0 hlv htl hg hl
  go_enter Tryd.func51, Tryd.ntmps51
  go_upto_region 8 with fail
  simp only [Evt.ob, Ln.ob] at hW0
  simp only [Nat.add_assoc, Nat.reduceAdd]
  rw [← hW0, ← hBe]
  clear hW0 hBe
  obtain ⟨c0, c1, c2, c3, c4, c5, c6⟩ := ev_cells HX0.out
  obtain ⟨k0, k1, k2, k3, k4, f0, f1, f2, f3, f4⟩ := ln_cells HX2.out
  obtain ⟨j0, j1, j2, j3, j4, g0, g1, g2, g3, g4⟩ := ln_cells HX1.out
  go_wp2_with (go_at_call 71; refine HCH.out.mono ?_; rintro e w4 ⟨rfl, htw, hli⟩; have y0 := hli.heap HX0.out n0.1 n0.2; have y1 := hli.heap HX1.out n1.1 n1.2; have y2 := hli.heap HX2.out n2.1 n2.2; obtain ⟨c0, c1, c2, c3, c4, c5, c6⟩ := ev_cells y0; obtain ⟨k0, k1, k2, k3, k4, f0, f1, f2, f3, f4⟩ := ln_cells y2; obtain ⟨j0, j1, j2, j3, j4, g0, g1, g2, g3, g4⟩ := ln_cells y1)
  have hgX : w4.grownBy ((w4.setCell ⟨B + 2, 3, none⟩ (.int .i64 lv)).setCell ⟨B + 2, 1, none⟩ (.int .i64 (p - lv))) (some (B + 2)) := gb_trans (gb_set _ _ _ _) (gb_set _ _ _ _)
  have hTX := htw.turn hgX y2 (by decide) (by omega)
  have yX := (hgX.block (B + 1) (Array.getElem?_eq_some_iff.1 y1).1 (by simp)).trans y1
  have hLX := (HL0.trans hli).turn hgX (by omega)
  have hgR := (gb_trans (gb_trans (gb_trans (gb_trans (gb_set ((w4.setCell ⟨B + 2, 3, none⟩ (.int .i64 lv)).setCell ⟨B + 2, 1, none⟩ (.int .i64 (p - lv))) (B + 1) 0 (.int .i64 i)) (gb_set _ _ 1 (.int .i64 (p - lv)))) (gb_set _ _ 2 (.int .i64 0))) (gb_set _ _ 3 (.int .i64 lv))) (gb_set _ _ 4 (.bool false)))
  refine bodyPost_ret (v := Ln.agg ⟨i, p - lv, 0, lv, false⟩) ?res rfl ⟨rfl, hTX.turn hgR yX (by decide) (by omega), hLX.turn hgR (by omega)⟩
  case res => simp [results, Tryd.results51, go_sem, j0, j1, j2, j3, j4]
end Go.Proofs.YtefbedineniejaaDoor
