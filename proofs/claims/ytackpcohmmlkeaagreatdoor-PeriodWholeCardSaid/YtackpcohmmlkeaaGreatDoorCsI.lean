/- Joined: CsH, CsI. -/
import Derived.Test.YtackpcohmmlkeaaGreatDoorCsG

/- CsH: The teller tells what an event comes to: a Charge. -/
section
namespace Go.Proofs.YtackpcohmmlkeaaGreatDoor
open Go.RowKit
open Go.Maps (Keyed)
set_option linter.unusedVariables false

theorem ev_cells {W : World} {b : Nat} {i k q p o d : Int} {s : ByteArray} (h : W.heap[b]? = some (.cells #[.int .i64 i, .string s, .int .i64 k, .int .i64 q, .int .i64 p, .int .i64 o, .int .i64 d] 49 (0, 0))) :
    W.cell? ⟨b, 0, none⟩ = some (.int .i64 i) ∧ W.cell? ⟨b, 1, none⟩ = some (.string s) ∧ W.cell? ⟨b, 2, none⟩ = some (.int .i64 k) ∧ W.cell? ⟨b, 3, none⟩ = some (.int .i64 q) ∧ W.cell? ⟨b, 4, none⟩ = some (.int .i64 p) ∧ W.cell? ⟨b, 5, none⟩ = some (.int .i64 o) ∧ W.cell? ⟨b, 6, none⟩ = some (.int .i64 d) := by
  refine ⟨?_, ?_, ?_, ?_, ?_, ?_, ?_⟩ <;> simp [World.cell?, h]
theorem ln_set {W : World} {b : Nat} {i v s l : Int} {g : Bool} (h : W.heap[b]? = some (.cells #[.int .i64 i, .int .i64 v, .int .i64 s, .int .i64 l, .bool g] 103 (0, 0))) (u : Int) :
    (W.setCell ⟨b, 1, none⟩ (.int .i64 u)).heap[b]? = some (.cells #[.int .i64 i, .int .i64 u, .int .i64 s, .int .i64 l, .bool g] 103 (0, 0)) := by
  obtain ⟨hlt, hk⟩ := Array.getElem?_eq_some_iff.1 h
  show (W.heap.modify b _)[b]? = _
  rw [Array.getElem?_eq_getElem (by rw [Array.size_modify]; exact hlt), Array.getElem_modify_self, hk]
  rfl
theorem ln_gain {W : World} {b : Nat} {i v s l : Int} {g : Bool} (h : W.heap[b]? = some (.cells #[.int .i64 i, .int .i64 v, .int .i64 s, .int .i64 l, .bool g] 103 (0, 0))) (u : Bool) :
    (W.setCell ⟨b, 4, none⟩ (.bool u)).heap[b]? = some (.cells #[.int .i64 i, .int .i64 v, .int .i64 s, .int .i64 l, .bool u] 103 (0, 0)) := by
  obtain ⟨hlt, hk⟩ := Array.getElem?_eq_some_iff.1 h
  show (W.heap.modify b _)[b]? = _
  rw [Array.getElem?_eq_getElem (by rw [Array.size_modify]; exact hlt), Array.getElem_modify_self, hk]
  rfl
theorem chargeP_late (ls : List Lay) (o p : Int) : (chargeP ls o p).1 = 0 ∨ (chargeP ls o p).1 = p := by
  induction ls with
  | nil => exact .inr rfl
  | cons x r ih => rw [chargeP]; split; exact .inl rfl; exact ih
set_option maxHeartbeats 4000000 in
set_option maxRecDepth 100000 in
theorem one_charge (T bl bm c : Nat) (L : List UInt8 → List Lay) (G : List UInt8 → Int) (s : ByteArray) (i q p o d : Int) (w : World) (h : TW w T bl bm c L G) (hs : s.size ≤ maxLen) (hc : c < 100000) (hl : (L s.data.toList).length ≤ 999)
    (hg : GoodY 20000000000000 (L s.data.toList)) (hp : 0 ≤ p ∧ p ≤ 1000000000000) :
    Calls Tryz.prog 59 #[.pointer (some ⟨T, 0, none⟩), .agg #[.int .i64 i, .string s, .int .i64 2, .int .i64 q, .int .i64 p, .int .i64 o, .int .i64 d]] w fun e w' =>
      e = .returned (Ln.agg ⟨i, p - (chargeP (L s.data.toList) o p).1, 0, (chargeP (L s.data.toList) o p).1, false⟩) ∧ TW w' T bl bm (c + 1) (updL L s.data.toList (chargeP (L s.data.toList) o p).2) (G) ∧ Li bl bm w w' := by
  have hTl : T < w.heap.size := cell_blk h.t0
  obtain ⟨W0, hW0⟩ : ∃ W0, W0 = ((w.alloc (Evt.ob ⟨i, s, 2, q, p, o, d⟩)).alloc (Ln.ob ⟨0, 0, 0, 0, false⟩)).alloc (Ln.ob ⟨i, 0, 0, 0, false⟩) := ⟨_, rfl⟩
  have hb0 : Below w.heap.size w W0 := by rw [hW0]; exact (((Below.refl _ w).new _).new _).new _
  have x1 : W0.heap[w.heap.size + 1]? = some (Ln.ob ⟨0, 0, 0, 0, false⟩) := by
    rw [hW0]
    have := World.alloc_heap_new (w.alloc (Evt.ob ⟨i, s, 2, q, p, o, d⟩)) (Ln.ob ⟨0, 0, 0, 0, false⟩)
    rw [World.size_alloc] at this
    exact (Below.heap_alloc _ _ _ (by simp)).trans this
  have x2 : W0.heap[w.heap.size + 2]? = some (Ln.ob ⟨i, 0, 0, 0, false⟩) := by
    rw [hW0]
    have := World.alloc_heap_new ((w.alloc (Evt.ob ⟨i, s, 2, q, p, o, d⟩)).alloc (Ln.ob ⟨0, 0, 0, 0, false⟩)) (Ln.ob ⟨i, 0, 0, 0, false⟩)
    rw [World.size_alloc, World.size_alloc] at this
    exact this
  have x0 : W0.heap[w.heap.size]? = some (Evt.ob ⟨i, s, 2, q, p, o, d⟩) := by
    rw [hW0]
    exact (Below.heap_alloc _ _ _ (by simp; omega)).trans ((Below.heap_alloc _ _ _ (by simp)).trans (World.alloc_heap_new w _))
  have hT0 := h.below hb0
  have n0 := hT0.not_cells x0
  have n1 := hT0.not_cells x1
  have n2 := hT0.not_cells x2
  have HL0 : Li bl bm w W0 := Li.of_below hb0
  obtain ⟨B, hBe⟩ : ∃ B, B = w.heap.size := ⟨_, rfl⟩
  have hBw : w.heap.size ≤ B := by omega
  have HCH := Lib.hid (charge_any T bl bm c L G s i 2 q p o d W0 hT0 hs (by omega) (by omega) hg hp)
  obtain ⟨lv, hlv⟩ : ∃ lv, lv = (chargeP (L s.data.toList) o p).1 := ⟨_, rfl⟩
  obtain ⟨tl, htl⟩ : ∃ tl, tl = (chargeP (L s.data.toList) o p).2 := ⟨_, rfl⟩
  have hll : 0 ≤ lv ∧ lv ≤ p := by
    rw [hlv]
    rcases chargeP_late (L s.data.toList) o p with h | h <;> rw [h] <;> omega
  rw [← hlv, ← htl] at HCH ⊢
  have HT0 : Aside (TW W0 T bl bm c L G) := hT0
  have HX0 := Lib.hid x0
  have HX1 := Lib.hid x1
  have HX2 := Lib.hid x2
  rw [← hBe] at n0 n1 n2 HX0 HX1 HX2 hTl
  clear h hT0 x0 x1 x2 hb0 hlv htl hg hl
  go_enter Tryz.func59, Tryz.ntmps59
  go_upto_region 8 with fail
  simp only [Evt.ob, Ln.ob] at hW0
  simp only [Nat.add_assoc, Nat.reduceAdd]
  rw [← hW0, ← hBe]
  clear hW0 hBe
  obtain ⟨c0, c1, c2, c3, c4, c5, c6⟩ := ev_cells HX0.out
  obtain ⟨k0, k1, k2, k3, k4, f0, f1, f2, f3, f4⟩ := ln_cells HX2.out
  obtain ⟨j0, j1, j2, j3, j4, g0, g1, g2, g3, g4⟩ := ln_cells HX1.out
  go_wp2_with (go_at_call 93; refine HCH.out.mono ?_; rintro e w4 ⟨rfl, htw, hli⟩; have y0 := hli.heap HX0.out n0.1 n0.2; have y1 := hli.heap HX1.out n1.1 n1.2; have y2 := hli.heap HX2.out n2.1 n2.2; obtain ⟨c0, c1, c2, c3, c4, c5, c6⟩ := ev_cells y0; obtain ⟨k0, k1, k2, k3, k4, f0, f1, f2, f3, f4⟩ := ln_cells y2; obtain ⟨j0, j1, j2, j3, j4, g0, g1, g2, g3, g4⟩ := ln_cells y1)
  have hgX : w4.grownBy ((w4.setCell ⟨B + 2, 3, none⟩ (.int .i64 lv)).setCell ⟨B + 2, 1, none⟩ (.int .i64 (p - lv))) (some (B + 2)) := gb_trans (gb_set _ _ _ _) (gb_set _ _ _ _)
  have hTX := htw.turn hgX y2 (by decide) (by omega)
  have yX := (hgX.block (B + 1) (Array.getElem?_eq_some_iff.1 y1).1 (by simp)).trans y1
  have hLX := (HL0.trans hli).turn hgX (by omega)
  have hgR := (gb_trans (gb_trans (gb_trans (gb_trans (gb_set ((w4.setCell ⟨B + 2, 3, none⟩ (.int .i64 lv)).setCell ⟨B + 2, 1, none⟩ (.int .i64 (p - lv))) (B + 1) 0 (.int .i64 i)) (gb_set _ _ 1 (.int .i64 (p - lv)))) (gb_set _ _ 2 (.int .i64 0))) (gb_set _ _ 3 (.int .i64 lv))) (gb_set _ _ 4 (.bool false)))
  refine bodyPost_ret (v := Ln.agg ⟨i, p - lv, 0, lv, false⟩) ?res rfl ⟨rfl, hTX.turn hgR yX (by decide) (by omega), hLX.turn hgR (by omega)⟩
  case res => simp [results, Tryz.results59, go_sem, j0, j1, j2, j3, j4]
end Go.Proofs.YtackpcohmmlkeaaGreatDoor
end

/- CsI: The teller tells what an event comes to: an In. -/
section
namespace Go.Proofs.YtackpcohmmlkeaaGreatDoor
open Go.RowKit
open Go.Maps (Keyed)
set_option linter.unusedVariables false

theorem wrap64_id (m : Int) (h0 : 0 ≤ m) (h1 : m ≤ 1000000000000) : wrap64 m = m := by
  rw [IntWalk.wrap64_in _ ⟨by omega, by omega⟩]
set_option maxHeartbeats 4000000 in
set_option maxRecDepth 100000 in
theorem one_in (T bl bm c : Nat) (L : List UInt8 → List Lay) (G : List UInt8 → Int) (s : ByteArray) (i q p o d : Int) (w : World) (h : TW w T bl bm c L G) (hs : s.size ≤ maxLen) (hc : c < 100000) (hl : (L s.data.toList).length ≤ 999)
    (hg : GoodY 20000000000000 (L s.data.toList)) (hq : 0 ≤ q ∧ q ≤ 1000000) (hp : 0 ≤ p ∧ p ≤ 1000000) :
    Calls Tryz.prog 59 #[.pointer (some ⟨T, 0, none⟩), .agg #[.int .i64 i, .string s, .int .i64 1, .int .i64 q, .int .i64 p, .int .i64 o, .int .i64 d]] w fun e w' =>
      e = .returned (Ln.agg ⟨i, q * p, 0, 0, false⟩) ∧ TW w' T bl bm (c + 2) (updL L s.data.toList (L s.data.toList ++ [⟨i, q, q * p⟩])) (updL G s.data.toList p) ∧ Li bl bm w w' := by
  have hTl : T < w.heap.size := cell_blk h.t0
  obtain ⟨W0, hW0⟩ : ∃ W0, W0 = ((w.alloc (Evt.ob ⟨i, s, 1, q, p, o, d⟩)).alloc (Ln.ob ⟨0, 0, 0, 0, false⟩)).alloc (Ln.ob ⟨i, 0, 0, 0, false⟩) := ⟨_, rfl⟩
  have hb0 : Below w.heap.size w W0 := by rw [hW0]; exact (((Below.refl _ w).new _).new _).new _
  have x1 : W0.heap[w.heap.size + 1]? = some (Ln.ob ⟨0, 0, 0, 0, false⟩) := by
    rw [hW0]
    have := World.alloc_heap_new (w.alloc (Evt.ob ⟨i, s, 1, q, p, o, d⟩)) (Ln.ob ⟨0, 0, 0, 0, false⟩)
    rw [World.size_alloc] at this
    exact (Below.heap_alloc _ _ _ (by simp)).trans this
  have x2 : W0.heap[w.heap.size + 2]? = some (Ln.ob ⟨i, 0, 0, 0, false⟩) := by
    rw [hW0]
    have := World.alloc_heap_new ((w.alloc (Evt.ob ⟨i, s, 1, q, p, o, d⟩)).alloc (Ln.ob ⟨0, 0, 0, 0, false⟩)) (Ln.ob ⟨i, 0, 0, 0, false⟩)
    rw [World.size_alloc, World.size_alloc] at this
    exact this
  have x0 : W0.heap[w.heap.size]? = some (Evt.ob ⟨i, s, 1, q, p, o, d⟩) := by
    rw [hW0]
    exact (Below.heap_alloc _ _ _ (by simp; omega)).trans ((Below.heap_alloc _ _ _ (by simp)).trans (World.alloc_heap_new w _))
  have hT0 := h.below hb0
  have n0 := hT0.not_cells x0
  have n1 := hT0.not_cells x1
  have n2 := hT0.not_cells x2
  have HL0 : Li bl bm w W0 := Li.of_below hb0
  obtain ⟨B, hBe⟩ : ∃ B, B = w.heap.size := ⟨_, rfl⟩
  have hBw : w.heap.size ≤ B := by omega
  obtain ⟨m, hm⟩ : ∃ m, m = q * p := ⟨_, rfl⟩
  have hmb : 0 ≤ m ∧ m ≤ 1000000000000 := by
    rw [hm]
    exact ⟨Int.mul_nonneg hq.1 hp.1, Int.le_trans (Int.mul_le_mul hq.2 hp.2 hp.1 (by omega)) (by omega)⟩
  rw [← hm]
  -- the value is written
  have hg1 : W0.grownBy (W0.setCell ⟨B + 2, 1, none⟩ (.int .i64 m)) (some (B + 2)) := gb_set _ _ _ _
  rw [← hBe] at x0 x1 x2 n0 n1 n2 hTl
  obtain ⟨W1, hW1⟩ : ∃ W1, W1 = W0.setCell ⟨B + 2, 1, none⟩ (.int .i64 m) := ⟨_, rfl⟩
  rw [← hW1] at hg1
  have hT1 := hT0.turn hg1 x2 (by decide) (by omega)
  have z0 := (hg1.block B (Array.getElem?_eq_some_iff.1 x0).1 (by simp)).trans x0
  have z1 := (hg1.block (B + 1) (Array.getElem?_eq_some_iff.1 x1).1 (by simp)).trans x1
  have z2 := ln_set x2 m
  rw [← hW1] at z2
  have hL1 := HL0.turn hg1 (by omega)
  have hbd : Below W1.heap.size W1 W1.drew := (Below.refl _ W1).drew
  obtain ⟨w2, hrun, hT2, hl2⟩ := (hT1.below hbd).seti s hs (by unfold maxLen; omega) p
  have v0 : W1.drew.heap[B]? = some (Evt.ob ⟨i, s, 1, q, p, o, d⟩) := z0
  have v1 : W1.drew.heap[B + 1]? = some (Ln.ob ⟨0, 0, 0, 0, false⟩) := z1
  have v2 : W1.drew.heap[B + 2]? = some (Ln.ob ⟨i, m, 0, 0, false⟩) := z2
  have u0 := hl2.heap v0 n0.1 n0.2
  have u1 := hl2.heap v1 n1.1 n1.2
  have u2 := hl2.heap v2 n2.1 n2.2
  have hL2 := (hL1.trans (Li.of_below hbd)).trans hl2
  have HPUT := Lib.hid (put_any T bl bm (c + 1) L (updL G s.data.toList p) s i q m w2 hT2 hs (by omega) (by omega))
  generalize hQ : updL L s.data.toList (L s.data.toList ++ [⟨i, q, m⟩]) = Q at HPUT ⊢
  have t1 := hT1.t1
  have t1d : W1.drew.cell? ⟨T, 1, none⟩ = some (.map (some bm)) := t1
  obtain ⟨c0, c1, c2, c3, c4, c5, c6⟩ := ev_cells v0
  have C1 : W1.cell? ⟨B, 1, none⟩ = some (.string s) := c1
  have C4 : W1.cell? ⟨B, 4, none⟩ = some (.int .i64 p) := c4
  obtain ⟨a0, a1, a2, a3, a4, a5, a6⟩ := ev_cells x0
  obtain ⟨k0, k1, k2, k3, k4, f0, f1, f2, f3, f4⟩ := ln_cells x2
  have HU0 := Lib.hid u0
  have HU1 := Lib.hid u1
  have HU2 := Lib.hid u2
  have HL2 := Lib.hid hL2
  have HM := Lib.hid hm
  have HWE := Lib.hid hW1
  have hmw : IntKind.i64.wrap (q * p) = m := by rw [← hm, IntKind.wrap_i64]; omega
  have hmw2 : wrap64 (q * p) = m := by rw [← hm, wrap64_id _ hmb.1 hmb.2]
  clear h hT0 hT1 hT2 hL1 hl2 hbd z0 z1 z2 v0 v1 v2 u0 u1 u2 hL2 x0 x1 x2 hb0 hg1 hg hl hm hW1 hQ
  go_enter Tryz.func59, Tryz.ntmps59
  go_upto_region 4 with fail
  simp only [Evt.ob, Ln.ob] at hW0
  simp only [Nat.add_assoc, Nat.reduceAdd]
  rw [← hW0, ← hBe]
  clear hW0 hBe
  go_upto_region 5 with fail
  try simp only [hmw, hmw2]
  rw [← HWE.out]
  clear hmw hmw2 a0 a1 a2 a3 a4 a5 a6 k0 k1 k2 k3 k4 f0 f1 f2 f3 f4
  have mixed : Tryz.prog.follows .mixedOrders = true := by kernel_rfl
  go_big_region_o
  clear mixed hrun
  obtain ⟨c0, c1, c2, c3, c4, c5, c6⟩ := ev_cells HU0.out
  obtain ⟨k0, k1, k2, k3, k4, f0, f1, f2, f3, f4⟩ := ln_cells HU2.out
  go_wp2_with (go_at_call 92; refine HPUT.out.mono ?_; rintro e w4 ⟨rfl, htw, hli⟩; have y1 := hli.heap HU1.out n1.1 n1.2; have y2 := hli.heap HU2.out n2.1 n2.2; obtain ⟨k0, k1, k2, k3, k4, f0, f1, f2, f3, f4⟩ := ln_cells y2; obtain ⟨j0, j1, j2, j3, j4, g0, g1, g2, g3, g4⟩ := ln_cells y1)
  have hLX := HL2.out.trans hli
  have hgR := (gb_trans (gb_trans (gb_trans (gb_trans (gb_set (w4) (B + 1) 0 (.int .i64 i)) (gb_set _ _ 1 (.int .i64 m))) (gb_set _ _ 2 (.int .i64 0))) (gb_set _ _ 3 (.int .i64 0))) (gb_set _ _ 4 (.bool false)))
  refine bodyPost_ret (v := Ln.agg ⟨i, m, 0, 0, false⟩) ?res rfl ⟨rfl, htw.turn hgR y1 (by decide) (by omega), hLX.turn hgR (by omega)⟩
  case res => simp [results, Tryz.results59, go_sem, j0, j1, j2, j3, j4]
end Go.Proofs.YtackpcohmmlkeaaGreatDoor
end
