/- The teller tells what an event comes to: an Out. -/
import Derived.Test.YtefbedineniejaaDoorCsF
namespace Go.Proofs.YtefbedineniejaaDoor
open Go.RowKit
open Go.Maps (Keyed)
set_option linter.unusedVariables false

theorem heap_setc (w : World) (X o k : Nat) (v : Value) (h : k ≠ X) : (w.setCell ⟨X, o, none⟩ v).heap[k]? = w.heap[k]? := Below.heap_setCell w ⟨X, o, none⟩ v k h
theorem gb_set (w : World) (X o : Nat) (v : Value) : w.grownBy (w.setCell ⟨X, o, none⟩ v) (some X) := ⟨rfl, rfl, rfl, by simp, fun k _ hk => heap_setc w X o k v (fun e => hk (by rw [e]))⟩
theorem gb_trans {a b c : World} {X : Nat} (h : a.grownBy b (some X)) (k : b.grownBy c (some X)) : a.grownBy c (some X) :=
  ⟨k.os.trans h.os, k.tape.trans h.tape, k.output.trans h.output, Nat.le_trans h.size k.size, fun i hi hn => (k.block i (Nat.lt_of_lt_of_le hi h.size) hn).trans (h.block i hi hn)⟩
theorem RdY.turn {w w' : World} {v : Value} {ls : List Lay} (h : RdY w v ls) {X : Nat} (hg : w.grownBy w' (some X)) {cur : Array Value} {t : TypeId} {fz : Nat × Nat} (hX : w.heap[X]? = some (.cells cur t fz)) (ht : t ≠ 58) : RdY w' v ls := by
  obtain ⟨a, c, e1, e2, e3, e4, e5, e6⟩ := h
  have far : ∀ p, a = some p → p.block < w.heap.size ∧ p.block ≠ X := fun p hp => by
    obtain ⟨cu, f, hc⟩ := e6 p hp
    refine ⟨(Array.getElem?_eq_some_iff.1 hc).1, fun e => ?_⟩
    rw [e, hX] at hc
    injection hc with hc; injection hc with _ h2; exact ht h2
  have same : ∀ p, a = some p → w'.heap[p.block]? = w.heap[p.block]? := fun p hp => hg.block _ (far p hp).1 (fun e => (far p hp).2 (by cases e; rfl))
  refine ⟨a, c, e1, e2, e3, e4, fun j hj => ?_, fun p hp => ?_⟩
  · obtain ⟨b, off, hb, hc⟩ := e5 j hj
    refine ⟨b, off, hb, ?_⟩
    rw [← hc]
    exact World.cell?_of_block (show w'.heap[b]? = w.heap[b]? from same _ hb)
  · obtain ⟨cu, f, hc⟩ := e6 p hp
    exact ⟨cu, f, (same _ hp).trans hc⟩
theorem TW.turn {w w' : World} {T bl bm c : Nat} {L : List UInt8 → List Lay} {G : List UInt8 → Int} (h : TW w T bl bm c L G) {X : Nat} (hg : w.grownBy w' (some X)) {cur : Array Value} {t : TypeId} {fz : Nat × Nat} (hX : w.heap[X]? = some (.cells cur t fz)) (ht : t ≠ 58) (hT : X ≠ T) : TW w' T bl bm c L G := by
  obtain ⟨t0, t1, ne, ⟨ks, f, m1, m2, m3⟩, ⟨km, g, n1, n2, n3⟩⟩ := h
  have hbl : some bl ≠ some X := fun e => mv_nocells m1 cur t fz (by cases e; exact hX)
  have hbm : some bm ≠ some X := fun e => mv_nocells n1 cur t fz (by cases e; exact hX)
  have same : w'.heap[T]? = w.heap[T]? := hg.block T (cell_blk t0) (fun e => hT (by cases e; rfl))
  refine ⟨?_, ?_, ne, ⟨ks, f, m1.kept hg hbl, m2, fun l => (m3 l).turn hg hX ht⟩, ⟨km, g, MV.kept n1 hg hbm, n2, n3⟩⟩
  · rw [← t0]; exact World.cell?_of_block same
  · rw [← t1]; exact World.cell?_of_block same
theorem Li.turn {bl bm : Nat} {w0 w w' : World} (h : Li bl bm w0 w) {X : Nat} (hg : w.grownBy w' (some X)) (hX : w0.heap.size ≤ X) : Li bl bm w0 w' :=
  ⟨hg.os.trans h.os, hg.tape.trans h.tape, hg.output.trans h.output, Nat.le_trans h.size hg.size, fun k hk h1 h2 => (hg.block k (Nat.lt_of_lt_of_le hk h.size) (fun e => by cases e; omega)).trans (h.block k hk h1 h2)⟩
theorem TW.not_cells {w : World} {T bl bm c : Nat} {L : List UInt8 → List Lay} {G : List UInt8 → Int} (h : TW w T bl bm c L G) {X : Nat} {cur : Array Value} {t : TypeId} {fz : Nat × Nat} (hX : w.heap[X]? = some (.cells cur t fz)) : X ≠ bl ∧ X ≠ bm := by
  obtain ⟨t0, t1, ne, ⟨ks, f, m1, m2, m3⟩, ⟨km, g, n1, n2, n3⟩⟩ := h
  exact ⟨fun e => mv_nocells m1 cur t fz (by rw [← e]; exact hX), fun e => mv_nocells n1 cur t fz (by rw [← e]; exact hX)⟩
theorem Li.heap {bl bm : Nat} {w w' : World} (h : Li bl bm w w') {k : Nat} {o : Obj} (hk : w.heap[k]? = some o) (h1 : k ≠ bl) (h2 : k ≠ bm) : w'.heap[k]? = some o :=
  (h.block k (Array.getElem?_eq_some_iff.1 hk).1 h1 h2).trans hk

/-- A line. -/
structure Ln where
  id : Int
  value : Int
  short : Int
  late : Int
  gain : Bool
abbrev Ln.agg (x : Ln) : Value := .agg #[.int .i64 x.id, .int .i64 x.value, .int .i64 x.short, .int .i64 x.late, .bool x.gain]
abbrev Ln.ob (x : Ln) : Obj := .cells #[.int .i64 x.id, .int .i64 x.value, .int .i64 x.short, .int .i64 x.late, .bool x.gain] 54
theorem ln_cells {W : World} {b : Nat} {i v s l : Int} {g : Bool} (h : W.heap[b]? = some (.cells #[.int .i64 i, .int .i64 v, .int .i64 s, .int .i64 l, .bool g] 54 (0, 0))) :
    W.cell? ⟨b, 0, none⟩ = some (.int .i64 i) ∧ W.cell? ⟨b, 1, none⟩ = some (.int .i64 v) ∧ W.cell? ⟨b, 2, none⟩ = some (.int .i64 s) ∧ W.cell? ⟨b, 3, none⟩ = some (.int .i64 l) ∧ W.cell? ⟨b, 4, none⟩ = some (.bool g) ∧
    W.frozen? ⟨b, 0, none⟩ = false ∧ W.frozen? ⟨b, 1, none⟩ = false ∧ W.frozen? ⟨b, 2, none⟩ = false ∧ W.frozen? ⟨b, 3, none⟩ = false ∧ W.frozen? ⟨b, 4, none⟩ = false := by
  refine ⟨?_, ?_, ?_, ?_, ?_, ?_, ?_, ?_, ?_, ?_⟩ <;> simp [World.cell?, World.frozen?, h]
set_option maxHeartbeats 4000000 in
set_option maxRecDepth 100000 in
theorem one_out (T bl bm c : Nat) (L : List UInt8 → List Lay) (G : List UInt8 → Int) (s : ByteArray) (i q p o d : Int) (w : World) (h : TW w T bl bm c L G) (hs : s.size ≤ maxLen) (hc : c < 1000000) (hl : (L s.data.toList).length ≤ 1000)
    (hg : GoodY 20000000000000 (L s.data.toList)) (hq : 0 ≤ q ∧ q ≤ 1000000) :
    Calls Tryd.prog 51 #[.pointer (some ⟨T, 0, none⟩), .agg #[.int .i64 i, .string s, .int .i64 3, .int .i64 q, .int .i64 p, .int .i64 o, .int .i64 d]] w fun e w' =>
      e = .returned (Ln.agg ⟨i, (takeP (L s.data.toList) q).1, (takeP (L s.data.toList) q).2.1, 0, false⟩) ∧ TW w' T bl bm (c + 1) (updL L s.data.toList (takeP (L s.data.toList) q).2.2) G ∧ Li bl bm w w' := by
  have hTl : T < w.heap.size := cell_blk h.t0
  obtain ⟨W0, hW0⟩ : ∃ W0, W0 = ((w.alloc (Evt.ob ⟨i, s, 3, q, p, o, d⟩)).alloc (Ln.ob ⟨0, 0, 0, 0, false⟩)).alloc (Ln.ob ⟨i, 0, 0, 0, false⟩) := ⟨_, rfl⟩
  have hb0 : Below w.heap.size w W0 := by rw [hW0]; exact (((Below.refl _ w).new _).new _).new _
  have x1 : W0.heap[w.heap.size + 1]? = some (Ln.ob ⟨0, 0, 0, 0, false⟩) := by
    rw [hW0]
    have := World.alloc_heap_new (w.alloc (Evt.ob ⟨i, s, 3, q, p, o, d⟩)) (Ln.ob ⟨0, 0, 0, 0, false⟩)
    rw [World.size_alloc] at this
    exact (Below.heap_alloc _ _ _ (by simp)).trans this
  have x2 : W0.heap[w.heap.size + 2]? = some (Ln.ob ⟨i, 0, 0, 0, false⟩) := by
    rw [hW0]
    have := World.alloc_heap_new ((w.alloc (Evt.ob ⟨i, s, 3, q, p, o, d⟩)).alloc (Ln.ob ⟨0, 0, 0, 0, false⟩)) (Ln.ob ⟨i, 0, 0, 0, false⟩)
    rw [World.size_alloc, World.size_alloc] at this
    exact this
  have x0 : W0.heap[w.heap.size]? = some (Evt.ob ⟨i, s, 3, q, p, o, d⟩) := by
    rw [hW0]
    exact (Below.heap_alloc _ _ _ (by simp; omega)).trans ((Below.heap_alloc _ _ _ (by simp)).trans (World.alloc_heap_new w _))
  have c1 : W0.cell? ⟨w.heap.size, 1, none⟩ = some (.string s) := by simp [World.cell?, x0]
  have c3 : W0.cell? ⟨w.heap.size, 3, none⟩ = some (.int .i64 q) := by simp [World.cell?, x0]
  have hT0 := h.below hb0
  have n1 := hT0.not_cells x1
  have n2 := hT0.not_cells x2
  have HTK := Lib.hid (take_any T bl bm c L G s q W0 hT0 hs hc (by omega) hg hl)
  obtain ⟨tv, htv⟩ : ∃ tv, tv = (takeP (L s.data.toList) q).1 := ⟨_, rfl⟩
  obtain ⟨tm, htm⟩ : ∃ tm, tm = (takeP (L s.data.toList) q).2.1 := ⟨_, rfl⟩
  obtain ⟨tl, htl⟩ : ∃ tl, tl = (takeP (L s.data.toList) q).2.2 := ⟨_, rfl⟩
  rw [← htv, ← htm, ← htl] at HTK ⊢
  have HX1 := Lib.hid x1
  have HX2 := Lib.hid x2
  clear h hT0 x0 x1 x2 htv htm htl hg hl
  go_enter Tryd.func51, Tryd.ntmps51
  go_upto_region 11 with fail
  simp only [Evt.ob, Ln.ob] at hW0
  simp only [Nat.add_assoc, Nat.reduceAdd]
  rw [← hW0]
  clear hW0
  have HL0 : Li bl bm w W0 := Li.of_below hb0
  obtain ⟨B, hBe⟩ : ∃ B, B = w.heap.size := ⟨_, rfl⟩
  rw [← hBe] at n1 n2 c1 c3 HX1 HX2 hTl ⊢
  have hBw : w.heap.size ≤ B := by omega
  clear hBe hb0
  go_wp2_with (go_at_call 72; refine HTK.out.mono ?_; rintro e w4 ⟨rfl, htw, hli⟩; have y1 := hli.heap HX1.out n1.1 n1.2; have y2 := hli.heap HX2.out n2.1 n2.2; obtain ⟨k0, k1, k2, k3, k4, f0, f1, f2, f3, f4⟩ := ln_cells y2; obtain ⟨j0, j1, j2, j3, j4, g0, g1, g2, g3, g4⟩ := ln_cells y1)
  have hgX : w4.grownBy ((w4.setCell ⟨B + 2, 1, none⟩ (.int .i64 tv)).setCell ⟨B + 2, 2, none⟩ (.int .i64 tm)) (some (B + 2)) := gb_trans (gb_set _ _ _ _) (gb_set _ _ _ _)
  have hTX := htw.turn hgX y2 (by decide) (by omega)
  have yX := (hgX.block (B + 1) (Array.getElem?_eq_some_iff.1 y1).1 (by simp)).trans y1
  have hLX := (HL0.trans hli).turn hgX (by omega)
  have hgR := gb_trans (gb_trans (gb_trans (gb_trans (gb_set ((w4.setCell ⟨B + 2, 1, none⟩ (.int .i64 tv)).setCell ⟨B + 2, 2, none⟩ (.int .i64 tm)) (B + 1) 0 (.int .i64 i)) (gb_set _ _ 1 (.int .i64 tv))) (gb_set _ _ 2 (.int .i64 tm))) (gb_set _ _ 3 (.int .i64 0))) (gb_set _ _ 4 (.bool false))
  refine bodyPost_ret (v := Ln.agg ⟨i, tv, tm, 0, false⟩) ?res rfl ⟨rfl, hTX.turn hgR yX (by decide) (by omega), hLX.turn hgR (by omega)⟩
  case res => simp [results, Tryd.results51, go_sem, j0, j1, j2, j3, j4]
end Go.Proofs.YtefbedineniejaaDoor
