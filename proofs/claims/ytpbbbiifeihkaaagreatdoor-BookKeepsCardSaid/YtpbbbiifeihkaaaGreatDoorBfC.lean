/- tallymanref.Book's Post, Correct, Void: what they hand back, and the book behind them. (Printed by wip/gen_bfc.py.) -/
import Derived.Test.YtpbbbiifeihkaaaGreatDoorBfA
import Derived.Test.YtpbbbiifeihkaaaGreatDoorKitR
import Derived.Test.YtpbbbiifeihkaaaGreatDoorKh
import Derived.Deep.RegionWith
import Derived.Deep.LoopGhost
import Derived.Deep.RegionHeld3
import Derived.StillTailTactics
namespace Go.Proofs.YtpbbbiifeihkaaaGreatDoor
open Go.RowKit
open Go.Maps (Keyed)
set_option linter.unusedVariables false

/-- What a call on the document's book at B may turn: its block; from B on, blocks of the document's versions. -/
structure Fh (B : Nat) (w w' : World) : Prop where
  os : w'.os = w.os
  tape : w'.tape = w.tape
  output : w'.output = w.output
  size : w.heap.size ≤ w'.heap.size
  block : ∀ k o, w.heap[k]? = some o → k ≠ B → (k < B ∨ ∀ cur fz, o ≠ .cells cur 59 fz) → w'.heap[k]? = some o
theorem Fh.refl (B : Nat) (w : World) : Fh B w w := ⟨rfl, rfl, rfl, Nat.le_refl _, fun _ _ h _ _ => h⟩
theorem Fh.trans {B : Nat} {a b c : World} (h : Fh B a b) (k : Fh B b c) : Fh B a c :=
  ⟨k.os.trans h.os, k.tape.trans h.tape, k.output.trans h.output, Nat.le_trans h.size k.size, fun i o h1 h2 h3 => k.block i o (h.block i o h1 h2 h3) h2 h3⟩
theorem Fh.of_below {B : Nat} {w w' : World} (h : Below w.heap.size w w') : Fh B w w' :=
  ⟨h.os, h.tape, h.output, h.size, fun k o h1 _ _ => (h.block k (Array.getElem?_eq_some_iff.1 h1).1).trans h1⟩
theorem Fh.setB (B j : Nat) (w : World) (u : Value) : Fh B w (w.setCell ⟨B, j, none⟩ u) :=
  ⟨rfl, rfl, rfl, (set_gb w B j u).size, fun k o h1 h2 _ => ((set_gb w B j u).block k (Array.getElem?_eq_some_iff.1 h1).1 (fun e => h2 (by injection e))).trans h1⟩
theorem Fh.fresh {B X j : Nat} {a b : World} (u : Value) (h : Fh B a b) (hX : a.heap.size ≤ X) : Fh B a (b.setCell ⟨X, j, none⟩ u) :=
  ⟨h.os, h.tape, h.output, Nat.le_trans h.size (set_gb b X j u).size, fun k o h1 h2 h3 => by
    have h4 := (Array.getElem?_eq_some_iff.1 h1).1
    exact ((set_gb b X j u).block k (Nat.lt_of_lt_of_le h4 h.size) (fun e => by injection e with e; omega)).trans (h.block k o h1 h2 h3)⟩
theorem Fh.grown {B g : Nat} {w w' : World} (hg : w.grownBy w' (some g)) (hB : B < g) {cur : Array Value} {fz : Nat × Nat} (hc : w.heap[g]? = some (.cells cur 59 fz)) : Fh B w w' :=
  ⟨hg.os, hg.tape, hg.output, hg.size, fun k o h1 h2 h3 => (hg.block k (Array.getElem?_eq_some_iff.1 h1).1 (fun e => by
    injection e with e
    subst e
    rcases h3 with h3 | h3
    · omega
    · rw [hc] at h1; injection h1 with h1; exact h3 cur fz h1.symm)).trans h1⟩
theorem Fh.grownO {B : Nat} {w w' : World} {v : Value} {n : Nat} {xs : List Value} (ho : w.ownsRow (B + 1) 59 9 v n xs) (hg : w.grownBy w' v.ownBlock) : Fh B w w' := by
  cases hv : v.ownBlock with
  | none => rw [hv] at hg; exact ⟨hg.os, hg.tape, hg.output, hg.size, fun k o h1 _ _ => (hg.block k (Array.getElem?_eq_some_iff.1 h1).1 (by simp)).trans h1⟩
  | some g =>
    obtain ⟨h1, -, cu, hc⟩ := own_atK ho hv
    rw [hv] at hg
    exact Fh.grown hg (by omega) hc
theorem new_verF (w : World) (x : Ver) {j : Nat} {u : Value} (h : x.cells[j]? = some u) : (w.alloc (.cells #[.int .i64 x.ev.id, .string x.ev.item, .int .i64 x.ev.kind, .int .i64 x.ev.qty, .int .i64 x.ev.price, .int .i64 x.ev.ofn, .int .i64 x.ev.day, .int .i64 x.frm, .int .i64 x.to] 59)).cell? ((⟨w.heap.size, 0, none⟩ : Addr).add j) = some u := by
  have e0 : (⟨w.heap.size, 0, none⟩ : Addr).add j = ⟨w.heap.size, j, none⟩ := by simp [Addr.add]; omega
  rw [e0]
  exact new_at w _ _ j u h
theorem fw_fin {W8 w12 : World} {B E : Nat} {ls : List Ver} {t n : Int} {a a' : Option Addr} {c c' : Nat} {x : Ver} {o : Obj} {e : Evt} (h : W8.heap[B]? = some (.cells #[.slice a ls.length c, .int .i64 t, .int .i64 n] 48 (0, 0))) (ho : W8.ownsRow (B + 1) 59 9 (.slice a ls.length c) ls.length (flV ls)) (hE : W8.heap[E]? = some e.ob)
    (hg : (W8.alloc o).grownBy w12 (Value.slice a ls.length c).ownBlock) (h12 : w12.ownsRow (B + 1) 59 9 (.slice a' (ls.length + 1) c') (ls.length + 1) (flV ls ++ x.cells)) :
    w12.heap[B]? = some (.cells #[.slice a ls.length c, .int .i64 t, .int .i64 n] 48 (0, 0)) ∧ (w12.heap[E]? = some e.ob ∧ (w12.setCell ⟨B, 0, none⟩ (.slice a' (ls.length + 1) c')).heap[E]? = some e.ob) ∧ FW (w12.setCell ⟨B, 0, none⟩ (.slice a' (ls.length + 1) c')) B ⟨ls ++ [x], t, n⟩ ∧ Fh B W8 (w12.setCell ⟨B, 0, none⟩ (.slice a' (ls.length + 1) c')) := by
  have hba := (Below.refl _ W8).new o
  have h9 := (hba.block B (Array.getElem?_eq_some_iff.1 h).1).trans h
  have hE9 := (hba.block E (Array.getElem?_eq_some_iff.1 hE).1).trans hE
  have ho9 := ho.alloc o
  have hnB : (Value.slice a ls.length c).ownBlock ≠ some B := own_nxK ho9 h9 (by decide)
  have hnE : (Value.slice a ls.length c).ownBlock ≠ some E := own_nxK ho9 hE9 (by decide)
  have hB12 := (hg.block B (Array.getElem?_eq_some_iff.1 h9).1 (fun e => hnB e.symm)).trans h9
  have hE12 := (hg.block E (Array.getElem?_eq_some_iff.1 hE9).1 (fun e => hnE e.symm)).trans hE9
  have hBE : E ≠ B := fun e' => by rw [e', hB12] at hE12; injection hE12 with hE12; injection hE12 with _ hE12; cases hE12
  have hs := set_gb w12 B 0 (.slice a' (ls.length + 1) c')
  refine ⟨hB12, ⟨hE12, (hs.block E (Array.getElem?_eq_some_iff.1 hE12).1 (fun e => by injection e with e; exact hBE e)).trans hE12⟩, ⟨a', c', ?_, ?_⟩, ((Fh.of_below hba).trans (Fh.grownO ho9 hg)).trans (Fh.setB B 0 w12 _)⟩
  · simp only [List.length_append, List.length_singleton]
    rw [mid_self _ hB12]; rfl
  · simp only [List.length_append, List.length_singleton]
    rw [show flV (ls ++ [x]) = flV ls ++ x.cells by simp [flV, flK]]
    exact own_gbxK h12 hs (own_nxK h12 hB12 (by decide))
theorem setTo_app (ls : List Ver) (x : Ver) (k : Nat) (t : Int) (hk : k < ls.length) : setTo (ls ++ [x]) k t = setTo ls k t ++ [x] := by
  unfold setTo
  apply List.ext_getElem?
  intro j
  simp only [List.getElem?_modify, List.getElem?_append, List.length_modify]
  by_cases hj : j < ls.length
  · simp [hj]
  · have : k ≠ j := by omega
    simp [hj, this]
/-- A version's end is written. -/
theorem FW.setV {w : World} {B : Nat} {b : Bk} (h : FW w B b) (k : Nat) (hk : k < b.l.length) (z : Int) : ∃ g c, w.heap[B]? = some (.cells #[.slice (some ⟨g, 0, none⟩) b.l.length c, .int .i64 b.turn, .int .i64 b.next] 48 (0, 0)) ∧ B < g ∧ (∃ v, w.cell? ⟨g, k * 9 + 8, none⟩ = some v) ∧ (∀ j, w.frozen? ⟨g, j, none⟩ = false) ∧ (∃ cu, w.heap[g]? = some (.cells cu 59 (0, 0))) ∧
    FW (w.setCell ⟨g, k * 9 + 8, none⟩ (.int .i64 z)) B ⟨setTo b.l k z, b.turn, b.next⟩ ∧ Fh B w (w.setCell ⟨g, k * 9 + 8, none⟩ (.int .i64 z)) := by
  obtain ⟨a, c, h1, h2⟩ := h.row
  have h2' := h2
  rcases h2.2 with ⟨-, h0⟩ | ⟨g, cap, cur, e1, hB, hc, hn, hm, hs, ht⟩
  · omega
  · injection e1 with e1 e2 e3
    subst e1 e3
    have hgs := set_gb w g (k * 9 + 8) (.int .i64 z)
    have hlt : k * 9 + 8 < cur.size := by rw [hs]; have : (k + 1) * 9 ≤ c * 9 := Nat.mul_le_mul_right _ (by omega); omega
    refine ⟨g, c, h1, by omega, ⟨cur[k * 9 + 8], by simp [World.cell?, hc, hlt]⟩, fun j => by simp [World.frozen?, hc], ⟨cur, hc⟩, ⟨some ⟨g, 0, none⟩, c, ?_, ?_⟩, Fh.grown hgs (by omega) hc⟩
    · rw [setTo_len]
      exact (hgs.block B (Array.getElem?_eq_some_iff.1 h1).1 (fun e => by injection e with e; omega)).trans h1
    · rw [setTo_len]
      refine ⟨by rw [flK_len ver_len, setTo_len], .inr ⟨g, c, _, rfl, hB, mid_self _ hc, hn, hm, by simpa using hs, ?_⟩⟩
      rw [← flV_set, ← ht]
      apply List.ext_getElem?
      intro j
      simp only [List.getElem?_set, List.length_take, Array.length_toList]
      by_cases hj : j < b.l.length * 9
      · rw [List.getElem?_take_of_lt hj, Array.getElem?_toList, List.getElem?_take_of_lt hj, Array.getElem?_toList, Array.getElem?_setIfInBounds]
        by_cases e : k * 9 + 8 = j
        · subst e
          have hmin : k * 9 + 8 < min (b.l.length * 9) cur.size := by omega
          simp [hlt, hmin]
        · simp [e]
      · have hjk : k * 9 + 8 ≠ j := by omega
        simp [hjk, List.getElem?_take, hj]
set_option maxHeartbeats 4000000 in
set_option maxRecDepth 100000 in
theorem refPost_any (B : Nat) (b : Bk) (e : Evt) (w : World) (h : FW w B b) (hlen : b.l.length ≤ 1000) (ht0 : 0 ≤ b.turn) (ht : b.turn ≤ 1000000) (hn0 : 0 ≤ b.next) (hn : b.next ≤ 1000000) (hs : e.item.size ≤ 1000000) :
    Calls Tryz.prog 45 #[.pointer (some ⟨B, 0, none⟩), e.agg] w fun r w' => r = .returned (.tuple #[.int .i64 (b.post e).2.1, .int .i64 ((b.post e).2.2.getD 0)]) ∧ FW w' B (b.post e).1 ∧ Fh B w w' := by
  obtain ⟨i0, hinf, hiz, his, hib⟩ := info_parts info_vf
  obtain ⟨evr, hevr⟩ : ∃ evr, evr = e.right := ⟨_, rfl⟩
  have HRT : Hid (∀ W, Calls Tryz.prog 36 #[e.agg] W (Gives (.bool evr) W)) := Lib.hid (fun W => by rw [hevr]; exact refRight_any e.id e.item e.kind e.qty e.price e.ofn e.day W hs)
  have hbp : b.post e = if evr = true then (if 120 ≤ b.l.length then (b, 0, some 12) else (Bk.write ⟨b.l, b.turn, b.next + 1⟩ (e.num (b.next + 1)), b.next + 1, none)) else (b, 0, some 1) := by rw [hevr]; rfl
  rw [hbp]
  clear hbp hevr
  have HF := Lib.hid h
  obtain ⟨a, c, h1, h2⟩ := h.row
  have HB := Lib.hid h1
  have HO := Lib.hid h2
  obtain ⟨ls, tn, nx⟩ := b
  obtain ⟨i, s, kd, q, p, o, d⟩ := e
  simp only at hlen ht0 ht hn0 hn hs HF HB HO HRT
  simp only [Evt.agg] at HRT ⊢
  clear h h1 h2
  have hb0 : ∀ W, Below (w.alloc (Evt.ob ⟨i, s, kd, q, p, o, d⟩)).heap.size (w.alloc (Evt.ob ⟨i, s, kd, q, p, o, d⟩)) W → Below w.heap.size w W := fun W h => ((Below.refl _ w).new _).step h
  cases evr with
  | false =>
    go_enter Tryz.func45, Tryz.ntmps45
    go_wp2_with (go_at_call 36; refine (HRT.out _).mono ?_; rintro e w2 ⟨rfl, hb2⟩)
    go_ret2
    exact ⟨rfl, HF.out.below (hb0 _ hb2), Fh.of_below (hb0 _ hb2)⟩
  | true =>
    by_cases hfull : 120 ≤ ls.length
    · have hfz : (ls.length : Int) ≥ 120 := by omega
      simp only [if_true, if_pos hfull]
      go_enter Tryz.func45, Tryz.ntmps45
      go_upto_region 3 with (go_at_call 36; refine (HRT.out _).mono ?_; rintro e w2 ⟨rfl, hb2⟩)
      obtain ⟨c0, c1, c2, -⟩ := fb_cells (((hb0 _ hb2).block B (Array.getElem?_eq_some_iff.1 HB.out).1).trans HB.out)
      go_wp2_with fail
      go_ret2
      exact ⟨rfl, HF.out.below (hb0 _ hb2), Fh.of_below (hb0 _ hb2)⟩
    · have hfz : ¬ (ls.length : Int) ≥ 120 := by omega
      simp only [if_true, if_neg hfull]
      simp only [Bk.write, Evt.num]
      go_enter Tryz.func45, Tryz.ntmps45
      go_upto_region 3 with (go_at_call 36; refine (HRT.out _).mono ?_; rintro e w2 ⟨rfl, hb2⟩)
      have hB2 := ((hb0 _ hb2).block B (Array.getElem?_eq_some_iff.1 HB.out).1).trans HB.out
      obtain ⟨c0, c1, c2, f0, f1, f2⟩ := fb_cells hB2
      have hE2 := (hb2.block _ (by simp)).trans (World.alloc_heap_new w (Evt.ob ⟨i, s, kd, q, p, o, d⟩))
      obtain ⟨d0, d1, d2, d3, d4, d5, d6⟩ := ev_cellsK hE2
      have dz : w2.frozen? ⟨w.heap.size, 0, none⟩ = false := by simp [World.frozen?, hE2]
      have hBE : B < w.heap.size := (Array.getElem?_eq_some_iff.1 HB.out).1
      have hneE : w.heap.size ≠ B := by omega
      go_upto_region 8 with fail
      obtain ⟨E, hE⟩ : ∃ E, E = w.heap.size := ⟨_, rfl⟩
      rw [← hE] at hE2 hneE ⊢
      have hEw : w.heap.size ≤ E := by omega
      have hf2 : Fh B w w2 := Fh.of_below (hb0 _ hb2)
      have ho2 := own_below HO.out (hb0 _ hb2)
      clear hE d0 d1 d2 d3 d4 d5 d6 dz c0 c1 c2 f0 f1 f2 hb2 HF HRT
      have hB3 := mid_self (o := 2) (.int .i64 (nx + 1)) hB2
      have hE3 := ((set_gb w2 B 2 (.int .i64 (nx + 1))).block E (Array.getElem?_eq_some_iff.1 hE2).1 (fun e => hneE (by injection e))).trans hE2
      have ho3 := own_gbxK ho2 (set_gb w2 B 2 (.int .i64 (nx + 1))) (own_nxK ho2 hB2 (by decide))
      have hf3 := hf2.trans (Fh.setB B 2 w2 (.int .i64 (nx + 1)))
      generalize w2.setCell ⟨B, 2, none⟩ (.int .i64 (nx + 1)) = w3 at hB3 hE3 ho3 hf3 ⊢
      have hB4 := mid_self (o := 1) (.int .i64 (tn + 1)) hB3
      have hE4 := ((set_gb w3 B 1 (.int .i64 (tn + 1))).block E (Array.getElem?_eq_some_iff.1 hE3).1 (fun e => hneE (by injection e))).trans hE3
      have ho4 := own_gbxK ho3 (set_gb w3 B 1 (.int .i64 (tn + 1))) (own_nxK ho3 hB3 (by decide))
      have hf4 := hf3.trans (Fh.setB B 1 w3 (.int .i64 (tn + 1)))
      generalize w3.setCell ⟨B, 1, none⟩ (.int .i64 (tn + 1)) = w4 at hB4 hE4 ho4 hf4 ⊢
      have hE8 : w4.heap[E]? = some (Evt.ob ⟨i, s, kd, q, p, o, d⟩) := hE4
      have hE8 := mid_self (o := 0) (.int .i64 (nx + 1)) hE8
      have hB8 := ((set_gb w4 E 0 (.int .i64 (nx + 1))).block B (Array.getElem?_eq_some_iff.1 hB4).1 (fun e => hneE (by injection e with e; exact e.symm))).trans hB4
      have ho8 := own_gbxK ho4 (set_gb w4 E 0 (.int .i64 (nx + 1))) (own_nxK ho4 hE4 (by decide))
      have hf8 := Fh.fresh (j := 0) (.int .i64 (nx + 1)) hf4 hEw
      generalize w4.setCell ⟨E, 0, none⟩ (.int .i64 (nx + 1)) = Wq at hB8 hE8 ho8 hf8 ⊢
      have hB8 : Wq.drew.heap[B]? = some (.cells #[.slice a ls.length c, .int .i64 (tn + 1), .int .i64 (nx + 1)] 48 (0, 0)) := hB8
      have hE8 : Wq.drew.heap[E]? = some (Evt.ob ⟨nx + 1, s, kd, q, p, o, d⟩) := hE8
      have ho8 := own_below ho8 (Below.refl _ Wq).drew
      have hf8 := hf8.trans (Fh.of_below (Below.refl _ Wq).drew)
      have hb8 : B < Wq.drew.heap.size := (Array.getElem?_eq_some_iff.1 hB8).1
      have hls : ls.length ≤ 1000 := hlen
      clear hB2 hE2 ho2 hf2 hB3 hE3 ho3 hf3 hB4 hE4 ho4 hf4 HB HO
      refine wp_region_held_drew (S := fun W => W.heap[E]? = some (Evt.ob ⟨(nx + 1), s, kd, q, p, o, d⟩) ∧ W.cell? ⟨B, 1, none⟩ = some (.int .i64 (tn + 1))) (by kernel_rfl) (by first | exact ⟨hE8, (fb_cells hB8).2.1⟩) (fun hHeld => ?_)
      obtain ⟨W8, hW8⟩ : ∃ W8, W8 = Wq.drew := ⟨_, rfl⟩
      rw [← hW8] at hHeld hB8 hE8 ho8 hf8 hb8 ⊢
      clear hW8
      refine wpAnyH_take (i := 0) (v := ?_) rfl (by kernel_rfl) (by kernel_rfl) (by kernel_rfl) (fun _ _ _ h => h) (Or.inl ⟨by rfl, ?_⟩) hHeld ?_
      rotate_left
      · intro W hSw; go_simp; try (with_reducible rfl)
      refine wpAnyH_take (i := 1) (v := ?_) rfl (by kernel_rfl) (by kernel_rfl) (by kernel_rfl) (fun _ _ _ h => h) (Or.inl ⟨by rfl, ?_⟩) hHeld ?_
      rotate_left
      · intro W hSw; go_simp; try (with_reducible rfl)
      refine wpAnyH_take (i := 2) (v := ?_) rfl (by kernel_rfl) (by kernel_rfl) (by kernel_rfl) (fun _ _ _ h => h) (Or.inl ⟨by rfl, ?_⟩) hHeld ?_
      rotate_left
      · intro W hSw; go_simp; try (with_reducible rfl)
      refine wpAnyH_take (i := 3) (v := ?_) rfl (by kernel_rfl) (by kernel_rfl) (by kernel_rfl) (fun _ _ _ h => h) (Or.inl ⟨by rfl, ?_⟩) hHeld ?_
      rotate_left
      · intro W hSw; go_simp; try (with_reducible rfl)
      refine wpAnyH_take (i := 5) (v := ?_) rfl (by kernel_rfl) (by kernel_rfl) (by kernel_rfl) (fun _ _ _ h => h) (Or.inl ⟨by rfl, ?_⟩) hHeld ?_
      rotate_left
      · intro W hSw; obtain ⟨d0, d1, d2, d3, d4, d5, d6⟩ := ev_cellsK hSw.1; go_simp; try (with_reducible rfl)
      refine wpAnyH_take (i := 6) (v := ?_) rfl (by kernel_rfl) (by kernel_rfl) (by kernel_rfl) (fun _ _ _ h => h) (Or.inl ⟨by rfl, ?_⟩) hHeld ?_
      rotate_left
      · intro W hSw; go_simp; try (with_reducible rfl)
      refine wpAnyH_take (i := 7) (v := ?_) rfl (by kernel_rfl) (by kernel_rfl) (by kernel_rfl) (fun _ _ _ h => h) (Or.inl ⟨by rfl, ?_⟩) hHeld ?_
      rotate_left
      · intro W hSw; go_simp; try (with_reducible rfl)
      refine wpAnyH_take (i := 8) (v := ?_) rfl (by kernel_rfl) (by kernel_rfl) (by kernel_rfl) (fun _ _ _ h => h) (Or.inl ⟨by rfl, ?_⟩) hHeld ?_
      rotate_left
      · intro W hSw; go_simp; try (with_reducible rfl)
      refine wpAnyH_take (i := 9) (v := ?_) rfl (by kernel_rfl) (by kernel_rfl) (by kernel_rfl) (fun _ _ _ h => h) (Or.inl ⟨by rfl, ?_⟩) hHeld ?_
      rotate_left
      · intro W hSw; have q1 := hSw.2; go_simp; try (with_reducible rfl)
      refine wpAnyH_take (i := 10) (v := ?_) rfl (by kernel_rfl) (by kernel_rfl) (by kernel_rfl) (fun _ _ _ h => h) (Or.inl ⟨by rfl, ?_⟩) hHeld ?_
      rotate_left
      · intro W hSw; go_simp; try (with_reducible rfl)
      refine wpAnyH_ready (rs := [4, 11]) (by kernel_rfl) (by simp) (AllReadyH.cons rfl (fun K hK => ?_) (AllReadyH.cons rfl (fun K hK => ?_) AllReadyH.nil))
      · have q0 := (fb_cells hB8).1
        go_simp
        refine hK.out _ _ hHeld (fun hHeld => ?_)
        clear hK K q0
        refine wpAnyH_ready (rs := [11]) (by kernel_rfl) (by simp) (AllReadyH.cons rfl (fun K hK => ?_) AllReadyH.nil)
        have hE9 := (Below.heap_alloc W8 (.cells #[.int .i64 (nx + 1), .string s, .int .i64 kd, .int .i64 q, .int .i64 p, .int .i64 o, .int .i64 d, .int .i64 (tn + 1), .int .i64 0] 59) E (Array.getElem?_eq_some_iff.1 hE8).1).trans hE8
        have hB9 := (Below.heap_alloc W8 (.cells #[.int .i64 (nx + 1), .string s, .int .i64 kd, .int .i64 q, .int .i64 p, .int .i64 o, .int .i64 d, .int .i64 (tn + 1), .int .i64 0] 59) B (Array.getElem?_eq_some_iff.1 hB8).1).trans hB8
        go_simp
        refine hK.out _ _ ⟨hE9, (fb_cells hB9).2.1⟩ (fun hHeld => ?_)
        clear hK K
        refine wpAnyH_ready (rs := [12]) (by kernel_rfl) (by simp) (AllReadyH.cons rfl (fun K hK => ?_) AllReadyH.nil)
        rw [if_pos (by rfl)]
        refine wp_append_own _ (.tmp 38) (.tmp 45) 46 rfl (B + 1) 59 i0 (.agg #[.int .i64 0, .string ⟨#[]⟩, .int .i64 0, .int .i64 0, .int .i64 0, .int .i64 0, .int .i64 0, .int .i64 0, .int .i64 0]) 9 80 Tryz.underlying46 hinf hiz his hib rfl (by decide) _ ls.length (flV ls) rfl (ho8.alloc (.cells #[.int .i64 (nx + 1), .string s, .int .i64 kd, .int .i64 q, .int .i64 p, .int .i64 o, .int .i64 d, .int .i64 (tn + 1), .int .i64 0] 59)) ⟨W8.heap.size, 0, none⟩ 1 1 (Ver.cells ⟨⟨(nx + 1), s, kd, q, p, o, d⟩, tn + 1, 0⟩) rfl rfl (fun j u hj => new_verF W8 ⟨⟨(nx + 1), s, kd, q, p, o, d⟩, tn + 1, 0⟩ hj) (one_ver _) (by unfold maxLen; omega) (by omega) (by simp; omega) ?_
        intro v12 w12 ho12 hg12 _
        obtain ⟨a9, c9, rfl⟩ := own_slice ho12
        obtain ⟨hB12, hE12, hF12, hH12⟩ := fw_fin hB8 ho8 hE8 hg12 ho12
        obtain ⟨z0, z1, z2, z3, z4, z5⟩ := fb_cells hB12
        refine hK.out _ _ ⟨hE12.1, z1⟩ (fun hHeld => ?_)
        clear hK K
        refine wpAnyH_take (i := 13) (v := ?_) rfl (by kernel_rfl) (by kernel_rfl) (by kernel_rfl) (fun _ _ _ h => h) (Or.inl ⟨by rfl, ?_⟩) hHeld ?_
        rotate_left
        · intro W hSw; go_simp; try (with_reducible rfl)
        refine wpAnyH_take (i := 14) (v := ?_) rfl (by kernel_rfl) (by kernel_rfl) (by kernel_rfl) (fun _ _ _ h => h) (Or.inl ⟨by rfl, ?_⟩) hHeld ?_
        rotate_left
        · intro W hSw; go_simp; try (with_reducible rfl)
        refine wpAnyH_ready (rs := [15]) (by kernel_rfl) (by simp) (AllReadyH.cons rfl (fun K hK => ?_) AllReadyH.nil)
        go_simp
        refine hK.out _ _ ⟨hE12.2, by rw [cell_set 1 ⟨_, z0⟩, if_neg (by decide)]; exact z1⟩ (fun hHeld => ?_)
        clear hK K
        refine wpAnyH_done (by kernel_rfl) ?_ _
        obtain ⟨d0, d1, d2, d3, d4, d5, d6⟩ := ev_cellsK hE12.2
        go_wp2_with fail
        go_ret2
        exact ⟨rfl, hF12, hf8.trans hH12⟩
      · have hE9 := (Below.heap_alloc W8 (.cells #[.int .i64 (nx + 1), .string s, .int .i64 kd, .int .i64 q, .int .i64 p, .int .i64 o, .int .i64 d, .int .i64 (tn + 1), .int .i64 0] 59) E (Array.getElem?_eq_some_iff.1 hE8).1).trans hE8
        have hB9 := (Below.heap_alloc W8 (.cells #[.int .i64 (nx + 1), .string s, .int .i64 kd, .int .i64 q, .int .i64 p, .int .i64 o, .int .i64 d, .int .i64 (tn + 1), .int .i64 0] 59) B (Array.getElem?_eq_some_iff.1 hB8).1).trans hB8
        go_simp
        refine hK.out _ _ ⟨hE9, (fb_cells hB9).2.1⟩ (fun hHeld => ?_)
        clear hK K
        refine wpAnyH_ready (rs := [4]) (by kernel_rfl) (by simp) (AllReadyH.cons rfl (fun K hK => ?_) AllReadyH.nil)
        have q0 := (fb_cells hB9).1
        go_simp
        refine hK.out _ _ hHeld (fun hHeld => ?_)
        clear hK K q0
        refine wpAnyH_ready (rs := [12]) (by kernel_rfl) (by simp) (AllReadyH.cons rfl (fun K hK => ?_) AllReadyH.nil)
        rw [if_pos (by rfl)]
        refine wp_append_own _ (.tmp 38) (.tmp 45) 46 rfl (B + 1) 59 i0 (.agg #[.int .i64 0, .string ⟨#[]⟩, .int .i64 0, .int .i64 0, .int .i64 0, .int .i64 0, .int .i64 0, .int .i64 0, .int .i64 0]) 9 80 Tryz.underlying46 hinf hiz his hib rfl (by decide) _ ls.length (flV ls) rfl (ho8.alloc (.cells #[.int .i64 (nx + 1), .string s, .int .i64 kd, .int .i64 q, .int .i64 p, .int .i64 o, .int .i64 d, .int .i64 (tn + 1), .int .i64 0] 59)) ⟨W8.heap.size, 0, none⟩ 1 1 (Ver.cells ⟨⟨(nx + 1), s, kd, q, p, o, d⟩, tn + 1, 0⟩) rfl rfl (fun j u hj => new_verF W8 ⟨⟨(nx + 1), s, kd, q, p, o, d⟩, tn + 1, 0⟩ hj) (one_ver _) (by unfold maxLen; omega) (by omega) (by simp; omega) ?_
        intro v12 w12 ho12 hg12 _
        obtain ⟨a9, c9, rfl⟩ := own_slice ho12
        obtain ⟨hB12, hE12, hF12, hH12⟩ := fw_fin hB8 ho8 hE8 hg12 ho12
        obtain ⟨z0, z1, z2, z3, z4, z5⟩ := fb_cells hB12
        refine hK.out _ _ ⟨hE12.1, z1⟩ (fun hHeld => ?_)
        clear hK K
        refine wpAnyH_take (i := 13) (v := ?_) rfl (by kernel_rfl) (by kernel_rfl) (by kernel_rfl) (fun _ _ _ h => h) (Or.inl ⟨by rfl, ?_⟩) hHeld ?_
        rotate_left
        · intro W hSw; go_simp; try (with_reducible rfl)
        refine wpAnyH_take (i := 14) (v := ?_) rfl (by kernel_rfl) (by kernel_rfl) (by kernel_rfl) (fun _ _ _ h => h) (Or.inl ⟨by rfl, ?_⟩) hHeld ?_
        rotate_left
        · intro W hSw; go_simp; try (with_reducible rfl)
        refine wpAnyH_ready (rs := [15]) (by kernel_rfl) (by simp) (AllReadyH.cons rfl (fun K hK => ?_) AllReadyH.nil)
        go_simp
        refine hK.out _ _ ⟨hE12.2, by rw [cell_set 1 ⟨_, z0⟩, if_neg (by decide)]; exact z1⟩ (fun hHeld => ?_)
        clear hK K
        refine wpAnyH_done (by kernel_rfl) ?_ _
        obtain ⟨d0, d1, d2, d3, d4, d5, d6⟩ := ev_cellsK hE12.2
        go_wp2_with fail
        go_ret2
        exact ⟨rfl, hF12, hf8.trans hH12⟩
set_option maxHeartbeats 4000000 in
set_option maxRecDepth 100000 in
theorem refVoid_any (B : Nat) (b : Bk) (id : Int) (w : World) (h : FW w B b) (hlen : b.l.length ≤ 1000) (ht0 : 0 ≤ b.turn) (ht : b.turn ≤ 1000000) :
    Calls Tryz.prog 51 #[.pointer (some ⟨B, 0, none⟩), .int .i64 id] w fun r w' => r = .returned (.int .i64 ((b.void id).2.getD 0)) ∧ FW w' B (b.void id).1 ∧ Fh B w w' := by
  have HK := Lib.hid (known_any B b id w h hlen)
  have HF := Lib.hid h
  cases hl : b.live id with
  | none =>
    have hz : liveZ b id = -1 := by unfold liveZ; rw [hl]
    rw [hz] at HK
    have hv : b.void id = (b, some 7) := by unfold Bk.void; rw [hl]
    rw [hv]
    clear hz hv hl h
    go_enter Tryz.func51, Tryz.ntmps51
    go_wp2_with (go_at_call 83; refine HK.out.mono ?_; rintro e w2 ⟨rfl, hb2⟩)
    go_ret
    exact ⟨rfl, HF.out.below hb2, Fh.of_below hb2⟩
  | some k =>
    have hz : liveZ b id = k := by unfold liveZ; rw [hl]
    rw [hz] at HK
    obtain ⟨hk, -, -⟩ := live_spec hl
    have hv : b.void id = (⟨setTo b.l k (b.turn + 1), b.turn + 1, b.next⟩, none) := by unfold Bk.void; rw [hl]
    rw [hv]
    obtain ⟨ls, tn, nx⟩ := b
    simp only at hlen ht0 ht hk HK HF ⊢
    have hkz : (k : Int) < (ls.length : Int) := by omega
    have hk0 : (0 : Int) ≤ (k : Int) := by omega
    clear hz hv hl h
    go_enter Tryz.func51, Tryz.ntmps51
    go_upto_region 4 with (go_at_call 83; refine HK.out.mono ?_; rintro e w2 ⟨rfl, hb2⟩)
    obtain ⟨a, c, hB2, ho2⟩ := (HF.out.below hb2).row
    obtain ⟨c0, c1, c2, f0, f1, f2⟩ := fb_cells hB2
    go_upto_region 5 with fail
    have hB3 := mid_self (o := 1) (.int .i64 (tn + 1)) hB2
    have ho3 := own_gbxK ho2 (set_gb w2 B 1 (.int .i64 (tn + 1))) (own_nxK ho2 hB2 (by decide))
    have hf3 := (Fh.of_below (B := B) hb2).trans (Fh.setB B 1 w2 (.int .i64 (tn + 1)))
    clear c0 c1 c2 f0 f1 f2 HK hB2 ho2 hb2 HF
    generalize w2.setCell ⟨B, 1, none⟩ (.int .i64 (tn + 1)) = w3 at hB3 ho3 hf3 ⊢
    have hF3 : FW w3 B ⟨ls, tn + 1, nx⟩ := ⟨a, c, hB3, ho3⟩
    have hF4 := hF3.below (Below.refl _ w3).drew
    have hf4 := hf3.trans (Fh.of_below (B := B) (Below.refl _ w3).drew)
    obtain ⟨g, cg, hB4, hBg, ⟨vv, hvv⟩, hfz, -, hF5, hH5⟩ := FW.setV hF4 k hk (tn + 1)
    simp only at hB4 hF5
    have hB3' : w3.heap[B]? = some (.cells #[.slice (some ⟨g, 0, none⟩) ls.length cg, .int .i64 (tn + 1), .int .i64 nx] 48 (0, 0)) := hB4
    obtain ⟨c0, c1, c2, f0, f1, f2⟩ := fb_cells hB3'
    have hfz8 := hfz (k * 9 + 8)
    have HFIN := Lib.hid (And.intro hF5 (hf4.trans hH5))
    clear hF3 hF4 hf3 hf4 hF5 hH5 hB3 ho3 hB4 hB3' hfz
    go_still_tail 11, (by kernel_rfl)
    change wpList _ _ _ _ _ w3.drew
    go_wp2_with fail
    go_ret
    exact ⟨rfl, HFIN.out.1, HFIN.out.2⟩
set_option maxHeartbeats 4000000 in
set_option maxRecDepth 100000 in
theorem refCorrect_any (B : Nat) (b : Bk) (id : Int) (e : Evt) (w : World) (h : FW w B b) (hlen : b.l.length ≤ 1000) (ht0 : 0 ≤ b.turn) (ht : b.turn ≤ 1000000) (hs : e.item.size ≤ 1000000) :
    Calls Tryz.prog 49 #[.pointer (some ⟨B, 0, none⟩), .int .i64 id, e.agg] w fun r w' => r = .returned (.int .i64 ((b.correct id e).2.getD 0)) ∧ FW w' B (b.correct id e).1 ∧ Fh B w w' := by
  obtain ⟨i0, hinf, hiz, his, hib⟩ := info_parts info_vf
  obtain ⟨evr, hevr⟩ : ∃ evr, evr = e.right := ⟨_, rfl⟩
  have HRT : Hid (∀ W, Calls Tryz.prog 36 #[e.agg] W (Gives (.bool evr) W)) := Lib.hid (fun W => by rw [hevr]; exact refRight_any e.id e.item e.kind e.qty e.price e.ofn e.day W hs)
  have hb0 := (Below.refl _ w).new (Evt.ob e)
  have HK := Lib.hid (known_any B b id (w.alloc (Evt.ob e)) (h.below hb0) hlen)
  have HF := Lib.hid (h.below hb0)
  have hBE0 : B < w.heap.size := by
    obtain ⟨a, c, h1, -⟩ := h.row
    exact (Array.getElem?_eq_some_iff.1 h1).1
  have hE0 := World.alloc_heap_new w (Evt.ob e)
  have HB0 := Lib.hid hb0
  cases hl : b.live id with
  | none =>
    have hz : liveZ b id = -1 := by unfold liveZ; rw [hl]
    rw [hz] at HK
    have hv : b.correct id e = (b, some 7) := by unfold Bk.correct; rw [hl]
    rw [hv]
    obtain ⟨i, s, kd, q, p, o, d⟩ := e
    simp only [Evt.agg, Evt.ob] at HK HF hE0 ⊢
    clear hz hv hl h HRT hevr hb0 hE0
    go_enter Tryz.func49, Tryz.ntmps49
    go_wp2_with (go_at_call 83; refine HK.out.mono ?_; rintro e w2 ⟨rfl, hb2⟩)
    go_ret
    exact ⟨rfl, HF.out.below hb2, Fh.of_below (HB0.out.step hb2)⟩
  | some k =>
    have hz : liveZ b id = k := by unfold liveZ; rw [hl]
    rw [hz] at HK
    obtain ⟨hk, -, -⟩ := live_spec hl
    have hv : b.correct id e = if evr = true then (if 120 ≤ b.l.length then (b, some 12) else (⟨setTo (b.write (e.num id)).l k (b.turn + 1), b.turn + 1, b.next⟩, none)) else (b, some 1) := by rw [hevr]; unfold Bk.correct; rw [hl]
    rw [hv]
    obtain ⟨ls, tn, nx⟩ := b
    obtain ⟨i, s, kd, q, p, o, d⟩ := e
    simp only at hlen ht0 ht hs hk HK HF HRT hE0 HB0 hb0
    simp only [Evt.agg, Evt.ob] at HK HF HRT hE0 HB0 hb0 ⊢
    have hkz : (k : Int) < (ls.length : Int) := by omega
    have hk0 : (0 : Int) ≤ (k : Int) := by omega
    clear hz hv hl h hevr
    cases evr with
    | false =>
      clear hb0 hE0
      go_enter Tryz.func49, Tryz.ntmps49
      go_upto_region 4 with (go_at_call 83; refine HK.out.mono ?_; rintro e w2 ⟨rfl, hb2⟩)
      obtain ⟨d0, d1, d2, d3, d4, d5, d6⟩ := ev_cellsK ((hb2.block _ (by simp)).trans (World.alloc_heap_new w (Evt.ob ⟨i, s, kd, q, p, o, d⟩)))
      go_wp2_with (go_at_call 36; refine (HRT.out _).mono ?_; rintro e w3 ⟨rfl, hb3⟩)
      go_ret
      exact ⟨rfl, HF.out.below (hb2.step hb3), Fh.of_below (HB0.out.step (hb2.step hb3))⟩
    | true =>
      by_cases hfull : 120 ≤ ls.length
      · have hfz : (ls.length : Int) ≥ 120 := by omega
        simp only [if_true, if_pos hfull]
        clear hb0 hE0
        go_enter Tryz.func49, Tryz.ntmps49
        go_upto_region 4 with (go_at_call 83; refine HK.out.mono ?_; rintro e w2 ⟨rfl, hb2⟩)
        obtain ⟨d0, d1, d2, d3, d4, d5, d6⟩ := ev_cellsK ((hb2.block _ (by simp)).trans (World.alloc_heap_new w (Evt.ob ⟨i, s, kd, q, p, o, d⟩)))
        go_upto_region 6 with (go_at_call 36; refine (HRT.out _).mono ?_; rintro e w3 ⟨rfl, hb3⟩)
        obtain ⟨a, c, hB2, -⟩ := (HF.out.below (hb2.step hb3)).row
        obtain ⟨c0, c1, c2, -⟩ := fb_cells hB2
        clear hB2
        go_wp2_with fail
        go_ret
        exact ⟨rfl, HF.out.below (hb2.step hb3), Fh.of_below (HB0.out.step (hb2.step hb3))⟩
      · have hfz : ¬ (ls.length : Int) ≥ 120 := by omega
        simp only [if_true, if_neg hfull]
        simp only [Bk.write, Evt.num]
        have hset : setTo ls k (tn + 1) ++ [⟨⟨id, s, kd, q, p, o, d⟩, tn + 1, 0⟩] = setTo (ls ++ [⟨⟨id, s, kd, q, p, o, d⟩, tn + 1, 0⟩]) k (tn + 1) := (setTo_app ls _ k (tn + 1) hk).symm
        go_enter Tryz.func49, Tryz.ntmps49
        go_upto_region 4 with (go_at_call 83; refine HK.out.mono ?_; rintro e w1 ⟨rfl, hb1⟩)
        obtain ⟨d0, d1, d2, d3, d4, d5, d6⟩ := ev_cellsK ((hb1.block _ (by simp)).trans (World.alloc_heap_new w (Evt.ob ⟨i, s, kd, q, p, o, d⟩)))
        go_upto_region 6 with (go_at_call 36; refine (HRT.out _).mono ?_; rintro e w2 ⟨rfl, hb2⟩)
        have hb12 := hb1.step hb2
        obtain ⟨a, c, hB2, ho2⟩ := (HF.out.below hb12).row
        obtain ⟨c0, c1, c2, f0, f1, f2⟩ := fb_cells hB2
        have hE2 := (hb12.block _ (by simp)).trans hE0
        have hf2 : Fh B w w2 := Fh.of_below (HB0.out.step hb12)
        clear d0 d1 d2 d3 d4 d5 d6
        obtain ⟨d0, d1, d2, d3, d4, d5, d6⟩ := ev_cellsK hE2
        have dz : w2.frozen? ⟨w.heap.size, 0, none⟩ = false := by simp [World.frozen?, hE2]
        have hneE : w.heap.size ≠ B := by omega
        go_upto_region 10 with fail
        obtain ⟨E, hE⟩ : ∃ E, E = w.heap.size := ⟨_, rfl⟩
        rw [← hE] at hE2 hneE ⊢
        have hEw : w.heap.size ≤ E := by omega
        clear hE d0 d1 d2 d3 d4 d5 d6 dz c0 c1 c2 f0 f1 f2 hb2 hb1 hb12 HF HRT HK HB0 hE0 hb0
        have hB4 := mid_self (o := 1) (.int .i64 (tn + 1)) hB2
        have hE4 := ((set_gb w2 B 1 (.int .i64 (tn + 1))).block E (Array.getElem?_eq_some_iff.1 hE2).1 (fun e => hneE (by injection e))).trans hE2
        have ho4 := own_gbxK ho2 (set_gb w2 B 1 (.int .i64 (tn + 1))) (own_nxK ho2 hB2 (by decide))
        have hf4 := hf2.trans (Fh.setB B 1 w2 (.int .i64 (tn + 1)))
        generalize w2.setCell ⟨B, 1, none⟩ (.int .i64 (tn + 1)) = w4 at hB4 hE4 ho4 hf4 ⊢
        have hE8 := mid_self (o := 0) (.int .i64 id) hE4
        have hB8 := ((set_gb w4 E 0 (.int .i64 id)).block B (Array.getElem?_eq_some_iff.1 hB4).1 (fun e => hneE (by injection e with e; exact e.symm))).trans hB4
        have ho8 := own_gbxK ho4 (set_gb w4 E 0 (.int .i64 id)) (own_nxK ho4 hE4 (by decide))
        have hf8 := Fh.fresh (j := 0) (.int .i64 id) hf4 hEw
        generalize w4.setCell ⟨E, 0, none⟩ (.int .i64 id) = w3 at hB8 hE8 ho8 hf8 ⊢
        have hE8 : w3.heap[E]? = some (Evt.ob ⟨id, s, kd, q, p, o, d⟩) := hE8
        clear hB2 hE2 ho2 hf2 hB4 hE4 ho4 hf4
        have hF3 : FW w3 B ⟨ls, tn + 1, nx⟩ := ⟨a, c, hB8, ho8⟩
        have hF4 := hF3.below (Below.refl _ w3).drew
        have hf5 := hf8.trans (Fh.of_below (B := B) (Below.refl _ w3).drew)
        obtain ⟨g, cg, hB9, hBg, ⟨vv, hvv⟩, hfz, ⟨cu, hcu⟩, hF5, hH5⟩ := FW.setV hF4 k hk (tn + 1)
        simp only at hB9 hF5
        have hB3' : w3.heap[B]? = some (.cells #[.slice (some ⟨g, 0, none⟩) ls.length cg, .int .i64 (tn + 1), .int .i64 nx] 48 (0, 0)) := hB9
        obtain ⟨c0, c1, c2, f0, f1, f2⟩ := fb_cells hB3'
        have hfz8 := hfz (k * 9 + 8)
        have hE5 : w3.drew.heap[E]? = some (Evt.ob ⟨id, s, kd, q, p, o, d⟩) := hE8
        have hE9 := ((set_gb w3.drew g (k * 9 + 8) (.int .i64 (tn + 1))).block E (Array.getElem?_eq_some_iff.1 hE5).1 (fun e => by injection e with e; rw [e, hcu] at hE5; injection hE5 with hE5; injection hE5 with _ hE5; cases hE5)).trans hE5
        have hf9 := hf5.trans hH5
        clear hF3 hF4 hf5 hH5 hB8 ho8 hB9 hB3' hfz hE8 hE5 hf8 hcu
        have hls : (setTo ls k (tn + 1)).length ≤ 1000 := by rw [setTo_len]; exact hlen
        have HF5 := Lib.hid hF5
        have HE9 := Lib.hid hE9
        have HF9 := Lib.hid hf9
        have HSET := Lib.hid hset
        clear hF5 hE9 hf9 hset
        go_upto_region 11 with (go_still_tail 11, (by kernel_rfl))
        obtain ⟨a6, c6, hB6, ho6⟩ := HF5.out.row
        have hB8 : (w3.setCell ⟨g, k * 9 + 8, none⟩ (.int .i64 (tn + 1))).drew.drew.heap[B]? = some (.cells #[.slice a6 (setTo ls k (tn + 1)).length c6, .int .i64 (tn + 1), .int .i64 nx] 48 (0, 0)) := hB6
        have hE8 : (w3.setCell ⟨g, k * 9 + 8, none⟩ (.int .i64 (tn + 1))).drew.drew.heap[E]? = some (Evt.ob ⟨id, s, kd, q, p, o, d⟩) := HE9.out
        have ho8 : (w3.setCell ⟨g, k * 9 + 8, none⟩ (.int .i64 (tn + 1))).drew.drew.ownsRow (B + 1) 59 9 (.slice a6 (setTo ls k (tn + 1)).length c6) (setTo ls k (tn + 1)).length (flV (setTo ls k (tn + 1))) := own_below ho6 (Below.refl _ _).drew
        have hf8 : Fh B w (w3.setCell ⟨g, k * 9 + 8, none⟩ (.int .i64 (tn + 1))).drew.drew := HF9.out.trans (Fh.of_below (Below.refl _ _).drew)
        clear HF5 HE9 HF9 hB6 ho6 c0 c1 c2 f0 f1 f2 hvv hfz8
        generalize (w3.setCell ⟨g, k * 9 + 8, none⟩ (.int .i64 (tn + 1))).drew = Wq at hB8 hE8 ho8 hf8 ⊢
        generalize setTo ls k (tn + 1) = L at hB8 ho8 hls HSET
        have hb8 : B < Wq.drew.heap.size := (Array.getElem?_eq_some_iff.1 hB8).1
        refine wp_region_held_drew (S := fun W => W.heap[E]? = some (Evt.ob ⟨id, s, kd, q, p, o, d⟩) ∧ W.cell? ⟨B, 1, none⟩ = some (.int .i64 (tn + 1))) (by kernel_rfl) (by first | exact ⟨hE8, (fb_cells hB8).2.1⟩) (fun hHeld => ?_)
        obtain ⟨W8, hW8⟩ : ∃ W8, W8 = Wq.drew := ⟨_, rfl⟩
        rw [← hW8] at hHeld hB8 hE8 ho8 hf8 hb8 ⊢
        clear hW8
        refine wpAnyH_take (i := 0) (v := ?_) rfl (by kernel_rfl) (by kernel_rfl) (by kernel_rfl) (fun _ _ _ h => h) (Or.inl ⟨by rfl, ?_⟩) hHeld ?_
        rotate_left
        · intro W hSw; go_simp; try (with_reducible rfl)
        refine wpAnyH_take (i := 1) (v := ?_) rfl (by kernel_rfl) (by kernel_rfl) (by kernel_rfl) (fun _ _ _ h => h) (Or.inl ⟨by rfl, ?_⟩) hHeld ?_
        rotate_left
        · intro W hSw; go_simp; try (with_reducible rfl)
        refine wpAnyH_take (i := 2) (v := ?_) rfl (by kernel_rfl) (by kernel_rfl) (by kernel_rfl) (fun _ _ _ h => h) (Or.inl ⟨by rfl, ?_⟩) hHeld ?_
        rotate_left
        · intro W hSw; go_simp; try (with_reducible rfl)
        refine wpAnyH_take (i := 3) (v := ?_) rfl (by kernel_rfl) (by kernel_rfl) (by kernel_rfl) (fun _ _ _ h => h) (Or.inl ⟨by rfl, ?_⟩) hHeld ?_
        rotate_left
        · intro W hSw; go_simp; try (with_reducible rfl)
        refine wpAnyH_take (i := 5) (v := ?_) rfl (by kernel_rfl) (by kernel_rfl) (by kernel_rfl) (fun _ _ _ h => h) (Or.inl ⟨by rfl, ?_⟩) hHeld ?_
        rotate_left
        · intro W hSw; obtain ⟨d0, d1, d2, d3, d4, d5, d6⟩ := ev_cellsK hSw.1; go_simp; try (with_reducible rfl)
        refine wpAnyH_take (i := 6) (v := ?_) rfl (by kernel_rfl) (by kernel_rfl) (by kernel_rfl) (fun _ _ _ h => h) (Or.inl ⟨by rfl, ?_⟩) hHeld ?_
        rotate_left
        · intro W hSw; go_simp; try (with_reducible rfl)
        refine wpAnyH_take (i := 7) (v := ?_) rfl (by kernel_rfl) (by kernel_rfl) (by kernel_rfl) (fun _ _ _ h => h) (Or.inl ⟨by rfl, ?_⟩) hHeld ?_
        rotate_left
        · intro W hSw; go_simp; try (with_reducible rfl)
        refine wpAnyH_take (i := 8) (v := ?_) rfl (by kernel_rfl) (by kernel_rfl) (by kernel_rfl) (fun _ _ _ h => h) (Or.inl ⟨by rfl, ?_⟩) hHeld ?_
        rotate_left
        · intro W hSw; go_simp; try (with_reducible rfl)
        refine wpAnyH_take (i := 9) (v := ?_) rfl (by kernel_rfl) (by kernel_rfl) (by kernel_rfl) (fun _ _ _ h => h) (Or.inl ⟨by rfl, ?_⟩) hHeld ?_
        rotate_left
        · intro W hSw; have q1 := hSw.2; go_simp; try (with_reducible rfl)
        refine wpAnyH_take (i := 10) (v := ?_) rfl (by kernel_rfl) (by kernel_rfl) (by kernel_rfl) (fun _ _ _ h => h) (Or.inl ⟨by rfl, ?_⟩) hHeld ?_
        rotate_left
        · intro W hSw; go_simp; try (with_reducible rfl)
        refine wpAnyH_ready (rs := [4, 11]) (by kernel_rfl) (by simp) (AllReadyH.cons rfl (fun K hK => ?_) (AllReadyH.cons rfl (fun K hK => ?_) AllReadyH.nil))
        · have q0 := (fb_cells hB8).1
          go_simp
          refine hK.out _ _ hHeld (fun hHeld => ?_)
          clear hK K q0
          refine wpAnyH_ready (rs := [11]) (by kernel_rfl) (by simp) (AllReadyH.cons rfl (fun K hK => ?_) AllReadyH.nil)
          have hE9 := (Below.heap_alloc W8 (.cells #[.int .i64 id, .string s, .int .i64 kd, .int .i64 q, .int .i64 p, .int .i64 o, .int .i64 d, .int .i64 (tn + 1), .int .i64 0] 59) E (Array.getElem?_eq_some_iff.1 hE8).1).trans hE8
          have hB9 := (Below.heap_alloc W8 (.cells #[.int .i64 id, .string s, .int .i64 kd, .int .i64 q, .int .i64 p, .int .i64 o, .int .i64 d, .int .i64 (tn + 1), .int .i64 0] 59) B (Array.getElem?_eq_some_iff.1 hB8).1).trans hB8
          go_simp
          refine hK.out _ _ ⟨hE9, (fb_cells hB9).2.1⟩ (fun hHeld => ?_)
          clear hK K
          refine wpAnyH_ready (rs := [12]) (by kernel_rfl) (by simp) (AllReadyH.cons rfl (fun K hK => ?_) AllReadyH.nil)
          rw [if_pos (by rfl)]
          refine wp_append_own _ (.tmp 46) (.tmp 53) 46 rfl (B + 1) 59 i0 (.agg #[.int .i64 0, .string ⟨#[]⟩, .int .i64 0, .int .i64 0, .int .i64 0, .int .i64 0, .int .i64 0, .int .i64 0, .int .i64 0]) 9 80 Tryz.underlying46 hinf hiz his hib rfl (by decide) _ L.length (flV L) rfl (ho8.alloc (.cells #[.int .i64 id, .string s, .int .i64 kd, .int .i64 q, .int .i64 p, .int .i64 o, .int .i64 d, .int .i64 (tn + 1), .int .i64 0] 59)) ⟨W8.heap.size, 0, none⟩ 1 1 (Ver.cells ⟨⟨id, s, kd, q, p, o, d⟩, tn + 1, 0⟩) rfl rfl (fun j u hj => new_verF W8 ⟨⟨id, s, kd, q, p, o, d⟩, tn + 1, 0⟩ hj) (one_ver _) (by unfold maxLen; omega) (by omega) (by simp; omega) ?_
          intro v12 w12 ho12 hg12 _
          obtain ⟨a9, c9, rfl⟩ := own_slice ho12
          obtain ⟨hB12, hE12, hF12, hH12⟩ := fw_fin hB8 ho8 hE8 hg12 ho12
          obtain ⟨z0, z1, z2, z3, z4, z5⟩ := fb_cells hB12
          refine hK.out _ _ ⟨hE12.1, z1⟩ (fun hHeld => ?_)
          clear hK K
          refine wpAnyH_take (i := 13) (v := ?_) rfl (by kernel_rfl) (by kernel_rfl) (by kernel_rfl) (fun _ _ _ h => h) (Or.inl ⟨by rfl, ?_⟩) hHeld ?_
          rotate_left
          · intro W hSw; go_simp; try (with_reducible rfl)
          refine wpAnyH_take (i := 14) (v := ?_) rfl (by kernel_rfl) (by kernel_rfl) (by kernel_rfl) (fun _ _ _ h => h) (Or.inl ⟨by rfl, ?_⟩) hHeld ?_
          rotate_left
          · intro W hSw; go_simp; try (with_reducible rfl)
          refine wpAnyH_ready (rs := [15]) (by kernel_rfl) (by simp) (AllReadyH.cons rfl (fun K hK => ?_) AllReadyH.nil)
          go_simp
          refine hK.out _ _ ⟨hE12.2, by rw [cell_set 1 ⟨_, z0⟩, if_neg (by decide)]; exact z1⟩ (fun hHeld => ?_)
          clear hK K
          refine wpAnyH_done (by kernel_rfl) ?_ _
          go_wp2_with fail
          go_ret
          exact ⟨rfl, by rw [← HSET.out]; exact hF12, hf8.trans hH12⟩
        · have hE9 := (Below.heap_alloc W8 (.cells #[.int .i64 id, .string s, .int .i64 kd, .int .i64 q, .int .i64 p, .int .i64 o, .int .i64 d, .int .i64 (tn + 1), .int .i64 0] 59) E (Array.getElem?_eq_some_iff.1 hE8).1).trans hE8
          have hB9 := (Below.heap_alloc W8 (.cells #[.int .i64 id, .string s, .int .i64 kd, .int .i64 q, .int .i64 p, .int .i64 o, .int .i64 d, .int .i64 (tn + 1), .int .i64 0] 59) B (Array.getElem?_eq_some_iff.1 hB8).1).trans hB8
          go_simp
          refine hK.out _ _ ⟨hE9, (fb_cells hB9).2.1⟩ (fun hHeld => ?_)
          clear hK K
          refine wpAnyH_ready (rs := [4]) (by kernel_rfl) (by simp) (AllReadyH.cons rfl (fun K hK => ?_) AllReadyH.nil)
          have q0 := (fb_cells hB9).1
          go_simp
          refine hK.out _ _ hHeld (fun hHeld => ?_)
          clear hK K q0
          refine wpAnyH_ready (rs := [12]) (by kernel_rfl) (by simp) (AllReadyH.cons rfl (fun K hK => ?_) AllReadyH.nil)
          rw [if_pos (by rfl)]
          refine wp_append_own _ (.tmp 46) (.tmp 53) 46 rfl (B + 1) 59 i0 (.agg #[.int .i64 0, .string ⟨#[]⟩, .int .i64 0, .int .i64 0, .int .i64 0, .int .i64 0, .int .i64 0, .int .i64 0, .int .i64 0]) 9 80 Tryz.underlying46 hinf hiz his hib rfl (by decide) _ L.length (flV L) rfl (ho8.alloc (.cells #[.int .i64 id, .string s, .int .i64 kd, .int .i64 q, .int .i64 p, .int .i64 o, .int .i64 d, .int .i64 (tn + 1), .int .i64 0] 59)) ⟨W8.heap.size, 0, none⟩ 1 1 (Ver.cells ⟨⟨id, s, kd, q, p, o, d⟩, tn + 1, 0⟩) rfl rfl (fun j u hj => new_verF W8 ⟨⟨id, s, kd, q, p, o, d⟩, tn + 1, 0⟩ hj) (one_ver _) (by unfold maxLen; omega) (by omega) (by simp; omega) ?_
          intro v12 w12 ho12 hg12 _
          obtain ⟨a9, c9, rfl⟩ := own_slice ho12
          obtain ⟨hB12, hE12, hF12, hH12⟩ := fw_fin hB8 ho8 hE8 hg12 ho12
          obtain ⟨z0, z1, z2, z3, z4, z5⟩ := fb_cells hB12
          refine hK.out _ _ ⟨hE12.1, z1⟩ (fun hHeld => ?_)
          clear hK K
          refine wpAnyH_take (i := 13) (v := ?_) rfl (by kernel_rfl) (by kernel_rfl) (by kernel_rfl) (fun _ _ _ h => h) (Or.inl ⟨by rfl, ?_⟩) hHeld ?_
          rotate_left
          · intro W hSw; go_simp; try (with_reducible rfl)
          refine wpAnyH_take (i := 14) (v := ?_) rfl (by kernel_rfl) (by kernel_rfl) (by kernel_rfl) (fun _ _ _ h => h) (Or.inl ⟨by rfl, ?_⟩) hHeld ?_
          rotate_left
          · intro W hSw; go_simp; try (with_reducible rfl)
          refine wpAnyH_ready (rs := [15]) (by kernel_rfl) (by simp) (AllReadyH.cons rfl (fun K hK => ?_) AllReadyH.nil)
          go_simp
          refine hK.out _ _ ⟨hE12.2, by rw [cell_set 1 ⟨_, z0⟩, if_neg (by decide)]; exact z1⟩ (fun hHeld => ?_)
          clear hK K
          refine wpAnyH_done (by kernel_rfl) ?_ _
          go_wp2_with fail
          go_ret
          exact ⟨rfl, by rw [← HSET.out]; exact hF12, hf8.trans hH12⟩
end Go.Proofs.YtpbbbiifeihkaaaGreatDoor
