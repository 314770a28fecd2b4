/- tallymanlaw.acts: one act on both books; what it tells, and the books behind it. -/
import Derived.Test.YtpbbbiifeihkaaaGreatDoorBfC
import Derived.Test.YtpbbbiifeihkaaaGreatDoorBkL
import Derived.Test.YtpbbbiifeihkaaaGreatDoorTell
import Derived.Deep.RegionHeld3
namespace Go.Proofs.YtpbbbiifeihkaaaGreatDoor
open Go.RowKit
open Go.Maps (Keyed)
set_option linter.unusedVariables false

/-- Below B nothing has turned. -/
structure Lo (B : Nat) (w w' : World) : Prop where
  os : w'.os = w.os
  tape : w'.tape = w.tape
  output : w'.output = w.output
  size : w.heap.size ≤ w'.heap.size
  low : ∀ k, k < B → w'.heap[k]? = w.heap[k]?
theorem Lo.refl (B : Nat) (w : World) : Lo B w w := ⟨rfl, rfl, rfl, Nat.le_refl _, fun _ _ => rfl⟩
theorem Lo.trans {B : Nat} {a b c : World} (h : Lo B a b) (k : Lo B b c) : Lo B a c := ⟨k.os.trans h.os, k.tape.trans h.tape, k.output.trans h.output, Nat.le_trans h.size k.size, fun i hi => (k.low i hi).trans (h.low i hi)⟩
theorem Lo.of_below {B : Nat} {w w' : World} (h : Below w.heap.size w w') (hB : B ≤ w.heap.size) : Lo B w w' := ⟨h.os, h.tape, h.output, h.size, fun k hk => h.block k (by omega)⟩
theorem Lo.of_ch {B : Nat} {w w' : World} (h : Ch B w w') : Lo B w w' := ⟨h.os, h.tape, h.output, h.size, h.low⟩
theorem Lo.of_fh {B B2 : Nat} {w w' : World} (h : Fh B2 w w') (hB : B ≤ B2) (hs : B ≤ w.heap.size) : Lo B w w' := ⟨h.os, h.tape, h.output, h.size, fun k hk => by
  have hk2 : k < w.heap.size := by omega
  rw [Array.getElem?_eq_getElem hk2]
  exact h.block k _ (Array.getElem?_eq_getElem hk2) (by omega) (.inl (by omega))⟩
theorem Lo.below {B : Nat} {w0 w w' : World} (h : Lo B w w') (h0 : Below B w0 w) : Below B w0 w' := ⟨h.os.trans h0.os, h.tape.trans h0.tape, h.output.trans h0.output, Nat.le_trans h0.size h.size, fun k hk => (h.low k hk).trans (h0.block k hk)⟩
theorem Lo.ew {B : Nat} {w w' : World} (h : Lo B w w') (hg : 1 < B) (he : EW w) : EW w' := by
  unfold EW at *
  rw [← he]
  exact World.cell?_of_block (h.low _ hg)
theorem Fh.bkW {B1 B2 : Nat} {w w' : World} {b : Bk} (h : BkW w B1 b) (hF : Fh B2 w w') (hlt : B1 < B2) (hn : ∀ cu, w.heap[B2]? ≠ some (.cells cu 57 (0, 0))) : BkW w' B1 b := by
  obtain ⟨cur, t, fz, e1, e2⟩ := h.nt
  have hb : w'.heap[B1]? = w.heap[B1]? := (hF.block B1 _ e1 (by omega) (.inl hlt)).trans e1.symm
  have hc : ∀ j, w'.cell? ⟨B1, j, none⟩ = w.cell? ⟨B1, j, none⟩ := fun j => by simp only [World.cell?, hb]
  have hz : ∀ j, w'.frozen? ⟨B1, j, none⟩ = w.frozen? ⟨B1, j, none⟩ := fun j => by simp only [World.frozen?, hb]
  obtain ⟨v, h1, h2⟩ := h.row
  refine ⟨(hc 1).trans h.c1, (hc 2).trans h.c2, fun j => (hz j).trans (h.fz j), ⟨v, (hc 0).trans h1, h2.1, ?_⟩, ⟨cur, t, fz, hb.trans e1, e2⟩⟩
  rcases h2.2 with h0 | ⟨g, cap, cu, hv, hB, hg, r⟩
  · exact .inl h0
  · refine .inr ⟨g, cap, cu, hv, hB, ?_, r⟩
    by_cases hgB : g = B2
    · subst hgB
      exact absurd hg (hn cu)
    · exact hF.block g _ hg hgB (.inr (fun cur fz e => by injection e with _ e; exact absurd e (by decide)))
theorem Ch.fw {B1 B2 : Nat} {w w' : World} {b : Bk} (h : FW w B2 b) (hC : Ch B1 w w') (hlt : B1 < B2) : FW w' B2 b := by
  obtain ⟨a, c, h1, h2⟩ := h.row
  exact ⟨a, c, hC.block B2 _ h1 (by omega) (fun cur fz e => by injection e with _ e; exact absurd e (by decide)), Ch.own h2 hC (by omega) (by decide)⟩
abbrev ActV.obL (x : ActV) : Obj := .cells #[.int .i64 x.what, .int .i64 x.id, .int .i64 x.e.id, .string x.e.item, .int .i64 x.e.kind, .int .i64 x.e.qty, .int .i64 x.e.price, .int .i64 x.e.ofn, .int .i64 x.e.day] 52
theorem actl_cells {W : World} {b : Nat} {wh id i k q p o d : Int} {s : ByteArray} (h : W.heap[b]? = some (.cells #[.int .i64 wh, .int .i64 id, .int .i64 i, .string s, .int .i64 k, .int .i64 q, .int .i64 p, .int .i64 o, .int .i64 d] 52 (0, 0))) :
    W.cell? ⟨b, 0, none⟩ = some (.int .i64 wh) ∧ W.cell? ⟨b, 1, none⟩ = some (.int .i64 id) ∧ W.cell? ⟨b, 2, none⟩ = some (.int .i64 i) ∧ W.cell? ⟨b, 3, none⟩ = some (.string s) ∧ W.cell? ⟨b, 4, none⟩ = some (.int .i64 k) ∧ W.cell? ⟨b, 5, none⟩ = some (.int .i64 q) ∧ W.cell? ⟨b, 6, none⟩ = some (.int .i64 p) ∧ W.cell? ⟨b, 7, none⟩ = some (.int .i64 o) ∧ W.cell? ⟨b, 8, none⟩ = some (.int .i64 d) := by
  refine ⟨?_, ?_, ?_, ?_, ?_, ?_, ?_, ?_, ?_⟩ <;> simp [World.cell?, h]
theorem bare2 (o : Option Int) (w : World) (hw : EW w) : Calls Tryz.prog 47 #[errB o, .int .i64 (o.getD 0)] w (Gives (.bool true) w) := by
  cases o with
  | none => exact bare_any none w hw
  | some k => exact bare_any (some k) w hw
set_option maxHeartbeats 4000000 in
set_option maxRecDepth 100000 in
theorem acts_any (B1 B2 : Nat) (b : Bk) (x : ActV) (w : World) (h1 : BkW w B1 b) (h2 : FW w B2 b) (hlt : B1 < B2) (hI : BkI b) (ht : b.turn ≤ 1000000) (hn : b.next ≤ 1000000) (hs : x.e.item.size ≤ 1000000) (hg : 1 < B1) (he : EW w) :
    Calls Tryz.prog 13 #[.pointer (some ⟨B1, 0, none⟩), .pointer (some ⟨B2, 0, none⟩), x.agg] w fun r w' => r = .returned (.bool true) ∧ BkW w' B1 (b.act x).1 ∧ FW w' B2 (b.act x).1 ∧ Lo B1 w w' := by
  have hlen := hI.len
  have hnv : ∀ W, FW W B2 b → ∀ cu, W.heap[B2]? ≠ some (.cells cu 57 (0, 0)) := fun W hW cu e => by
    obtain ⟨a, c, h3, -⟩ := hW.row
    rw [h3] at e; injection e with e; injection e with _ e; exact absurd e (by decide)
  have hB2l : B2 < w.heap.size := by
    obtain ⟨a, c, h3, -⟩ := h2.row
    exact (Array.getElem?_eq_some_iff.1 h3).1
  have HB := Lib.hid h1
  have HF := Lib.hid h2
  have HE := Lib.hid he
  obtain ⟨wh, id, ⟨i, s, k, q, p, o, d⟩⟩ := x
  simp only [ActV.agg]
  simp only at hs
  clear h1 h2 he
  by_cases e0 : wh = 0
  · subst e0
    have HP1 := Lib.hid (fun W (hW : FW W B2 b) => refPost_any B2 b ⟨i, s, k, q, p, o, d⟩ W hW (by omega) hI.turn0 ht hI.next0 hn hs)
    have HP2 := Lib.hid (fun W (hW : BkW W B1 b) => post_any B1 b ⟨i, s, k, q, p, o, d⟩ W hW hI ht hn hs)
    rw [show b.act ⟨0, id, ⟨i, s, k, q, p, o, d⟩⟩ = ((b.post ⟨i, s, k, q, p, o, d⟩).1, (b.post ⟨i, s, k, q, p, o, d⟩).2.2) from rfl]
    generalize b.post ⟨i, s, k, q, p, o, d⟩ = pr at HP1 HP2 ⊢
    obtain ⟨b', n, oo⟩ := pr
    simp only [Evt.agg] at HP1 HP2 ⊢
    have HBA : Hid (∀ W, EW W → Calls Tryz.prog 47 #[errB oo, .int .i64 (oo.getD 0)] W (Gives (.bool true) W)) := fun W hW => bare2 oo W hW
    generalize errB oo = ev at HP2 HBA
    generalize oo.getD 0 = en at HP1 HBA
    have hnn : ((n : Int) == n) = true := by simp
    have hb0 := Lib.hid ((Below.refl _ w).new (ActV.obL ⟨0, id, ⟨i, s, k, q, p, o, d⟩⟩))
    go_enter Tryz.func13, Tryz.ntmps13
    go_upto_region 4 with (go_at_call 45; refine (HP1.out _ (HF.out.below hb0.out)).mono ?_; rintro r w2 ⟨rfl, hF2, hH2⟩)
    have hX2 := hH2.block _ _ (World.alloc_heap_new w (ActV.obL ⟨0, id, ⟨i, s, k, q, p, o, d⟩⟩)) (by omega) (.inr (fun cur fz e => by injection e with _ e; exact absurd e (by decide)))
    obtain ⟨a0, a1, a2, a3, a4, a5, a6, a7, a8⟩ := actl_cells hX2
    have hB2 := Fh.bkW (HB.out.below hb0.out) hH2 hlt (hnv _ (HF.out.below hb0.out))
    have hlo2 := (Lo.of_below hb0.out (show B1 ≤ w.heap.size by omega)).trans (Lo.of_fh (B := B1) hH2 (by omega) (by have h1 := hb0.out.size; omega))
    go_upto_region 5 with (go_at_call 46; refine (HP2.out _ hB2).mono ?_; rintro r w3 ⟨rfl, hB3, hC3⟩)
    have hlo3 := hlo2.trans (Lo.of_ch hC3)
    go_wp2_with (go_at_call 47; refine (HBA.out _ (hlo3.ew hg HE.out)).mono ?_; rintro r w4 ⟨rfl, hb4⟩)
    go_ret
    exact ⟨rfl, hB3.below hb4, (Ch.fw hF2 hC3 hlt).below hb4, hlo3.trans (Lo.of_below hb4 (by have h1 := hlo3.size; omega))⟩
  · have f0 : (wh == 0) = false := by simp [e0]
    by_cases e1 : wh = 1
    · subst e1
      have HP1 := Lib.hid (fun W (hW : FW W B2 b) => refCorrect_any B2 b id ⟨i, s, k, q, p, o, d⟩ W hW (by omega) hI.turn0 ht hs)
      have HP2 := Lib.hid (fun W (hW : BkW W B1 b) => correct_any B1 b id ⟨i, s, k, q, p, o, d⟩ W hW hI ht hs)
      rw [show b.act ⟨1, id, ⟨i, s, k, q, p, o, d⟩⟩ = b.correct id ⟨i, s, k, q, p, o, d⟩ from rfl]
      generalize b.correct id ⟨i, s, k, q, p, o, d⟩ = pr at HP1 HP2 ⊢
      obtain ⟨b', oo⟩ := pr
      simp only [Evt.agg] at HP1 HP2 ⊢
      have HBA : Hid (∀ W, EW W → Calls Tryz.prog 47 #[errB oo, .int .i64 (oo.getD 0)] W (Gives (.bool true) W)) := fun W hW => bare2 oo W hW
      generalize errB oo = ev at HP2 HBA
      generalize oo.getD 0 = en at HP1 HBA
      clear e0 f0
      go_enter Tryz.func13, Tryz.ntmps13
      go_upto_region 7 with fail
      obtain ⟨W1, hW1⟩ : ∃ W1, W1 = (w.alloc (ActV.obL ⟨1, id, ⟨i, s, k, q, p, o, d⟩⟩)).drew := ⟨_, rfl⟩
      have hX1 : W1.heap[w.heap.size]? = some (ActV.obL ⟨1, id, ⟨i, s, k, q, p, o, d⟩⟩) := by rw [hW1]; exact World.alloc_heap_new w _
      have hb1 : Below w.heap.size w W1 := by rw [hW1]; exact ((Below.refl _ w).new _).drew
      refine wp_region_held_drew (S := fun W => W.heap[w.heap.size]? = some (ActV.obL ⟨1, id, ⟨i, s, k, q, p, o, d⟩⟩)) (by kernel_rfl) (by rw [← hW1]; exact hX1) (fun hHeld => ?_)
      rw [← hW1] at hHeld ⊢
      clear hW1
      refine wpAnyH_take (i := 0) (v := ?_) rfl (by kernel_rfl) (by kernel_rfl) (by kernel_rfl) (fun _ _ _ h => h) (Or.inl ⟨by rfl, ?_⟩) hHeld ?_
      rotate_left
      · intro W hSw; go_simp; try (with_reducible rfl)
      refine wpAnyH_take (i := 1) (v := ?_) rfl (by kernel_rfl) (by kernel_rfl) (by kernel_rfl) (fun _ _ _ h => h) (Or.inl ⟨by rfl, ?_⟩) hHeld ?_
      rotate_left
      · intro W hSw; go_simp; try (with_reducible rfl)
      refine wpAnyH_take (i := 2) (v := ?_) rfl (by kernel_rfl) (by kernel_rfl) (by kernel_rfl) (fun _ _ _ h => h) (Or.inl ⟨by rfl, ?_⟩) hHeld ?_
      rotate_left
      · intro W hSw; obtain ⟨a0, a1, a2, a3, a4, a5, a6, a7, a8⟩ := actl_cells hSw; go_simp; try (with_reducible rfl)
      refine wpAnyH_take (i := 3) (v := ?_) rfl (by kernel_rfl) (by kernel_rfl) (by kernel_rfl) (fun _ _ _ h => h) (Or.inl ⟨by rfl, ?_⟩) hHeld ?_
      rotate_left
      · intro W hSw; go_simp; try (with_reducible rfl)
      refine wpAnyH_take (i := 4) (v := ?_) rfl (by kernel_rfl) (by kernel_rfl) (by kernel_rfl) (fun _ _ _ h => h) (Or.inl ⟨by rfl, ?_⟩) hHeld ?_
      rotate_left
      · intro W hSw; obtain ⟨a0, a1, a2, a3, a4, a5, a6, a7, a8⟩ := actl_cells hSw; go_simp; try (with_reducible rfl)
      refine wpAnyH_take (i := 6) (v := ?_) rfl (by kernel_rfl) (by kernel_rfl) (by kernel_rfl) (fun _ _ _ h => h) (Or.inl ⟨by rfl, ?_⟩) hHeld ?_
      rotate_left
      · intro W hSw; go_simp; try (with_reducible rfl)
      refine wpAnyH_take (i := 7) (v := ?_) rfl (by kernel_rfl) (by kernel_rfl) (by kernel_rfl) (fun _ _ _ h => h) (Or.inl ⟨by rfl, ?_⟩) hHeld ?_
      rotate_left
      · intro W hSw; go_simp; try (with_reducible rfl)
      refine wpAnyH_take (i := 8) (v := ?_) rfl (by kernel_rfl) (by kernel_rfl) (by kernel_rfl) (fun _ _ _ h => h) (Or.inl ⟨by rfl, ?_⟩) hHeld ?_
      rotate_left
      · intro W hSw; obtain ⟨a0, a1, a2, a3, a4, a5, a6, a7, a8⟩ := actl_cells hSw; go_simp; try (with_reducible rfl)
      refine wpAnyH_take (i := 9) (v := ?_) rfl (by kernel_rfl) (by kernel_rfl) (by kernel_rfl) (fun _ _ _ h => h) (Or.inl ⟨by rfl, ?_⟩) hHeld ?_
      rotate_left
      · intro W hSw; go_simp; try (with_reducible rfl)
      refine wpAnyH_take (i := 10) (v := ?_) rfl (by kernel_rfl) (by kernel_rfl) (by kernel_rfl) (fun _ _ _ h => h) (Or.inl ⟨by rfl, ?_⟩) hHeld ?_
      rotate_left
      · intro W hSw; obtain ⟨a0, a1, a2, a3, a4, a5, a6, a7, a8⟩ := actl_cells hSw; go_simp; try (with_reducible rfl)
      refine wpAnyH_ready (rs := [5]) (by kernel_rfl) (by simp) (AllReadyH.cons rfl (fun K hK => ?_) AllReadyH.nil)
      go_simp
      refine (HP2.out _ (HB.out.below hb1)).mono ?_
      rintro r w2 ⟨rfl, hB2, hC2⟩
      have hX2 := hC2.block _ _ hX1 (by omega) (fun cur fz e => by injection e with _ e; exact absurd e (by decide))
      refine hK.out _ _ hX2 (fun hHeld => ?_)
      clear hK K
      refine wpAnyH_ready (rs := [11]) (by kernel_rfl) (by simp) (AllReadyH.cons rfl (fun K hK => ?_) AllReadyH.nil)
      go_simp
      refine (HP1.out _ (Ch.fw (HF.out.below hb1) hC2 hlt)).mono ?_
      rintro r w3 ⟨rfl, hF3, hH3⟩
      have hX3 := hH3.block _ _ hX2 (by omega) (.inr (fun cur fz e => by injection e with _ e; exact absurd e (by decide)))
      have hB3 := Fh.bkW hB2 hH3 hlt (hnv _ (Ch.fw (HF.out.below hb1) hC2 hlt))
      have hlo3 := ((Lo.of_below hb1 (by omega)).trans (Lo.of_ch hC2)).trans (Lo.of_fh (B := B1) hH3 (by omega) (by have h1 := hb1.size; have h2 := hC2.size; omega))
      refine hK.out _ _ hX3 (fun hHeld => ?_)
      clear hK K
      refine wpAnyH_ready (rs := [12]) (by kernel_rfl) (by simp) (AllReadyH.cons rfl (fun K hK => ?_) AllReadyH.nil)
      go_simp
      refine (HBA.out _ (hlo3.ew hg HE.out)).mono ?_
      rintro r w4 ⟨rfl, hb4⟩
      refine hK.out _ _ ((hb4.block _ (Array.getElem?_eq_some_iff.1 hX3).1).trans hX3) (fun hHeld => ?_)
      clear hK K
      refine wpAnyH_take (i := 13) (v := ?_) rfl (by kernel_rfl) (by kernel_rfl) (by kernel_rfl) (fun _ _ _ h => h) (Or.inl ⟨by rfl, ?_⟩) hHeld ?_
      rotate_left
      · intro W hSw; go_simp; try (with_reducible rfl)
      refine wpAnyH_done (by kernel_rfl) ?_ _
      go_wp2_with fail
      go_ret
      exact ⟨rfl, hB3.below hb4, hF3.below hb4, hlo3.trans (Lo.of_below hb4 (by have h1 := hlo3.size; omega))⟩
    · have f1 : (wh == 1) = false := by simp [e1]
      by_cases e2 : wh = 2
      · subst e2
        have HP1 := Lib.hid (fun W (hW : FW W B2 b) => refVoid_any B2 b id W hW (by omega) hI.turn0 ht)
        have HP2 := Lib.hid (fun W (hW : BkW W B1 b) => void_any B1 b id W hW hI ht)
        rw [show b.act ⟨2, id, ⟨i, s, k, q, p, o, d⟩⟩ = b.void id from rfl]
        generalize b.void id = pr at HP1 HP2 ⊢
        obtain ⟨b', oo⟩ := pr
        simp only at HP1 HP2 ⊢
        have HBA : Hid (∀ W, EW W → Calls Tryz.prog 47 #[errB oo, .int .i64 (oo.getD 0)] W (Gives (.bool true) W)) := fun W hW => bare2 oo W hW
        generalize errB oo = ev at HP2 HBA
        generalize oo.getD 0 = en at HP1 HBA
        clear e0 f0 e1 f1
        go_enter Tryz.func13, Tryz.ntmps13
        go_upto_region 9 with fail
        obtain ⟨W1, hW1⟩ : ∃ W1, W1 = (w.alloc (ActV.obL ⟨2, id, ⟨i, s, k, q, p, o, d⟩⟩)).drew := ⟨_, rfl⟩
        have hX1 : W1.heap[w.heap.size]? = some (ActV.obL ⟨2, id, ⟨i, s, k, q, p, o, d⟩⟩) := by rw [hW1]; exact World.alloc_heap_new w _
        have hb1 : Below w.heap.size w W1 := by rw [hW1]; exact ((Below.refl _ w).new _).drew
        refine wp_region_held_drew (S := fun W => W.heap[w.heap.size]? = some (ActV.obL ⟨2, id, ⟨i, s, k, q, p, o, d⟩⟩)) (by kernel_rfl) (by rw [← hW1]; exact hX1) (fun hHeld => ?_)
        rw [← hW1] at hHeld ⊢
        clear hW1
        refine wpAnyH_take (i := 0) (v := ?_) rfl (by kernel_rfl) (by kernel_rfl) (by kernel_rfl) (fun _ _ _ h => h) (Or.inl ⟨by rfl, ?_⟩) hHeld ?_
        rotate_left
        · intro W hSw; go_simp; try (with_reducible rfl)
        refine wpAnyH_take (i := 1) (v := ?_) rfl (by kernel_rfl) (by kernel_rfl) (by kernel_rfl) (fun _ _ _ h => h) (Or.inl ⟨by rfl, ?_⟩) hHeld ?_
        rotate_left
        · intro W hSw; go_simp; try (with_reducible rfl)
        refine wpAnyH_take (i := 2) (v := ?_) rfl (by kernel_rfl) (by kernel_rfl) (by kernel_rfl) (fun _ _ _ h => h) (Or.inl ⟨by rfl, ?_⟩) hHeld ?_
        rotate_left
        · intro W hSw; obtain ⟨a0, a1, a2, a3, a4, a5, a6, a7, a8⟩ := actl_cells hSw; go_simp; try (with_reducible rfl)
        refine wpAnyH_take (i := 4) (v := ?_) rfl (by kernel_rfl) (by kernel_rfl) (by kernel_rfl) (fun _ _ _ h => h) (Or.inl ⟨by rfl, ?_⟩) hHeld ?_
        rotate_left
        · intro W hSw; go_simp; try (with_reducible rfl)
        refine wpAnyH_take (i := 5) (v := ?_) rfl (by kernel_rfl) (by kernel_rfl) (by kernel_rfl) (fun _ _ _ h => h) (Or.inl ⟨by rfl, ?_⟩) hHeld ?_
        rotate_left
        · intro W hSw; go_simp; try (with_reducible rfl)
        refine wpAnyH_take (i := 6) (v := ?_) rfl (by kernel_rfl) (by kernel_rfl) (by kernel_rfl) (fun _ _ _ h => h) (Or.inl ⟨by rfl, ?_⟩) hHeld ?_
        rotate_left
        · intro W hSw; obtain ⟨a0, a1, a2, a3, a4, a5, a6, a7, a8⟩ := actl_cells hSw; go_simp; try (with_reducible rfl)
        refine wpAnyH_ready (rs := [3]) (by kernel_rfl) (by simp) (AllReadyH.cons rfl (fun K hK => ?_) AllReadyH.nil)
        go_simp
        refine (HP2.out _ (HB.out.below hb1)).mono ?_
        rintro r w2 ⟨rfl, hB2, hC2⟩
        have hX2 := hC2.block _ _ hX1 (by omega) (fun cur fz e => by injection e with _ e; exact absurd e (by decide))
        refine hK.out _ _ hX2 (fun hHeld => ?_)
        clear hK K
        refine wpAnyH_ready (rs := [7]) (by kernel_rfl) (by simp) (AllReadyH.cons rfl (fun K hK => ?_) AllReadyH.nil)
        go_simp
        refine (HP1.out _ (Ch.fw (HF.out.below hb1) hC2 hlt)).mono ?_
        rintro r w3 ⟨rfl, hF3, hH3⟩
        have hX3 := hH3.block _ _ hX2 (by omega) (.inr (fun cur fz e => by injection e with _ e; exact absurd e (by decide)))
        have hB3 := Fh.bkW hB2 hH3 hlt (hnv _ (Ch.fw (HF.out.below hb1) hC2 hlt))
        have hlo3 := ((Lo.of_below hb1 (by omega)).trans (Lo.of_ch hC2)).trans (Lo.of_fh (B := B1) hH3 (by omega) (by have h1 := hb1.size; have h2 := hC2.size; omega))
        refine hK.out _ _ hX3 (fun hHeld => ?_)
        clear hK K
        refine wpAnyH_ready (rs := [8]) (by kernel_rfl) (by simp) (AllReadyH.cons rfl (fun K hK => ?_) AllReadyH.nil)
        go_simp
        refine (HBA.out _ (hlo3.ew hg HE.out)).mono ?_
        rintro r w4 ⟨rfl, hb4⟩
        refine hK.out _ _ ((hb4.block _ (Array.getElem?_eq_some_iff.1 hX3).1).trans hX3) (fun hHeld => ?_)
        clear hK K
        refine wpAnyH_take (i := 9) (v := ?_) rfl (by kernel_rfl) (by kernel_rfl) (by kernel_rfl) (fun _ _ _ h => h) (Or.inl ⟨by rfl, ?_⟩) hHeld ?_
        rotate_left
        · intro W hSw; go_simp; try (with_reducible rfl)
        refine wpAnyH_done (by kernel_rfl) ?_ _
        go_wp2_with fail
        go_ret
        exact ⟨rfl, hB3.below hb4, hF3.below hb4, hlo3.trans (Lo.of_below hb4 (by have h1 := hlo3.size; omega))⟩
      · have f2 : (wh == 2) = false := by simp [e2]
        rw [show b.act ⟨wh, id, ⟨i, s, k, q, p, o, d⟩⟩ = (b, some 1) by simp only [Bk.act, if_neg e0, if_neg e1, if_neg e2]]
        clear e0 e1 e2
        have hb0 := Lib.hid ((Below.refl _ w).new (ActV.obL ⟨wh, id, ⟨i, s, k, q, p, o, d⟩⟩))
        go_enter Tryz.func13, Tryz.ntmps13
        go_wp2_with fail
        go_ret
        exact ⟨rfl, HB.out.below hb0.out, HF.out.below hb0.out, Lo.of_below hb0.out (by omega)⟩
end Go.Proofs.YtpbbbiifeihkaaaGreatDoor
