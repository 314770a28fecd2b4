/- The teller tells what an event comes to: a Count. -/
import Derived.Test.YtackpcohmmlkeaaGreatDoorCsI
namespace Go.Proofs.YtackpcohmmlkeaaGreatDoor
open Go.RowKit
open Go.Maps (Keyed)
set_option linter.unusedVariables false

theorem below_undrew2 {w w' : World} (h : Below w.drew.heap.size w.drew w') : Below w.heap.size w w' := ⟨h.os, h.tape, h.output, h.size, h.block⟩
set_option maxHeartbeats 4000000 in
set_option maxRecDepth 100000 in
theorem one_more (T bl bm c : Nat) (L : List UInt8 → List Lay) (G : List UInt8 → Int) (s : ByteArray) (i q p o d : Int) (w : World) (h : TW w T bl bm c L G) (hs : s.size ≤ maxLen) (hc : c < 100000) (hl : (L s.data.toList).length ≤ 999)
    (hg : GoodY 20000000000000 (L s.data.toList)) (hq : 0 ≤ q ∧ q ≤ 1000000) (hG : 0 ≤ G s.data.toList ∧ G s.data.toList ≤ 1000000) (hm : 0 < q - sumQ (L s.data.toList)) :
    Calls Tryz.prog 59 #[.pointer (some ⟨T, 0, none⟩), .agg #[.int .i64 i, .string s, .int .i64 4, .int .i64 q, .int .i64 p, .int .i64 o, .int .i64 d]] w fun e w' =>
      e = .returned (Ln.agg ⟨i, (q - sumQ (L s.data.toList)) * G s.data.toList, 0, 0, true⟩) ∧ TW w' T bl bm (c + 1) (updL L s.data.toList (L s.data.toList ++ [⟨i, q - sumQ (L s.data.toList), (q - sumQ (L s.data.toList)) * G s.data.toList⟩])) (G) ∧ Li bl bm w w' := by
  have hTl : T < w.heap.size := cell_blk h.t0
  obtain ⟨W0, hW0⟩ : ∃ W0, W0 = ((w.alloc (Evt.ob ⟨i, s, 4, q, p, o, d⟩)).alloc (Ln.ob ⟨0, 0, 0, 0, false⟩)).alloc (Ln.ob ⟨i, 0, 0, 0, false⟩) := ⟨_, rfl⟩
  have hb0 : Below w.heap.size w W0 := by rw [hW0]; exact (((Below.refl _ w).new _).new _).new _
  have x1 : W0.heap[w.heap.size + 1]? = some (Ln.ob ⟨0, 0, 0, 0, false⟩) := by
    rw [hW0]
    have := World.alloc_heap_new (w.alloc (Evt.ob ⟨i, s, 4, q, p, o, d⟩)) (Ln.ob ⟨0, 0, 0, 0, false⟩)
    rw [World.size_alloc] at this
    exact (Below.heap_alloc _ _ _ (by simp)).trans this
  have x2 : W0.heap[w.heap.size + 2]? = some (Ln.ob ⟨i, 0, 0, 0, false⟩) := by
    rw [hW0]
    have := World.alloc_heap_new ((w.alloc (Evt.ob ⟨i, s, 4, q, p, o, d⟩)).alloc (Ln.ob ⟨0, 0, 0, 0, false⟩)) (Ln.ob ⟨i, 0, 0, 0, false⟩)
    rw [World.size_alloc, World.size_alloc] at this
    exact this
  have x0 : W0.heap[w.heap.size]? = some (Evt.ob ⟨i, s, 4, q, p, o, d⟩) := by
    rw [hW0]
    exact (Below.heap_alloc _ _ _ (by simp; omega)).trans ((Below.heap_alloc _ _ _ (by simp)).trans (World.alloc_heap_new w _))
  have hT0 := h.below hb0
  have n0 := hT0.not_cells x0
  have n1 := hT0.not_cells x1
  have n2 := hT0.not_cells x2
  have HL0 : Li bl bm w W0 := Li.of_below hb0
  obtain ⟨B, hBe⟩ : ∃ B, B = w.heap.size := ⟨_, rfl⟩
  have hBw : w.heap.size ≤ B := by omega
  have hQ : ∀ x ∈ L s.data.toList, 0 ≤ x.qty ∧ x.qty ≤ 100000 := fun x hx => ⟨by have := hg.1 x hx; omega, (hg.1 x hx).2.1⟩
  have hbd : Below W0.heap.size W0 W0.drew := (Below.refl _ W0).drew
  have HHS := Lib.hid (has_any T bl bm c L G s W0.drew (hT0.below hbd) hs hQ (by omega))
  have hSb := sumQ_bd (L s.data.toList) hQ
  obtain ⟨S, hS⟩ : ∃ S, S = sumQ (L s.data.toList) := ⟨_, rfl⟩
  rw [← hS] at HHS hSb hm ⊢
  have hSb2 : 0 ≤ S ∧ S ≤ 100000000 := by omega
  obtain ⟨more, hmo⟩ : ∃ more, more = q - S := ⟨_, rfl⟩
  rw [← hmo] at hm ⊢
  have hmb : -100000000 ≤ more ∧ more ≤ 1000000 := by omega
  have HMO := Lib.hid hmo
  have HTA : Aside (∀ W, Below W0.heap.size W0 W → TW W T bl bm c L G) := fun W hb => hT0.below hb
  have HGD := Lib.hid hg
  have HLL := Lib.hid hl
  obtain ⟨gv, hgv⟩ : ∃ gv, gv = G s.data.toList := ⟨_, rfl⟩
  have HGV := Lib.hid hgv
  rw [← hgv] at hG ⊢
  obtain ⟨m, hmm⟩ : ∃ m, m = more * gv := ⟨_, rfl⟩
  have hmv : 0 ≤ m ∧ m ≤ 1000000000000 := by
    rw [hmm]
    exact ⟨Int.mul_nonneg (by omega) hG.1, Int.le_trans (Int.mul_le_mul hmb.2 hG.2 hG.1 (by omega)) (by omega)⟩
  rw [← hmm]
  have HMM := Lib.hid hmm
  generalize hQQ : updL L s.data.toList (L s.data.toList ++ [⟨i, more, m⟩]) = Q
  have HQQ := Lib.hid hQQ
  have HT0 : Aside (TW W0 T bl bm c L G) := hT0
  have HX0 := Lib.hid x0
  have HX1 := Lib.hid x1
  have HX2 := Lib.hid x2
  rw [← hBe] at n0 n1 n2 HX0 HX1 HX2 hTl
  clear h hT0 x0 x1 x2 hb0 hbd hSb hS hmo hg hl hQ hgv hmm hQQ
  go_enter Tryz.func59, Tryz.ntmps59
  go_upto_region 13 with fail
  simp only [Evt.ob, Ln.ob] at hW0
  simp only [Nat.add_assoc, Nat.reduceAdd]
  rw [← hW0, ← hBe]
  clear hW0 hBe
  obtain ⟨c0, c1, c2, c3, c4, c5, c6⟩ := ev_cells HX0.out
  obtain ⟨k0, k1, k2, k3, k4, f0, f1, f2, f3, f4⟩ := ln_cells HX2.out
  obtain ⟨j0, j1, j2, j3, j4, g0, g1, g2, g3, g4⟩ := ln_cells HX1.out
  have hBW0 : B < W0.heap.size := cell_blk c0
  go_cut [6] from 65 to 71 (fun s6 wx => s6 = .int .i64 more ∧ Below W0.heap.size W0 wx)
  case first =>
    have hwq : IntKind.i64.wrap more = more := by rw [IntKind.wrap_i64]; omega
    have hwq2 : q - S = more := HMO.out.symm
    refine wp_region_any (by kernel_rfl) ?_
    refine wpAny_take (i := 0) (v := ?_) rfl (by kernel_rfl) (by kernel_rfl) (by kernel_rfl) (fun _ _ _ h => h) (Or.inl ⟨by rfl, ?_⟩) ?_
    rotate_left
    · intro _; go_simp; try (with_reducible rfl)
    refine wpAny_take (i := 2) (v := ?_) rfl (by kernel_rfl) (by kernel_rfl) (by kernel_rfl) (fun _ _ _ h => h) (Or.inl ⟨by rfl, ?_⟩) ?_
    rotate_left
    · intro _; go_simp; try (with_reducible rfl)
    refine wpAny_take (i := 3) (v := ?_) rfl (by kernel_rfl) (by kernel_rfl) (by kernel_rfl) (fun _ _ _ h => h) (Or.inl ⟨by rfl, ?_⟩) ?_
    rotate_left
    · intro _; go_simp; try (with_reducible rfl)
    refine wpAny_ready (rs := [1, 4]) (by kernel_rfl) (by simp) (AllReady.cons rfl (fun K hK => ?_) (AllReady.cons rfl (fun K hK => ?_) AllReady.nil))
    · go_simp
      refine hK _ _ ?_
      clear hK K
      refine wpAny_ready (rs := [4]) (by kernel_rfl) (by simp) (AllReady.cons rfl (fun K hK => ?_) AllReady.nil)
      go_simp
      refine hK _ _ ?_
      clear hK K
      refine wpAny_ready (rs := [5]) (by kernel_rfl) (by simp) (AllReady.cons rfl (fun K hK => ?_) AllReady.nil)
      go_simp
      refine HHS.out.mono ?_
      rintro e w4 ⟨rfl, hb4⟩
      replace hb4 := below_undrew2 hb4
      have c34 : w4.cell? ⟨B, 3, none⟩ = some (.int .i64 q) := (hb4.cell hBW0).trans c3
      refine hK _ _ ?_
      clear hK K
      refine wpAny_ready (rs := [6]) (by kernel_rfl) (by simp) (AllReady.cons rfl (fun K hK => ?_) AllReady.nil)
      go_simp
      refine hK _ _ ?_
      clear hK K
      refine wpAny_ready (rs := [7]) (by kernel_rfl) (by simp) (AllReady.cons rfl (fun K hK => ?_) AllReady.nil)
      go_simp
      refine hK _ _ ?_
      clear hK K
      refine wpAny_done (by kernel_rfl) ?_ _
      go_wp2_with fail
      go_meet
      exact ⟨rfl, hb4⟩
    · go_simp
      refine hK _ _ ?_
      clear hK K
      refine wpAny_ready (rs := [1, 5]) (by kernel_rfl) (by simp) (AllReady.cons rfl (fun K hK => ?_) (AllReady.cons rfl (fun K hK => ?_) AllReady.nil))
      · go_simp
        refine hK _ _ ?_
        clear hK K
        refine wpAny_ready (rs := [5]) (by kernel_rfl) (by simp) (AllReady.cons rfl (fun K hK => ?_) AllReady.nil)
        go_simp
        refine HHS.out.mono ?_
        rintro e w4 ⟨rfl, hb4⟩
        replace hb4 := below_undrew2 hb4
        have c34 : w4.cell? ⟨B, 3, none⟩ = some (.int .i64 q) := (hb4.cell hBW0).trans c3
        refine hK _ _ ?_
        clear hK K
        refine wpAny_ready (rs := [6]) (by kernel_rfl) (by simp) (AllReady.cons rfl (fun K hK => ?_) AllReady.nil)
        go_simp
        refine hK _ _ ?_
        clear hK K
        refine wpAny_ready (rs := [7]) (by kernel_rfl) (by simp) (AllReady.cons rfl (fun K hK => ?_) AllReady.nil)
        go_simp
        refine hK _ _ ?_
        clear hK K
        refine wpAny_done (by kernel_rfl) ?_ _
        go_wp2_with fail
        go_meet
        exact ⟨rfl, hb4⟩
      · go_simp
        refine HHS.out.mono ?_
        rintro e w4 ⟨rfl, hb4⟩
        replace hb4 := below_undrew2 hb4
        have c34 : w4.cell? ⟨B, 3, none⟩ = some (.int .i64 q) := (hb4.cell hBW0).trans c3
        refine hK _ _ ?_
        clear hK K
        refine wpAny_ready (rs := [1]) (by kernel_rfl) (by simp) (AllReady.cons rfl (fun K hK => ?_) AllReady.nil)
        go_simp
        refine hK _ _ ?_
        clear hK K
        refine wpAny_ready (rs := [6]) (by kernel_rfl) (by simp) (AllReady.cons rfl (fun K hK => ?_) AllReady.nil)
        go_simp
        refine hK _ _ ?_
        clear hK K
        refine wpAny_ready (rs := [7]) (by kernel_rfl) (by simp) (AllReady.cons rfl (fun K hK => ?_) AllReady.nil)
        go_simp
        refine hK _ _ ?_
        clear hK K
        refine wpAny_done (by kernel_rfl) ?_ _
        go_wp2_with fail
        go_meet
        exact ⟨rfl, hb4⟩
  case rest =>
    obtain ⟨rfl, hbx⟩ := hcut
    clear c0 c1 c2 c3 c4 c5 c6 k0 k1 k2 k3 k4 f0 f1 f2 f3 f4 j0 j1 j2 j3 j4 g0 g1 g2 g3 g4
    have hTc := HTA.out wc hbx
    have hLc := HL0.trans (Li.of_below (bl := bl) (bm := bm) hbx)
    have x0 := (hbx.block B (Array.getElem?_eq_some_iff.1 HX0.out).1).trans HX0.out
    have x1 := (hbx.block (B + 1) (Array.getElem?_eq_some_iff.1 HX1.out).1).trans HX1.out
    have x2 := (hbx.block (B + 2) (Array.getElem?_eq_some_iff.1 HX2.out).1).trans HX2.out
    obtain ⟨c0, c1, c2, c3, c4, c5, c6⟩ := ev_cells x0
    obtain ⟨k0, k1, k2, k3, k4, f0, f1, f2, f3, f4⟩ := ln_cells x2
    have hlook := (hTc.below (Below.refl _ wc).drew).looki s hs
    rw [← HGV.out] at hlook
    have hlk0 := hTc.looki s hs
    rw [← HGV.out] at hlk0
    have hlook2 := ((hTc.turn (gb_set wc (B + 2) 4 (.bool true)) x2 (by decide) (by omega)).below (Below.refl _ _).drew).looki s hs
    rw [← HGV.out] at hlook2
    have t1 := hTc.t1
    have t1d : wc.drew.cell? ⟨T, 1, none⟩ = some (.map (some bm)) := t1
    have hmw : IntKind.i64.wrap (more * gv) = m := by rw [← HMM.out, IntKind.wrap_i64]; omega
    have hmw2 : wrap64 (more * gv) = m := by rw [← HMM.out, wrap64_id _ hmv.1 hmv.2]
    have hg1 : wc.grownBy ((wc.setCell ⟨B + 2, 4, none⟩ (.bool true)).setCell ⟨B + 2, 1, none⟩ (.int .i64 m)) (some (B + 2)) := gb_trans (gb_set _ _ _ _) (gb_set _ _ _ _)
    have hT1 := hTc.turn hg1 x2 (by decide) (by omega)
    have z0 := (hg1.block B (Array.getElem?_eq_some_iff.1 x0).1 (by simp)).trans x0
    have z1 := (hg1.block (B + 1) (Array.getElem?_eq_some_iff.1 x1).1 (by simp)).trans x1
    have z2 := ln_set (ln_gain x2 true) m
    have hL1 := hLc.turn hg1 (by omega)
    have HZ := Lib.hid (And.intro hT1 (And.intro z0 (And.intro z1 (And.intro z2 hL1))))
    clear hT1 z0 z1 z2 hL1 hg1 hTc x0 x1 x2
    go_upto_region 15 with fail
    have mixed : Tryz.prog.follows .mixedOrders = true := by kernel_rfl
    go_big_region_o
    clear mixed hlook hlook2 hlk0 hmw hmw2 t1 t1d
    obtain ⟨hT1, z0, z1, z2, hL1⟩ := HZ.out
    clear HZ c0 c1 c2 c3 c4 c5 c6 k0 k1 k2 k3 k4 f0 f1 f2 f3 f4
    generalize (wc.setCell ⟨B + 2, 4, none⟩ (.bool true)).setCell ⟨B + 2, 1, none⟩ (.int .i64 m) = w5 at hT1 z0 z1 z2 hL1 ⊢
    have hbd5 : Below w5.heap.size w5 w5.drew := (Below.refl _ w5).drew
    have hT5 := hT1.below hbd5
    have u0 : w5.drew.heap[B]? = some (Evt.ob ⟨i, s, 4, q, p, o, d⟩) := z0
    have u1 : w5.drew.heap[B + 1]? = some (Ln.ob ⟨0, 0, 0, 0, false⟩) := z1
    have u2 : w5.drew.heap[B + 2]? = some (Ln.ob ⟨i, m, 0, 0, true⟩) := z2
    have hL5 := hL1.trans (Li.of_below hbd5)
    obtain ⟨c0, c1, c2, c3, c4, c5, c6⟩ := ev_cells u0
    obtain ⟨k0, k1, k2, k3, k4, f0, f1, f2, f3, f4⟩ := ln_cells u2
    have HPUT := Lib.hid (put_any T bl bm c L G s i more m w5.drew hT5 hs (by omega) (by have := HLL.out; omega))
    rw [HQQ.out] at HPUT
    have HU1 := Lib.hid u1
    have HU2 := Lib.hid u2
    have HL5 := Lib.hid hL5
    clear hT1 z0 z1 z2 hL1 hT5 u0 u1 u2 hL5 hbd5
    generalize w5.drew = w6 at *
    go_wp2_with (go_at_call 92; refine HPUT.out.mono ?_; rintro e w7 ⟨rfl, htw, hli⟩; have y1 := hli.heap HU1.out n1.1 n1.2; have y2 := hli.heap HU2.out n2.1 n2.2; obtain ⟨k0, k1, k2, k3, k4, f0, f1, f2, f3, f4⟩ := ln_cells y2; obtain ⟨j0, j1, j2, j3, j4, g0, g1, g2, g3, g4⟩ := ln_cells y1)
    have hLX := HL5.out.trans hli
    have hgR := (gb_trans (gb_trans (gb_trans (gb_trans (gb_set (w7) (B + 1) 0 (.int .i64 i)) (gb_set _ _ 1 (.int .i64 m))) (gb_set _ _ 2 (.int .i64 0))) (gb_set _ _ 3 (.int .i64 0))) (gb_set _ _ 4 (.bool true)))
    refine bodyPost_ret (v := Ln.agg ⟨i, m, 0, 0, true⟩) ?res rfl ⟨rfl, htw.turn hgR y1 (by decide) (by omega), hLX.turn hgR (by omega)⟩
    case res => simp [results, Tryz.results59, go_sem, j0, j1, j2, j3, j4]
set_option maxHeartbeats 4000000 in
set_option maxRecDepth 100000 in
theorem one_less (T bl bm c : Nat) (L : List UInt8 → List Lay) (G : List UInt8 → Int) (s : ByteArray) (i q p o d : Int) (w : World) (h : TW w T bl bm c L G) (hs : s.size ≤ maxLen) (hc : c < 100000) (hl : (L s.data.toList).length ≤ 999)
    (hg : GoodY 20000000000000 (L s.data.toList)) (hq : 0 ≤ q ∧ q ≤ 1000000) (hG : 0 ≤ G s.data.toList ∧ G s.data.toList ≤ 1000000) (hm : ¬ 0 < q - sumQ (L s.data.toList)) :
    Calls Tryz.prog 59 #[.pointer (some ⟨T, 0, none⟩), .agg #[.int .i64 i, .string s, .int .i64 4, .int .i64 q, .int .i64 p, .int .i64 o, .int .i64 d]] w fun e w' =>
      e = .returned (Ln.agg ⟨i, (takeP (L s.data.toList) (-(q - sumQ (L s.data.toList)))).1, 0, 0, false⟩) ∧ TW w' T bl bm (c + 1) (updL L s.data.toList (takeP (L s.data.toList) (-(q - sumQ (L s.data.toList)))).2.2) (G) ∧ Li bl bm w w' := by
  have hTl : T < w.heap.size := cell_blk h.t0
  obtain ⟨W0, hW0⟩ : ∃ W0, W0 = ((w.alloc (Evt.ob ⟨i, s, 4, q, p, o, d⟩)).alloc (Ln.ob ⟨0, 0, 0, 0, false⟩)).alloc (Ln.ob ⟨i, 0, 0, 0, false⟩) := ⟨_, rfl⟩
  have hb0 : Below w.heap.size w W0 := by rw [hW0]; exact (((Below.refl _ w).new _).new _).new _
  have x1 : W0.heap[w.heap.size + 1]? = some (Ln.ob ⟨0, 0, 0, 0, false⟩) := by
    rw [hW0]
    have := World.alloc_heap_new (w.alloc (Evt.ob ⟨i, s, 4, q, p, o, d⟩)) (Ln.ob ⟨0, 0, 0, 0, false⟩)
    rw [World.size_alloc] at this
    exact (Below.heap_alloc _ _ _ (by simp)).trans this
  have x2 : W0.heap[w.heap.size + 2]? = some (Ln.ob ⟨i, 0, 0, 0, false⟩) := by
    rw [hW0]
    have := World.alloc_heap_new ((w.alloc (Evt.ob ⟨i, s, 4, q, p, o, d⟩)).alloc (Ln.ob ⟨0, 0, 0, 0, false⟩)) (Ln.ob ⟨i, 0, 0, 0, false⟩)
    rw [World.size_alloc, World.size_alloc] at this
    exact this
  have x0 : W0.heap[w.heap.size]? = some (Evt.ob ⟨i, s, 4, q, p, o, d⟩) := by
    rw [hW0]
    exact (Below.heap_alloc _ _ _ (by simp; omega)).trans ((Below.heap_alloc _ _ _ (by simp)).trans (World.alloc_heap_new w _))
  have hT0 := h.below hb0
  have n0 := hT0.not_cells x0
  have n1 := hT0.not_cells x1
  have n2 := hT0.not_cells x2
  have HL0 : Li bl bm w W0 := Li.of_below hb0
  obtain ⟨B, hBe⟩ : ∃ B, B = w.heap.size := ⟨_, rfl⟩
  have hBw : w.heap.size ≤ B := by omega
  have hQ : ∀ x ∈ L s.data.toList, 0 ≤ x.qty ∧ x.qty ≤ 100000 := fun x hx => ⟨by have := hg.1 x hx; omega, (hg.1 x hx).2.1⟩
  have hbd : Below W0.heap.size W0 W0.drew := (Below.refl _ W0).drew
  have HHS := Lib.hid (has_any T bl bm c L G s W0.drew (hT0.below hbd) hs hQ (by omega))
  have hSb := sumQ_bd (L s.data.toList) hQ
  obtain ⟨S, hS⟩ : ∃ S, S = sumQ (L s.data.toList) := ⟨_, rfl⟩
  rw [← hS] at HHS hSb hm ⊢
  have hSb2 : 0 ≤ S ∧ S ≤ 100000000 := by omega
  obtain ⟨more, hmo⟩ : ∃ more, more = q - S := ⟨_, rfl⟩
  rw [← hmo] at hm ⊢
  have hmb : -100000000 ≤ more ∧ more ≤ 1000000 := by omega
  have HMO := Lib.hid hmo
  have HTA : Aside (∀ W, Below W0.heap.size W0 W → TW W T bl bm c L G) := fun W hb => hT0.below hb
  have HGD := Lib.hid hg
  have HLL := Lib.hid hl
  obtain ⟨tv, htv⟩ : ∃ tv, tv = (takeP (L s.data.toList) (-more)).1 := ⟨_, rfl⟩
  obtain ⟨tm, htm⟩ : ∃ tm, tm = (takeP (L s.data.toList) (-more)).2.1 := ⟨_, rfl⟩
  obtain ⟨tl, htl⟩ : ∃ tl, tl = (takeP (L s.data.toList) (-more)).2.2 := ⟨_, rfl⟩
  rw [← htv, ← htl]
  have HTV := Lib.hid (And.intro htv (And.intro htm htl))
  have HT0 : Aside (TW W0 T bl bm c L G) := hT0
  have HX0 := Lib.hid x0
  have HX1 := Lib.hid x1
  have HX2 := Lib.hid x2
  rw [← hBe] at n0 n1 n2 HX0 HX1 HX2 hTl
  clear h hT0 x0 x1 x2 hb0 hbd hSb hS hmo hg hl hQ htv htm htl
  go_enter Tryz.func59, Tryz.ntmps59
  go_upto_region 13 with fail
  simp only [Evt.ob, Ln.ob] at hW0
  simp only [Nat.add_assoc, Nat.reduceAdd]
  rw [← hW0, ← hBe]
  clear hW0 hBe
  obtain ⟨c0, c1, c2, c3, c4, c5, c6⟩ := ev_cells HX0.out
  obtain ⟨k0, k1, k2, k3, k4, f0, f1, f2, f3, f4⟩ := ln_cells HX2.out
  obtain ⟨j0, j1, j2, j3, j4, g0, g1, g2, g3, g4⟩ := ln_cells HX1.out
  have hBW0 : B < W0.heap.size := cell_blk c0
  go_cut [6] from 65 to 71 (fun s6 wx => s6 = .int .i64 more ∧ Below W0.heap.size W0 wx)
  case first =>
    have hwq : IntKind.i64.wrap more = more := by rw [IntKind.wrap_i64]; omega
    have hwq2 : q - S = more := HMO.out.symm
    refine wp_region_any (by kernel_rfl) ?_
    refine wpAny_take (i := 0) (v := ?_) rfl (by kernel_rfl) (by kernel_rfl) (by kernel_rfl) (fun _ _ _ h => h) (Or.inl ⟨by rfl, ?_⟩) ?_
    rotate_left
    · intro _; go_simp; try (with_reducible rfl)
    refine wpAny_take (i := 2) (v := ?_) rfl (by kernel_rfl) (by kernel_rfl) (by kernel_rfl) (fun _ _ _ h => h) (Or.inl ⟨by rfl, ?_⟩) ?_
    rotate_left
    · intro _; go_simp; try (with_reducible rfl)
    refine wpAny_take (i := 3) (v := ?_) rfl (by kernel_rfl) (by kernel_rfl) (by kernel_rfl) (fun _ _ _ h => h) (Or.inl ⟨by rfl, ?_⟩) ?_
    rotate_left
    · intro _; go_simp; try (with_reducible rfl)
    refine wpAny_ready (rs := [1, 4]) (by kernel_rfl) (by simp) (AllReady.cons rfl (fun K hK => ?_) (AllReady.cons rfl (fun K hK => ?_) AllReady.nil))
    · go_simp
      refine hK _ _ ?_
      clear hK K
      refine wpAny_ready (rs := [4]) (by kernel_rfl) (by simp) (AllReady.cons rfl (fun K hK => ?_) AllReady.nil)
      go_simp
      refine hK _ _ ?_
      clear hK K
      refine wpAny_ready (rs := [5]) (by kernel_rfl) (by simp) (AllReady.cons rfl (fun K hK => ?_) AllReady.nil)
      go_simp
      refine HHS.out.mono ?_
      rintro e w4 ⟨rfl, hb4⟩
      replace hb4 := below_undrew2 hb4
      have c34 : w4.cell? ⟨B, 3, none⟩ = some (.int .i64 q) := (hb4.cell hBW0).trans c3
      refine hK _ _ ?_
      clear hK K
      refine wpAny_ready (rs := [6]) (by kernel_rfl) (by simp) (AllReady.cons rfl (fun K hK => ?_) AllReady.nil)
      go_simp
      refine hK _ _ ?_
      clear hK K
      refine wpAny_ready (rs := [7]) (by kernel_rfl) (by simp) (AllReady.cons rfl (fun K hK => ?_) AllReady.nil)
      go_simp
      refine hK _ _ ?_
      clear hK K
      refine wpAny_done (by kernel_rfl) ?_ _
      go_wp2_with fail
      go_meet
      exact ⟨rfl, hb4⟩
    · go_simp
      refine hK _ _ ?_
      clear hK K
      refine wpAny_ready (rs := [1, 5]) (by kernel_rfl) (by simp) (AllReady.cons rfl (fun K hK => ?_) (AllReady.cons rfl (fun K hK => ?_) AllReady.nil))
      · go_simp
        refine hK _ _ ?_
        clear hK K
        refine wpAny_ready (rs := [5]) (by kernel_rfl) (by simp) (AllReady.cons rfl (fun K hK => ?_) AllReady.nil)
        go_simp
        refine HHS.out.mono ?_
        rintro e w4 ⟨rfl, hb4⟩
        replace hb4 := below_undrew2 hb4
        have c34 : w4.cell? ⟨B, 3, none⟩ = some (.int .i64 q) := (hb4.cell hBW0).trans c3
        refine hK _ _ ?_
        clear hK K
        refine wpAny_ready (rs := [6]) (by kernel_rfl) (by simp) (AllReady.cons rfl (fun K hK => ?_) AllReady.nil)
        go_simp
        refine hK _ _ ?_
        clear hK K
        refine wpAny_ready (rs := [7]) (by kernel_rfl) (by simp) (AllReady.cons rfl (fun K hK => ?_) AllReady.nil)
        go_simp
        refine hK _ _ ?_
        clear hK K
        refine wpAny_done (by kernel_rfl) ?_ _
        go_wp2_with fail
        go_meet
        exact ⟨rfl, hb4⟩
      · go_simp
        refine HHS.out.mono ?_
        rintro e w4 ⟨rfl, hb4⟩
        replace hb4 := below_undrew2 hb4
        have c34 : w4.cell? ⟨B, 3, none⟩ = some (.int .i64 q) := (hb4.cell hBW0).trans c3
        refine hK _ _ ?_
        clear hK K
        refine wpAny_ready (rs := [1]) (by kernel_rfl) (by simp) (AllReady.cons rfl (fun K hK => ?_) AllReady.nil)
        go_simp
        refine hK _ _ ?_
        clear hK K
        refine wpAny_ready (rs := [6]) (by kernel_rfl) (by simp) (AllReady.cons rfl (fun K hK => ?_) AllReady.nil)
        go_simp
        refine hK _ _ ?_
        clear hK K
        refine wpAny_ready (rs := [7]) (by kernel_rfl) (by simp) (AllReady.cons rfl (fun K hK => ?_) AllReady.nil)
        go_simp
        refine hK _ _ ?_
        clear hK K
        refine wpAny_done (by kernel_rfl) ?_ _
        go_wp2_with fail
        go_meet
        exact ⟨rfl, hb4⟩
  case rest =>
    obtain ⟨rfl, hbx⟩ := hcut
    clear c0 c1 c2 c3 c4 c5 c6 k0 k1 k2 k3 k4 f0 f1 f2 f3 f4 j0 j1 j2 j3 j4 g0 g1 g2 g3 g4
    have hTc := HTA.out wc hbx
    have hLc := HL0.trans (Li.of_below (bl := bl) (bm := bm) hbx)
    have x0 := (hbx.block B (Array.getElem?_eq_some_iff.1 HX0.out).1).trans HX0.out
    have x1 := (hbx.block (B + 1) (Array.getElem?_eq_some_iff.1 HX1.out).1).trans HX1.out
    have x2 := (hbx.block (B + 2) (Array.getElem?_eq_some_iff.1 HX2.out).1).trans HX2.out
    obtain ⟨c0, c1, c2, c3, c4, c5, c6⟩ := ev_cells x0
    obtain ⟨k0, k1, k2, k3, k4, f0, f1, f2, f3, f4⟩ := ln_cells x2
    have HTK := Lib.hid (take_any T bl bm c L G s (-more) wc hTc hs (by omega) (by omega) HGD.out (by have := HLL.out; omega))
    rw [← HTV.out.1, ← HTV.out.2.1, ← HTV.out.2.2] at HTK
    have hHX1 := Lib.hid x1
    have hHX2 := Lib.hid x2
    clear hTc x0 x1 x2
    go_wp2_with (go_at_call 94; refine HTK.out.mono ?_; rintro e w4 ⟨rfl, htw, hli⟩; have y1 := hli.heap hHX1.out n1.1 n1.2; have y2 := hli.heap hHX2.out n2.1 n2.2; obtain ⟨k0, k1, k2, k3, k4, f0, f1, f2, f3, f4⟩ := ln_cells y2; obtain ⟨j0, j1, j2, j3, j4, g0, g1, g2, g3, g4⟩ := ln_cells y1)
    have hgX : w4.grownBy (w4.setCell ⟨B + 2, 1, none⟩ (.int .i64 tv)) (some (B + 2)) := gb_set _ _ _ _
    have hTX := htw.turn hgX y2 (by decide) (by omega)
    have yX := (hgX.block (B + 1) (Array.getElem?_eq_some_iff.1 y1).1 (by simp)).trans y1
    have hLX := (hLc.trans hli).turn hgX (by omega)
    have hgR := (gb_trans (gb_trans (gb_trans (gb_trans (gb_set (w4.setCell ⟨B + 2, 1, none⟩ (.int .i64 tv)) (B + 1) 0 (.int .i64 i)) (gb_set _ _ 1 (.int .i64 tv))) (gb_set _ _ 2 (.int .i64 0))) (gb_set _ _ 3 (.int .i64 0))) (gb_set _ _ 4 (.bool false)))
    refine bodyPost_ret (v := Ln.agg ⟨i, tv, 0, 0, false⟩) ?res rfl ⟨rfl, hTX.turn hgR yX (by decide) (by omega), hLX.turn hgR (by omega)⟩
    case res => simp [results, Tryz.results59, go_sem, j0, j1, j2, j3, j4]
end Go.Proofs.YtackpcohmmlkeaaGreatDoor
