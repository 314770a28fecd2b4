/- tallymanref.Run: the lines, and the layers that are left, are the plain run's. (Printed by wip/gen_rurun.py.) -/
import Derived.Test.YtpbbbiifeihkaaaGreatDoorRuD
import Derived.Test.YtpbbbiifeihkaaaGreatDoorSrP
import Derived.Deep.CutBlock
import Derived.Deep.DeepCutAuto
import Derived.Maps.RangeWalk
namespace Go.Proofs.YtpbbbiifeihkaaaGreatDoor
open Go.RowKit
open Go.Maps (Keyed)
open Go.WideMaps
open Go.Proofs (encStr)
set_option linter.unusedVariables false

set_option maxHeartbeats 16000000 in
set_option maxRecDepth 100000 in
theorem refRun_any (a : Option Addr) (n c : Nat) (es : List Evt) (w : World) (hr : RdE w.heap.size w (.slice a n c) es) (hlen : es.length ≤ 140) (hsz : ∀ e ∈ es, e.item.size ≤ 1000000) (hw : NW w) :
    Calls Tryz.prog 7 #[.slice a n c] w fun e w' => ∃ va bl, e = .returned (.agg #[va, .map (some bl)]) ∧ w'.ownsRow w.heap.size 33 5 va (runP stk0 (Stb.isort leE es)).1.length (flN (runP stk0 (Stb.isort leE es)).1) ∧ Kept w' bl (runP stk0 (Stb.isort leE es)).2.lay ∧ w.heap.size ≤ bl ∧ Below w.heap.size w w' := by
  have hmm := @run_makeMap Tryz.prog
  obtain ⟨W0, B, hBe, hW0, z0, hb0, hq0, hR0, ht0⟩ := rq_start w
  have hr0 : RdE W0.heap.size W0 (.slice a n c) es := (hr.below hb0).mono hb0.size
  have HO := Lib.hid (ordered_any (.slice a n c) es W0 hr0 (by omega))
  obtain ⟨es', hes'⟩ : ∃ es', es' = Stb.isort leE es := ⟨_, rfl⟩
  have hsz' : Hid (∀ e ∈ es', e.item.size ≤ 1000000) := fun e he => hsz e ((Stb.isort_mem leE_total leE_trans es e).1 (by rw [← hes']; exact he))
  have hlen' : es'.length ≤ 140 := by rw [hes', isort_length]; exact hlen
  rw [← hes'] at HO ⊢
  have hB0 : Aside (Below w.heap.size w W0) := hb0
  have hQ0 : Aside (QW W0 w.heap.size (B + 1) (B + 3) 0 stk0.lay stk0.last) := hq0
  have HR0 := Lib.hid hR0
  have HT0 := Lib.hid ht0
  have HNW := Lib.hid hw
  clear hes' hsz hlen hr hr0 hb0 hq0 hR0 ht0 hw
  go_enter Tryz.func7, Tryz.ntmps7
  go_upto_region 3 with fail
  simp only [Nat.add_assoc, Nat.reduceAdd]
  rw [← hBe]
  rw [← hW0]
  have HBE := Lib.hid hBe
  have hB1 : B ≤ w.heap.size := by omega
  have hB2 : w.heap.size ≤ B := by omega
  clear hW0 hmm hBe z0
  go_wp2_with (go_at_call 35; refine HO.out.mono ?_; rintro e w2 ⟨v2, rfl, ho2, hb2⟩; obtain ⟨a2, c2, rfl⟩ := own_slice ho2)
  have hRQ0 : Aside (RQ w w2 (B + 1) (B + 3) (B + 2) 0 (.slice none 0 0) [] stk0.lay stk0.last (.slice a2 es'.length c2) es') :=
    { bel := hB0.out.step hb2, q := hQ0.out.below hb2, lo := ⟨by omega, by omega, by omega⟩, r := (hb2.block _ (Array.getElem?_eq_some_iff.1 HR0.out).1).trans HR0.out, ln := World.ownsRow_nil _ _ _ _,
      t2 := by rw [← HBE.out]; exact (hb2.block _ (Array.getElem?_eq_some_iff.1 HT0.out).1).trans HT0.out, ev := own_base ho2 hB0.out.size }
  clear hb2 ho2 hB0 hQ0 HR0 HT0 HO
  go_loopg [20] es'.length (fun kx i wr => ∃ (k : Nat) (va : Value), k ≤ es'.length ∧ i = .int .i64 k ∧ es'.length - k ≤ kx ∧ Aside (RQ w wr (B + 1) (B + 3) (B + 2) (2 * k) va (runP stk0 (es'.take k)).1 (runP stk0 (es'.take k)).2.lay (runP stk0 (es'.take k)).2.last (.slice a2 es'.length c2) es'))
  case atStart => exact ⟨0, _, by omega, rfl, by omega, hRQ0⟩
  case round =>
    clear hRQ0
    obtain ⟨k, va, hk, rfl, hkx, HRI⟩ := hrel
    by_cases hlt : k < es'.length
    · have hltz : (k : Int) < (es'.length : Int) := by omega
      obtain ⟨e, he⟩ : ∃ e, e = es'[k] := ⟨_, rfl⟩
      obtain ⟨b, off, rfl, -, hcc⟩ := (rdE_of_own HRI.out.ev rfl).seven k hlt
      obtain ⟨c0, c1, c2', c3, c4, c5, c6⟩ := hcc wr (Below.refl _ _)
      clear hcc
      rw [← he] at c0 c1 c2' c3 c4 c5 c6
      have hsz1 := hsz'.out e (by rw [he]; exact List.getElem_mem hlt)
      have HTK : Hid (es'.take (k + 1) = es'.take k ++ [e]) := by show _ = _; rw [List.take_succ_eq_append_getElem hlt, he]
      have hSn := sane_run (es'.take k) 0 stk0 sane0
      rw [Nat.zero_add, List.length_take, Nat.min_eq_left (Nat.le_of_lt hlt)] at hSn
      have hln := runP_len (es'.take k) stk0
      rw [List.length_take, Nat.min_eq_left (Nat.le_of_lt hlt)] at hln
      have HSNO := Lib.hid (runP_snoc (es'.take k) e stk0)
      rw [← HTK.out] at HSNO
      generalize runP stk0 (es'.take k) = rp at HRI hSn hln HSNO
      obtain ⟨lns, st⟩ := rp
      simp only at HRI hSn hln HSNO
      obtain ⟨xa, xc, rfl⟩ := own_slice HRI.out.ln
      obtain ⟨evr, hevr⟩ : ∃ evr, evr = e.right := ⟨_, rfl⟩
      rw [← hevr] at HSNO
      have HRT : Hid (∀ W, Calls Tryz.prog 36 #[e.agg] W (Gives (.bool evr) W)) := Lib.hid (fun W => by rw [hevr]; exact refRight_any e.id e.item e.kind e.qty e.price e.ofn e.day W hsz1)
      have hsk := hSn e.key
      clear he
      cases evr with
      | false =>
        clear hevr hsk hSn
        obtain ⟨i, s, kd, q, p, o, d⟩ := e
        simp only [Evt.agg] at HRT c0 c1 c2' c3 c4 c5 c6
        go_wp2_with (go_at_call 36; refine (HRT.out _).mono ?_; rintro e w5 ⟨rfl, hb5⟩)
        have hb5' := ((Below.refl _ wr).new (Evt.ob ⟨i, s, kd, q, p, o, d⟩)).step hb5
        go_roundg (es'.length - (k + 1))
        case measure => omega
        case rel =>
          refine ⟨k + 1, .slice xa lns.length xc, hlt, by first | rfl | go_num | (congr 1; omega), Nat.le_refl _, (show Aside _ from ?_)⟩
          have hS := HSNO.out
          simp only [Bool.false_eq_true, if_false] at hS
          rw [hS]
          have h1 := HRI.out.below hb5'
          exact ⟨h1.bel, h1.q.mono (by omega), h1.lo, h1.r, h1.ln, h1.t2, h1.ev⟩
      | true =>
        have hbd := right_bd hevr.symm
        clear hevr hSn
        have hmax : e.item.size ≤ maxLen := by unfold maxLen; omega
        obtain ⟨ls, hls⟩ : ∃ ls, ls = st.lay e.key := ⟨_, rfl⟩
        have hky := hls.symm
        rw [hky] at hsk
        obtain ⟨hgy, hll, hg0, hg1⟩ := hsk
        have hgd : GoodY 20000000000000 ls := ⟨hgy.1, by have := hgy.2; omega⟩
        have hsq := sumQ_bd ls (fun x hx => by have := hgd.1 x hx; omega)
        have HSUM : Hid (∀ W, Below wr.heap.size wr W → Calls Tryz.prog 9 #[.agg #[.slice xa lns.length xc, .map (some (B + 1))], .string e.item] W fun r w' => r = .returned (.tuple #[.int .i64 (sumQ ls), .int .i64 (sumV ls)]) ∧ Below W.heap.size W w') := fun W hb => by
          have h1 := HRI.out.below hb
          have := h1.sumC e.item hmax (by rw [show st.lay e.item.data.toList = ls from hky]; exact hgd) (by rw [show st.lay e.item.data.toList = ls from hky]; omega)
          rwa [show st.lay e.item.data.toList = ls from hky] at this
        obtain ⟨sq, hsqe⟩ : ∃ sq, sq = sumQ ls := ⟨_, rfl⟩
        rw [← hsqe] at hsq HSUM
        have HSQ := Lib.hid hsqe
        obtain ⟨gv, hgvv⟩ : ∃ gv, gv = st.last e.key := ⟨_, rfl⟩
        have hgv := hgvv.symm
        rw [hgv] at hg0 hg1
        clear hls hgy hsqe hgvv
        obtain ⟨k0, k1, k2, k3⟩ := rr_cells HRI.out.r
        obtain ⟨i, s, kd, q, p, o, d⟩ := e
        simp only [Evt.agg] at HRT HSUM c0 c1 c2' c3 c4 c5 c6 hmax hbd
        have hll2 : ls.length ≤ 140 := by omega
        go_upto_region 7 with (go_at_call 36; refine (HRT.out _).mono ?_; rintro e w5 ⟨rfl, hb5⟩)
        have hb5' := ((Below.refl _ wr).new (Evt.ob ⟨i, s, kd, q, p, o, d⟩)).step hb5
        obtain ⟨e0, e1, e2, e3, e4, e5, e6⟩ := ev_cells ((hb5.block _ (by simp)).trans (World.alloc_heap_new wr _))
        have hr5 := (hb5'.block _ (Array.getElem?_eq_some_iff.1 HRI.out.r).1).trans HRI.out.r
        obtain ⟨g0, g1, g2, g3⟩ := rr_cells hr5
        have hl5 : B + 2 < w5.heap.size := (Array.getElem?_eq_some_iff.1 hr5).1
        have hle5 : wr.heap.size < w5.heap.size := by (have := hb5.size; simp at this; omega)
        clear hr5
        have HSUM5 := Lib.hid (HSUM.out (w5.alloc (Ln.ob ⟨i, 0, 0, 0, false⟩)) (hb5'.new _))
        go_upto_block 2 with (go_at_call 9; refine HSUM5.out.mono ?_; rintro e w6 ⟨rfl, hb6⟩)
        have hbx := ((Below.refl _ w5).new (Ln.ob ⟨i, 0, 0, 0, false⟩)).step hb6
        have hS : RS w w6 (B + 1) (B + 3) (B + 2) wr.heap.size w5.heap.size (2 * k) (.slice xa lns.length xc) lns st.lay st.last (.slice (some ⟨b, off, none⟩) es'.length c2) es' ⟨i, s, kd, q, p, o, d⟩ ⟨i, 0, 0, 0, false⟩ :=
          { s := (HRI.out.below hb5').below hbx, e := (hbx.block _ (by have := hb5.size; simp at this; omega)).trans ((hb5.block _ (by simp)).trans (World.alloc_heap_new wr _)), x := (hb6.block _ (by simp)).trans (World.alloc_heap_new w5 _),
            nx := fun e => by have h1 := (own_at HRI.out.ln e).2.1; have h2 := hb5'.size; omega, lx := Nat.le_trans HRI.out.bel.size hb5'.size }
        obtain ⟨r1, hr1⟩ : ∃ r1, r1 = oneP st ⟨i, s, kd, q, p, o, d⟩ := ⟨_, rfl⟩
        rw [← hr1] at HSNO
        have HONE := Lib.hid hr1
        clear hr1 HRI HRT HSUM hb5 hb6 hb5' hbx c0 c1 c2' c3 c4 c5 c6 k0 k1 k2 k3 e0 e1 e2 e3 e4 e5 e6 g0 g1 g2 g3 hl5 hle5
        obtain ⟨ln, st'⟩ := r1
        generalize wr.heap.size = E at hS ⊢
        generalize w5.heap.size = X at hS ⊢
        go_cut [11] (fun _ wc => Aside (RS w wc (B + 1) (B + 3) (B + 2) E X (2 * k + 2) (.slice xa lns.length xc) lns st'.lay st'.last (.slice (some ⟨b, off, none⟩) es'.length c2) es' ⟨i, s, kd, q, p, o, d⟩ ln))
        case first =>
          have hone := HONE.out
          simp only [Evt.key] at hky hgv
          have hll3 : (st.lay s.data.toList).length ≤ 1000 := by rw [hky]; omega
          have hc2k : 2 * k < 1000000 := by omega
          have hc2k1 : 2 * k + 1 < 1000000 := by omega
          have hgd3 : GoodY 20000000000000 (st.lay s.data.toList) := by rw [hky]; exact hgd
          obtain ⟨d0, d1, d2, d3, d4, d5, d6⟩ := ev_cells hS.e
          obtain ⟨k0, k1, k2, k3, k4, f0, f1, f2, f3, f4⟩ := ln_cells hS.x
          obtain ⟨r0, rr1, rf0, rf1⟩ := rr_cells hS.s.r
          clear HONE HSNO HTK hsz'
          obtain ⟨-, hbd⟩ := hbd
          rcases hbd with ⟨rfl, q0, q1, p0, p1, rfl⟩ | ⟨rfl, rfl, p0, p1, o1⟩ | ⟨rfl, q0, q1, rfl, rfl⟩ | ⟨rfl, q0, q1, rfl, rfl⟩
          · rw [oneP, if_pos rfl] at hone
            simp only at hone
            obtain ⟨m, hm⟩ : ∃ m, m = q * p := ⟨_, rfl⟩
            have hmb : 0 ≤ m ∧ m ≤ 1000000000000 := by
              rw [hm]
              exact ⟨Int.mul_nonneg (by omega) p0, Int.le_trans (Int.mul_le_mul q1 p1 p0 (by omega)) (by omega)⟩
            have hmw : IntKind.i64.wrap (q * p) = m := by rw [← hm, IntKind.wrap_i64]; omega
            have hmw2 : wrap64 (q * p) = m := by rw [← hm, wrap64_id _ hmb.1 hmb.2]
            rw [← hm] at hone
            injection hone with h1 h2
            subst h1 h2
            clear hm
            go_upto_region 12 with fail
            have hS1 := hS.below (Below.refl _ w6).drew
            generalize hW1 : w6.drew = W1 at hS1
            refine wp_region_held_drew (S := fun W => W.heap[E]? = some (Evt.ob ⟨i, s, 1, q, p, 0, d⟩)) (by kernel_rfl) (by rw [hW1]; exact hS1.e) (fun hHeld => ?_)
            rw [hW1] at hHeld ⊢
            clear hW1 hS
            refine wpAnyH_take (i := 0) (v := ?_) rfl (by kernel_rfl) (by kernel_rfl) (by kernel_rfl) (fun _ _ _ h => h) (Or.inl ⟨by rfl, ?_⟩) hHeld ?_
            rotate_left
            · intro W hSw; go_simp; try (with_reducible rfl)
            refine wpAnyH_take (i := 1) (v := ?_) rfl (by kernel_rfl) (by kernel_rfl) (by kernel_rfl) (fun _ _ _ h => h) (Or.inl ⟨by rfl, ?_⟩) hHeld ?_
            rotate_left
            · intro W hSw; go_simp; try (with_reducible rfl)
            refine wpAnyH_take (i := 2) (v := ?_) rfl (by kernel_rfl) (by kernel_rfl) (by kernel_rfl) (fun _ _ _ h => h) (Or.inl ⟨by rfl, ?_⟩) hHeld ?_
            rotate_left
            · intro W hSw; obtain ⟨d0, d1, d2, d3, d4, d5, d6⟩ := ev_cells hSw; go_simp; try (with_reducible rfl)
            refine wpAnyH_take (i := 3) (v := ?_) rfl (by kernel_rfl) (by kernel_rfl) (by kernel_rfl) (fun _ _ _ h => h) (Or.inl ⟨by rfl, ?_⟩) hHeld ?_
            rotate_left
            · intro W hSw; go_simp; try (with_reducible rfl)
            refine wpAnyH_take (i := 4) (v := ?_) rfl (by kernel_rfl) (by kernel_rfl) (by kernel_rfl) (fun _ _ _ h => h) (Or.inl ⟨by rfl, ?_⟩) hHeld ?_
            rotate_left
            · intro W hSw; obtain ⟨d0, d1, d2, d3, d4, d5, d6⟩ := ev_cells hSw; go_simp; try (with_reducible rfl)
            refine wpAnyH_take (i := 5) (v := ?_) rfl (by kernel_rfl) (by kernel_rfl) (by kernel_rfl) (fun _ _ _ h => h) (Or.inl ⟨by rfl, ?_⟩) hHeld ?_
            rotate_left
            · intro W hSw; go_simp; try (with_reducible rfl)
            refine wpAnyH_take (i := 6) (v := ?_) rfl (by kernel_rfl) (by kernel_rfl) (by kernel_rfl) (fun _ _ _ h => h) (Or.inl ⟨by rfl, ?_⟩) hHeld ?_
            rotate_left
            · intro W hSw; obtain ⟨d0, d1, d2, d3, d4, d5, d6⟩ := ev_cells hSw; go_simp; try (with_reducible rfl)
            refine wpAnyH_take (i := 7) (v := ?_) rfl (by kernel_rfl) (by kernel_rfl) (by kernel_rfl) (fun _ _ _ h => h) (Or.inl ⟨by rfl, ?_⟩) hHeld ?_
            rotate_left
            · intro W hSw; go_simp; try (with_reducible rfl)
            try simp only [hmw, hmw2]
            refine wpAnyH_take (i := 8) (v := ?_) rfl (by kernel_rfl) (by kernel_rfl) (by kernel_rfl) (fun _ _ _ h => h) (Or.inl ⟨by rfl, ?_⟩) hHeld ?_
            rotate_left
            · intro W hSw; go_simp; try (with_reducible rfl)
            refine wpAnyH_take (i := 9) (v := ?_) rfl (by kernel_rfl) (by kernel_rfl) (by kernel_rfl) (fun _ _ _ h => h) (Or.inl ⟨by rfl, ?_⟩) hHeld ?_
            rotate_left
            · intro W hSw; obtain ⟨d0, d1, d2, d3, d4, d5, d6⟩ := ev_cells hSw; go_simp; try (with_reducible rfl)
            refine wpAnyH_take (i := 10) (v := ?_) rfl (by kernel_rfl) (by kernel_rfl) (by kernel_rfl) (fun _ _ _ h => h) (Or.inl ⟨by rfl, ?_⟩) hHeld ?_
            rotate_left
            · intro W hSw; go_simp; try (with_reducible rfl)
            have hS2 := hS1.setx 1 (.int .i64 m) ⟨i, m, 0, 0, false⟩ rfl
            obtain ⟨k0, k1, k2, k3, k4, f0, f1, f2, f3, f4⟩ := ln_cells hS1.x
            refine wpAnyH_ready (rs := [11]) (by kernel_rfl) (by simp) (AllReadyH.cons rfl (fun K hK => ?_) AllReadyH.nil)
            go_simp
            refine hK.out _ _ hS2.e (fun hHeld => ?_)
            clear hK K
            clear k0 k1 k2 k3 k4 f0 f1 f2 f3 f4 hS1
            generalize W1.setCell ⟨X, 1, none⟩ (.int .i64 m) = W2 at hS2 hHeld ⊢
            obtain ⟨W3, hrun3, hS3⟩ := hS2.setiC hmax hc2k p
            refine wpAnyH_ready (rs := [12]) (by kernel_rfl) (by simp) (AllReadyH.cons rfl (fun K hK => ?_) AllReadyH.nil)
            go_simp
            refine hK.out _ _ hS3.e (fun hHeld => ?_)
            clear hK K
            clear hrun3 hS2
            refine wpAnyH_done (by kernel_rfl) ?_ _
            have HL := Lib.hid (hS3.layC hmax hc2k1 hll3 q m)
            obtain ⟨d0, d1, d2, d3, d4, d5, d6⟩ := ev_cells hS3.e
            obtain ⟨k0, k1, k2, k3, k4, f0, f1, f2, f3, f4⟩ := ln_cells hS3.x
            clear hS3
            go_wp2_with (go_at_call 37; refine HL.out.mono ?_; rintro r w9 ⟨rfl, hS9⟩)
            go_meet
            case rel => exact hS9.mono (by omega)
          · rw [oneP, if_neg (show ¬ (2 : Int) = 1 by decide), if_pos rfl] at hone
            simp only at hone
            have hS1 := hS.setx 3 (.int .i64 p) ⟨i, 0, 0, p, false⟩ rfl
            go_upto_region 16 with fail
            clear d0 d1 d2 d3 d4 d5 d6 k0 k1 k2 k3 k4 f0 f1 f2 f3 f4 r0 rr1 rf0 rf1 hS
            generalize w6.setCell ⟨X, 3, none⟩ (.int .i64 p) = W1 at hS1 ⊢
            obtain ⟨d0, d1, d2, d3, d4, d5, d6⟩ := ev_cells hS1.e
            obtain ⟨r0, rr1, rf0, rf1⟩ := rr_cells hS1.s.r
            obtain ⟨v1, hv1, hlk⟩ := hS1.s.q.looks s hmax
            have look := hlk W1 (Below.refl _ _)
            rw [hky] at hv1
            obtain ⟨y1, z1, rfl, -⟩ := hv1
            have hS1' : Aside (RS w W1 (B + 1) (B + 3) (B + 2) E X (2 * k) (.slice xa lns.length xc) lns (updL st.lay s.data.toList ls) st.last (.slice (some ⟨b, off, none⟩) es'.length c2) es' ⟨i, s, 2, 0, p, o, d⟩ ⟨i, 0, 0, p, false⟩) := by
              show RS w W1 _ _ _ _ _ _ _ _ _ _ _ _ _ _
              rw [← hky, updL_self]
              exact hS1
            have HONE := Lib.hid hone
            have HGD := Lib.hid hgd
            clear hone hlk hS1 hgd hgd3 hll3
            go_wp2_with fail
            clear look d0 d1 d2 d3 d4 d5 d6 r0 rr1 rf0 rf1
            go_loopg [83] ls.length (fun kx s83 wi => ∃ (j : Nat) (x' : Ln) (ls' : List Lay), s83 = .int .i64 j ∧ j ≤ ls.length ∧ ls.length - j ≤ kx ∧ ls'.length = ls.length ∧ Aside (RS w wi (B + 1) (B + 3) (B + 2) E X (2 * k) (.slice xa lns.length xc) lns (updL st.lay s.data.toList ls') st.last (.slice (some ⟨b, off, none⟩) es'.length c2) es' ⟨i, s, 2, 0, p, o, d⟩ x') ∧ Hid ((x' = ⟨i, 0, 0, p, false⟩ ∧ ls' = ls ∧ ∀ m (hl : m < ls.length), m < j → ls[m].id ≠ o) ∨ (x' = ⟨i, p, 0, 0, false⟩ ∧ chargeP ls o p = (0, ls'))))
            case atStart => exact ⟨0, _, ls, rfl, Nat.zero_le _, by omega, rfl, hS1', .inl ⟨rfl, rfl, fun m _ h => absurd h (by omega)⟩⟩
            case round =>
              clear hS1'
              obtain ⟨j, x', ls', rfl, hj, hjx, hlq, HS, HC⟩ := hrel
              by_cases hjl : j < ls.length
              · have hjz : (j : Int) < (ls.length : Int) := by omega
                obtain ⟨v1, hv1, hlk⟩ := HS.out.s.q.looks s hmax
                simp only [updL_same] at hv1
                obtain ⟨y2, z2, rfl, -⟩ := id hv1
                rw [hlq] at hv1 hlk
                obtain ⟨-, b2, off2, rfl, l0, l1, l2⟩ := hv1.at j (by omega)
                have hlkn : ∀ n, (Instr.lookup 26 (.map (some (B + 1))) (.string s) false).run Tryz.prog (wr.drewN n) = .ok (.slice (some ⟨b2, off2, none⟩) ls.length z2) (wr.drewN n) := fun n => hlk _ (below_drewN (Below.refl _ wr) n)
                have hlk0 := hlk wr (Below.refl _ _)
                clear hlk hv1
                obtain ⟨d0, d1, d2, d3, d4, d5, d6⟩ := ev_cells HS.out.e
                obtain ⟨r0, rr1, rf0, rf1⟩ := rr_cells HS.out.s.r
                rcases HC.out with ⟨rfl, rfl, hno⟩ | ⟨rfl, hch⟩
                · obtain ⟨k0, k1, k2, k3, k4, f0, f1, f2, f3, f4⟩ := ln_cells HS.out.x
                  have hp0 : decide (p > 0) = true := decide_eq_true (by omega)
                  by_cases hid : ls'[j].id = o
                  · have hidb : (ls'[j].id == o) = true := by simpa using hid
                    have hno' : ∀ m (hm : m < j), ls'[m].id ≠ o := fun m hm => hno m (by omega) hm
                    have hchg := Lib.hid (chargeP_at ls' o p j hjl hid hno')
                    have hval : ls'[j].val ≤ 20000000000000 := Int.le_trans (val_le HGD.out.1 (List.getElem_mem hjl)) HGD.out.2
                    have hval0 := (HGD.out.1 ls'[j] (List.getElem_mem hjl)).2.2
                    clear hno hno' HC
                    go_upto_region 19 with fail
                    go_quiet (fail)
                    go_upto_region 20 with fail
                    clear d0 d1 d2 d3 d4 d5 d6 k0 k1 k2 k3 k4 f0 f1 f2 f3 f4 r0 rr1 rf0 rf1 l0 l1 l2 hlkn hlk0
                    have hS1 := HS.out.below (((below_drewN (Below.refl _ wr) nq).drew))
                    obtain ⟨g, cp, hlk, hBg, hrd, ⟨cu, hcu⟩, hQ, hLv⟩ := hS1.s.q.charge s hmax j (by rw [updL_same]; exact hjl) (ls'[j].val + p)
                    simp only [updL_same, updL_updL] at hlk hrd hQ
                    obtain ⟨-, b3, off3, hbo, l0, l1, l2⟩ := hrd.at j hjl
                    injection hbo with hbo
                    injection hbo with hb3 hoff3
                    subst hb3 hoff3
                    simp only [Nat.zero_add] at l0 l1 l2
                    have hfz := lay_fz hcu (j * 3 + 2)
                    have hS2 := hS1.lv hLv hQ
                    have hlk1 := hlk _ (Below.refl _ _)
                    have hvw : IntKind.i64.wrap (ls'[j].val + p) = ls'[j].val + p := by rw [IntKind.wrap_i64]; omega
                    have hvw2 : wrap64 (ls'[j].val + p) = ls'[j].val + p := IntWalk.wrap64_in _ ⟨by omega, by omega⟩
                    generalize hW1 : (wr.drewN nq).drew = W1 at hS1 hlk hrd hcu hQ hLv l0 l1 l2 hfz hS2 hlk1
                    refine wp_region_held_drew (S := fun W => W.heap[E]? = some (Evt.ob ⟨i, s, 2, 0, p, o, d⟩) ∧ W.heap[B + 2]? = some (.cells #[.slice xa lns.length xc, .map (some (B + 1))] 28 (0, 0))) (by kernel_rfl) (by rw [hW1]; exact ⟨hS1.e, hS1.s.r⟩) (fun hHeld => ?_)
                    rw [hW1] at hHeld ⊢
                    clear hW1 hlk hrd hQ hLv hcu
                    refine wpAnyH_take (i := 0) (v := ?_) rfl (by kernel_rfl) (by kernel_rfl) (by kernel_rfl) (fun _ _ _ h => h) (Or.inl ⟨by rfl, ?_⟩) hHeld ?_
                    rotate_left
                    · intro W hSw; go_simp; try (with_reducible rfl)
                    refine wpAnyH_take (i := 1) (v := ?_) rfl (by kernel_rfl) (by kernel_rfl) (by kernel_rfl) (fun _ _ _ h => h) (Or.inl ⟨by rfl, ?_⟩) hHeld ?_
                    rotate_left
                    · intro W hSw; obtain ⟨r0, rr1, rf0, rf1⟩ := rr_cells hSw.2; go_simp; try (with_reducible rfl)
                    refine wpAnyH_take (i := 2) (v := ?_) rfl (by kernel_rfl) (by kernel_rfl) (by kernel_rfl) (fun _ _ _ h => h) (Or.inl ⟨by rfl, ?_⟩) hHeld ?_
                    rotate_left
                    · intro W hSw; go_simp; try (with_reducible rfl)
                    refine wpAnyH_take (i := 3) (v := ?_) rfl (by kernel_rfl) (by kernel_rfl) (by kernel_rfl) (fun _ _ _ h => h) (Or.inl ⟨by rfl, ?_⟩) hHeld ?_
                    rotate_left
                    · intro W hSw; obtain ⟨d0, d1, d2, d3, d4, d5, d6⟩ := ev_cells hSw.1; go_simp; try (with_reducible rfl)
                    refine wpAnyH_take (i := 5) (v := ?_) rfl (by kernel_rfl) (by kernel_rfl) (by kernel_rfl) (fun _ _ _ h => h) (Or.inl ⟨by rfl, ?_⟩) hHeld ?_
                    rotate_left
                    · intro W hSw; go_simp; try (with_reducible rfl)
                    refine wpAnyH_take (i := 9) (v := ?_) rfl (by kernel_rfl) (by kernel_rfl) (by kernel_rfl) (fun _ _ _ h => h) (Or.inl ⟨by rfl, ?_⟩) hHeld ?_
                    rotate_left
                    · intro W hSw; go_simp; try (with_reducible rfl)
                    refine wpAnyH_take (i := 10) (v := ?_) rfl (by kernel_rfl) (by kernel_rfl) (by kernel_rfl) (fun _ _ _ h => h) (Or.inl ⟨by rfl, ?_⟩) hHeld ?_
                    rotate_left
                    · intro W hSw; obtain ⟨d0, d1, d2, d3, d4, d5, d6⟩ := ev_cells hSw.1; go_simp; try (with_reducible rfl)
                    refine wpAnyH_ready (rs := [4]) (by kernel_rfl) (by simp) (AllReadyH.cons rfl (fun K hK => ?_) AllReadyH.nil)
                    go_simp
                    refine hK.out _ _ hHeld (fun hHeld => ?_)
                    clear hK K
                    refine wpAnyH_take (i := 6) (v := ?_) rfl (by kernel_rfl) (by kernel_rfl) (by kernel_rfl) (fun _ _ _ h => h) (Or.inl ⟨by rfl, ?_⟩) hHeld ?_
                    rotate_left
                    · intro W hSw; go_simp; try (with_reducible rfl)
                    refine wpAnyH_take (i := 7) (v := ?_) rfl (by kernel_rfl) (by kernel_rfl) (by kernel_rfl) (fun _ _ _ h => h) (Or.inl ⟨by rfl, ?_⟩) hHeld ?_
                    rotate_left
                    · intro W hSw; go_simp; try (with_reducible rfl)
                    refine wpAnyH_ready (rs := [8]) (by kernel_rfl) (by simp) (AllReadyH.cons rfl (fun K hK => ?_) AllReadyH.nil)
                    go_simp
                    refine hK.out _ _ hHeld (fun hHeld => ?_)
                    clear hK K
                    refine wpAnyH_take (i := 11) (v := ?_) rfl (by kernel_rfl) (by kernel_rfl) (by kernel_rfl) (fun _ _ _ h => h) (Or.inl ⟨by rfl, ?_⟩) hHeld ?_
                    rotate_left
                    · intro W hSw; go_simp; try (with_reducible rfl)
                    try simp only [hvw, hvw2]
                    refine wpAnyH_take (i := 12) (v := ?_) rfl (by kernel_rfl) (by kernel_rfl) (by kernel_rfl) (fun _ _ _ h => h) (Or.inl ⟨by rfl, ?_⟩) hHeld ?_
                    rotate_left
                    · intro W hSw; go_simp; try (with_reducible rfl)
                    refine wpAnyH_take (i := 13) (v := ?_) rfl (by kernel_rfl) (by kernel_rfl) (by kernel_rfl) (fun _ _ _ h => h) (Or.inl ⟨by rfl, ?_⟩) hHeld ?_
                    rotate_left
                    · intro W hSw; go_simp; try (with_reducible rfl)
                    refine wpAnyH_ready (rs := [14]) (by kernel_rfl) (by simp) (AllReadyH.cons rfl (fun K hK => ?_) AllReadyH.nil)
                    go_simp
                    refine hK.out _ _ ⟨hS2.e, hS2.s.r⟩ (fun hHeld => ?_)
                    clear hK K
                    clear l0 l1 l2 hfz hS1 hlk1
                    generalize W1.setCell ⟨g, j * 3 + 2, none⟩ (.int .i64 (ls'[j].val + p)) = W2 at hS2 hHeld ⊢
                    refine wpAnyH_done (by kernel_rfl) ?_ _
                    have hS3 := (hS2.setx 1 (.int .i64 p) ⟨i, p, 0, p, false⟩ rfl).setx 3 (.int .i64 0) ⟨i, p, 0, 0, false⟩ rfl
                    obtain ⟨d0, d1, d2, d3, d4, d5, d6⟩ := ev_cells hS2.e
                    obtain ⟨k0, k1, k2, k3, k4, f0, f1, f2, f3, f4⟩ := ln_cells hS2.x
                    clear hS2
                    go_wp2_with fail
                    go_roundg (ls'.length - (j + 1))
                    case measure => omega
                    case rel => exact ⟨j + 1, _, _, by first | rfl | go_num | (congr 1; omega), hjl, Nat.le_refl _, by simp, hS3, .inr ⟨rfl, hchg.out⟩⟩
                  · have hidb : (ls'[j].id == o) = false := by simpa using hid
                    clear HC
                    have HNO := Lib.hid hno
                    clear hno
                    go_upto_region 19 with fail
                    go_quiet (fail)
                    go_wp2_with fail
                    go_roundg (ls'.length - (j + 1))
                    case measure => omega
                    case rel =>
                      refine ⟨j + 1, _, ls', by first | rfl | go_num | (congr 1; omega), hjl, Nat.le_refl _, rfl, HS.out.below (below_drewN (Below.refl _ wr) nq), .inl ⟨rfl, rfl, fun m hl hm => ?_⟩⟩
                      by_cases e : m = j
                      · subst e; exact hid
                      · exact HNO.out m hl (by omega)
                · obtain ⟨k0, k1, k2, k3, k4, f0, f1, f2, f3, f4⟩ := ln_cells HS.out.x
                  have hp0 : decide ((0 : Int) > 0) = false := by decide
                  by_cases hid : ls'[j].id = o
                  · have hidb : (ls'[j].id == o) = true := by simpa using hid
                    clear HC
                    have HCH := Lib.hid hch
                    clear hch
                    go_upto_region 19 with fail
                    go_quiet (fail)
                    go_wp2_with fail
                    go_roundg (ls.length - (j + 1))
                    case measure => omega
                    case rel => exact ⟨j + 1, _, ls', by first | rfl | go_num | (congr 1; omega), hjl, Nat.le_refl _, hlq, HS.out.below (below_drewN (Below.refl _ wr) nq), .inr ⟨rfl, HCH.out⟩⟩
                  · have hidb : (ls'[j].id == o) = false := by simpa using hid
                    clear HC
                    have HCH := Lib.hid hch
                    clear hch
                    go_upto_region 19 with fail
                    go_quiet (fail)
                    go_wp2_with fail
                    go_roundg (ls.length - (j + 1))
                    case measure => omega
                    case rel => exact ⟨j + 1, _, ls', by first | rfl | go_num | (congr 1; omega), hjl, Nat.le_refl _, hlq, HS.out.below (below_drewN (Below.refl _ wr) nq), .inr ⟨rfl, HCH.out⟩⟩
              · have hjz : ¬ (j : Int) < (ls.length : Int) := by omega
                have hje : j = ls.length := by omega
                go_wp2_with fail
                go_meet
                case rel =>
                  have hone := HONE.out
                  rcases HC.out with ⟨rfl, rfl, hno⟩ | ⟨rfl, hch⟩
                  · have h0 := chargeP_no ls' o p (fun x hx => by
                      obtain ⟨m, hm, rfl⟩ := List.getElem_of_mem hx
                      exact hno m hm (by omega))
                    rw [hky, h0] at hone
                    injection hone with h1 h2
                    subst h1 h2
                    simp only [Int.sub_self]
                    exact HS.out.mono (by omega)
                  · rw [hky, hch] at hone
                    injection hone with h1 h2
                    subst h1 h2
                    simp only [Int.sub_zero]
                    exact HS.out.mono (by omega)
          · rw [oneP, if_neg (show ¬ (3 : Int) = 1 by decide), if_neg (show ¬ (3 : Int) = 2 by decide), if_pos rfl] at hone
            simp only at hone
            have HT := Lib.hid (hS.takeC hmax hc2k hll3 hgd3 q (by omega) (by omega) HNW.out)
            simp only [Evt.key] at HT
            generalize takeP (st.lay s.data.toList) q = tp at HT hone
            obtain ⟨tv, tm, tl⟩ := tp
            simp only at HT hone
            injection hone with h1 h2
            subst h1 h2
            clear hS
            go_wp2_with (go_at_call 38; refine HT.out.mono ?_; rintro r w9 ⟨rfl, hS9⟩; obtain ⟨k0, k1, k2, k3, k4, f0, f1, f2, f3, f4⟩ := ln_cells hS9.x; have hS10 := (hS9.setx 1 (.int .i64 tv) ⟨i, tv, 0, 0, false⟩ rfl).setx 2 (.int .i64 tm) ⟨i, tv, tm, 0, false⟩ rfl; clear hS9)
            go_meet
            case rel => exact hS10.mono (by omega)
          · rw [oneP, if_neg (show ¬ (4 : Int) = 1 by decide), if_neg (show ¬ (4 : Int) = 2 by decide), if_neg (show ¬ (4 : Int) = 3 by decide)] at hone
            simp only at hone
            have hsqk : sumQ (st.lay s.data.toList) = sq := by rw [hky]; exact HSQ.out.symm
            rw [hsqk] at hone
            by_cases hmore : sq < q
            · rw [if_pos (by omega), hgv] at hone
              obtain ⟨m, hm⟩ : ∃ m, m = (q - sq) * gv := ⟨_, rfl⟩
              have hmb : 0 ≤ m ∧ m ≤ 1000000000000 := by
                rw [hm]
                exact ⟨Int.mul_nonneg (by omega) hg0, Int.le_trans (Int.mul_le_mul (show q - sq ≤ 100000 by omega) hg1 hg0 (by omega)) (by omega)⟩
              have HMW : Hid (IntKind.i64.wrap ((q - sq) * gv) = m) := by show _ = _; rw [← hm, IntKind.wrap_i64]; omega
              have HMW2 : Hid (wrap64 ((q - sq) * gv) = m) := by show _ = _; rw [← hm, wrap64_id _ hmb.1 hmb.2]
              have HQW : Hid (IntKind.i64.wrap (q - sq) = q - sq) := by show _ = _; rw [IntKind.wrap_i64]; omega
              have HQW2 : Hid (wrap64 (q - sq) = q - sq) := IntWalk.wrap64_in _ ⟨by omega, by omega⟩
              rw [← hm] at hone
              injection hone with h1 h2
              subst h1 h2
              clear hm
              go_upto_region 26 with fail
              have hS1 := hS.below (Below.refl _ w6).drew
              generalize hW1 : w6.drew = W1 at hS1
              have hlk1 := hS1.s.q.looki s hmax
              rw [hgv] at hlk1
              refine wp_region_held_drew (S := fun W => W.heap[E]? = some (Evt.ob ⟨i, s, 4, q, 0, 0, d⟩) ∧ (Instr.lookup 92 (.map (some (B + 3))) (.string s) false).run Tryz.prog W = .ok (.int .i64 gv) W) (by kernel_rfl) (by rw [hW1]; exact ⟨hS1.e, hlk1⟩) (fun hHeld => ?_)
              rw [hW1] at hHeld ⊢
              clear hW1 hS hlk1
              refine wpAnyH_take (i := 0) (v := ?_) rfl (by kernel_rfl) (by kernel_rfl) (by kernel_rfl) (fun _ _ _ h => h) (Or.inl ⟨by rfl, ?_⟩) hHeld ?_
              rotate_left
              · intro W hSw; go_simp; try (with_reducible rfl)
              refine wpAnyH_take (i := 1) (v := ?_) rfl (by kernel_rfl) (by kernel_rfl) (by kernel_rfl) (fun _ _ _ h => h) (Or.inl ⟨by rfl, ?_⟩) hHeld ?_
              rotate_left
              · intro W hSw; obtain ⟨d0, d1, d2, d3, d4, d5, d6⟩ := ev_cells hSw.1; go_simp; try (with_reducible rfl)
              refine wpAnyH_take (i := 2) (v := ?_) rfl (by kernel_rfl) (by kernel_rfl) (by kernel_rfl) (fun _ _ _ h => h) (Or.inl ⟨by rfl, ?_⟩) hHeld ?_
              rotate_left
              · intro W hSw; go_simp; try (with_reducible rfl)
              refine wpAnyH_take (i := 3) (v := ?_) rfl (by kernel_rfl) (by kernel_rfl) (by kernel_rfl) (fun _ _ _ h => h) (Or.inl ⟨by rfl, ?_⟩) hHeld ?_
              rotate_left
              · intro W hSw; have hqw := HQW.out; have hqw2 := HQW2.out; go_simp; try (with_reducible rfl)
              try simp only [HQW.out, HQW2.out]
              refine wpAnyH_take (i := 4) (v := ?_) rfl (by kernel_rfl) (by kernel_rfl) (by kernel_rfl) (fun _ _ _ h => h) (Or.inl ⟨by rfl, ?_⟩) hHeld ?_
              rotate_left
              · intro W hSw; go_simp; try (with_reducible rfl)
              refine wpAnyH_take (i := 5) (v := ?_) rfl (by kernel_rfl) (by kernel_rfl) (by kernel_rfl) (fun _ _ _ h => h) (Or.inl ⟨by rfl, ?_⟩) hHeld ?_
              rotate_left
              · intro W hSw; go_simp; try (with_reducible rfl)
              refine wpAnyH_take (i := 6) (v := ?_) rfl (by kernel_rfl) (by kernel_rfl) (by kernel_rfl) (fun _ _ _ h => h) (Or.inl ⟨by rfl, ?_⟩) hHeld ?_
              rotate_left
              · intro W hSw; obtain ⟨d0, d1, d2, d3, d4, d5, d6⟩ := ev_cells hSw.1; go_simp; try (with_reducible rfl)
              refine wpAnyH_take (i := 7) (v := ?_) rfl (by kernel_rfl) (by kernel_rfl) (by kernel_rfl) (fun _ _ _ h => h) (Or.inl ⟨by rfl, ?_⟩) hHeld ?_
              rotate_left
              · intro W hSw; have hlk := hSw.2; go_simp; try (with_reducible rfl)
              refine wpAnyH_take (i := 8) (v := ?_) rfl (by kernel_rfl) (by kernel_rfl) (by kernel_rfl) (fun _ _ _ h => h) (Or.inl ⟨by rfl, ?_⟩) hHeld ?_
              rotate_left
              · intro W hSw; have hmw := HMW.out; have hmw2 := HMW2.out; go_simp; try (with_reducible rfl)
              try simp only [HMW.out, HMW2.out]
              refine wpAnyH_take (i := 9) (v := ?_) rfl (by kernel_rfl) (by kernel_rfl) (by kernel_rfl) (fun _ _ _ h => h) (Or.inl ⟨by rfl, ?_⟩) hHeld ?_
              rotate_left
              · intro W hSw; go_simp; try (with_reducible rfl)
              have hS2 := hS1.setx 4 (.bool true) ⟨i, 0, 0, 0, true⟩ rfl
              obtain ⟨k0, k1, k2, k3, k4, f0, f1, f2, f3, f4⟩ := ln_cells hS1.x
              have hlk2 := hS2.s.q.looki s hmax
              rw [hgv] at hlk2
              refine wpAnyH_ready (rs := [10]) (by kernel_rfl) (by simp) (AllReadyH.cons rfl (fun K hK => ?_) AllReadyH.nil)
              go_simp
              refine hK.out _ _ ⟨hS2.e, hlk2⟩ (fun hHeld => ?_)
              clear hK K
              clear k0 k1 k2 k3 k4 f0 f1 f2 f3 f4 hS1 hlk2
              generalize W1.setCell ⟨X, 4, none⟩ (.bool true) = W2 at hS2 hHeld ⊢
              refine wpAnyH_take (i := 11) (v := ?_) rfl (by kernel_rfl) (by kernel_rfl) (by kernel_rfl) (fun _ _ _ h => h) (Or.inl ⟨by rfl, ?_⟩) hHeld ?_
              rotate_left
              · intro W hSw; go_simp; try (with_reducible rfl)
              have hS3 := hS2.setx 1 (.int .i64 m) ⟨i, m, 0, 0, true⟩ rfl
              obtain ⟨k0, k1, k2, k3, k4, f0, f1, f2, f3, f4⟩ := ln_cells hS2.x
              have hlk3 := hS3.s.q.looki s hmax
              rw [hgv] at hlk3
              refine wpAnyH_ready (rs := [12]) (by kernel_rfl) (by simp) (AllReadyH.cons rfl (fun K hK => ?_) AllReadyH.nil)
              go_simp
              refine hK.out _ _ ⟨hS3.e, hlk3⟩ (fun hHeld => ?_)
              clear hK K
              clear k0 k1 k2 k3 k4 f0 f1 f2 f3 f4 hS2 hlk3
              generalize W2.setCell ⟨X, 1, none⟩ (.int .i64 m) = W3 at hS3 hHeld ⊢
              refine wpAnyH_done (by kernel_rfl) ?_ _
              have HL := Lib.hid (hS3.layC hmax hc2k hll3 (q - sq) m)
              obtain ⟨d0, d1, d2, d3, d4, d5, d6⟩ := ev_cells hS3.e
              obtain ⟨k0, k1, k2, k3, k4, f0, f1, f2, f3, f4⟩ := ln_cells hS3.x
              clear hS3
              go_wp2_with (go_at_call 37; refine HL.out.mono ?_; rintro r w9 ⟨rfl, hS9⟩)
              go_meet
              case rel => exact hS9.mono (Nat.le_succ _)
            · rw [if_neg (by omega), show -(q - sq) = sq - q by omega] at hone
              have HT := Lib.hid (hS.takeC hmax hc2k hll3 hgd3 (sq - q) (by omega) (by omega) HNW.out)
              simp only [Evt.key] at HT
              generalize takeP (st.lay s.data.toList) (sq - q) = tp at HT hone
              obtain ⟨tv, tm, tl⟩ := tp
              simp only at HT hone
              injection hone with h1 h2
              subst h1 h2
              clear hS
              go_wp2_with (go_at_call 38; refine HT.out.mono ?_; rintro r w9 ⟨rfl, hS9⟩; obtain ⟨k0, k1, k2, k3, k4, f0, f1, f2, f3, f4⟩ := ln_cells hS9.x; have hS10 := hS9.setx 1 (.int .i64 tv) ⟨i, tv, 0, 0, false⟩ rfl; clear hS9)
              go_meet
              case rel => exact hS10.mono (by omega)
        case rest =>
          clear hS HONE
          obtain ⟨i0, hinf, hiz, his, hib⟩ := info_parts info_ln
          have hln2 : lns.length ≤ 140 := by omega
          obtain ⟨k0, k1, k2, k3, k4, f0, f1, f2, f3, f4⟩ := ln_cells hcut.out.x
          obtain ⟨r0, rr1, rf0, rf1⟩ := rr_cells hcut.out.s.r
          have hsz9 := hcut.out.s.bel.size
          go_wp2_with (first
            | (at_builtin; refine app_one (w := wc) rfl (.tmp 161) (.tmp 163) 25 rfl w.heap.size 33 i0 (.agg #[.int .i64 0, .int .i64 0, .int .i64 0, .int .i64 0, .bool false]) 5 40 Tryz.underlying25 hinf hiz his hib rfl (by decide) _ _ _ hcut.out.s.ln rfl ln.cells rfl rfl (one_ln _) (by unfold maxLen; omega) (by omega) hsz9 ?_; intro v7 w7 ho7 hg7; have r7 := (hg7.block _ (Array.getElem?_eq_some_iff.1 hcut.out.s.r).1 (fun e => own_nx hcut.out.s.ln hcut.out.s.r (by decide) e.symm)).trans hcut.out.s.r; obtain ⟨q0, q1, q2, q3⟩ := rr_cells r7; have hrq := Lib.hid (hcut.out.s.app hg7 ho7); obtain ⟨a7, c7, rfl⟩ := own_slice ho7; clear k0 k1 k2 k3 k4 f0 f1 f2 f3 f4 r0 rr1 rf0 rf1))
          go_roundg (es'.length - (k + 1))
          case measure => omega
          case rel =>
            refine ⟨k + 1, .slice a7 (lns.length + 1) c7, hlt, by first | rfl | go_num | (congr 1; omega), Nat.le_refl _, (show Aside _ from ?_)⟩
            have hS := HSNO.out
            simp only [if_true] at hS
            rw [hS]
            exact hrq.out
    · have hltz : ¬ (k : Int) < (es'.length : Int) := by omega
      have hke : k = es'.length := by omega
      subst hke
      rw [List.take_length] at HRI
      generalize hrp : runP stk0 es' = rp at HRI
      have HRP := Lib.hid hrp
      clear hrp
      obtain ⟨lns, st⟩ := rp
      simp only at HRI
      obtain ⟨xa, xc, rfl⟩ := own_slice HRI.out.ln
      have K := Go.Maps.string_keyed (P := Tryz.prog) Tryz.underlying9
      obtain ⟨ne, ⟨ks, f, m1, m2, m3, m4⟩, -⟩ := HRI.out.q
      obtain ⟨w1, hrun, hmr, hb1, hz1⟩ := m1.range K Tryz.underlying26
      have hb1' : Li (B + 1) (B + 3) wr w1 := Li.of_below hb1
      have hbl : B + 1 < wr.heap.size := m1.lt
      have HSL : Hid (∀ l, RdY w1 (f (.string l)) (st.lay l)) := fun l => (rdY_of_own (m3 l)).below hb1
      have HM := MD.of hmr
      obtain ⟨r, hr⟩ : ∃ r, r = wr.heap.size := ⟨_, rfl⟩
      rw [← hr] at hrun HM
      have hrl : wr.heap.size ≤ r := by omega
      obtain ⟨r0, rr1, rf0, rf1⟩ := rr_cells HRI.out.r
      have HH := Lib.hid HRI.out
      clear hmr hr m1 m2 m3 m4 hb1 hz1 HRI
      go_wp2_with fail
      clear r0 rr1 rf0 rf1 hrun
      go_loopg [12] ks.length (fun kx _ wi => ∃ (ks' rest : List Lit) (f' : Lit → Value), Aside (MD Tryz.prog 9 (.slice none 0 0) wi (B + 1) r ks' f' rest) ∧ rest.length ≤ kx ∧ Hid (∀ l, RdY wi (f' (.string l)) (st.lay l)) ∧ Hid (∀ x ∈ ks', x ∈ rest ∨ ∃ l, x = .string l ∧ st.lay l ≠ []) ∧ Li (B + 1) (B + 3) wr wi)
      case atStart => exact ⟨ks, ks, f, HM, Nat.le_refl _, HSL, fun x hx => .inl hx, hb1'⟩
      case round =>
        clear HM HSL hb1'
        obtain ⟨ks', rest, f', HM, hkx, HS, HK, hli⟩ := hrel
        rcases HM.out.next K 0 with ⟨rfl, hnx⟩ | ⟨key, kl, w2, hkey, hkr, hnx, hm2, hg2, hz2, hen⟩
        · have y8 := hli.heap HH.out.r (by omega) (by omega)
          have q8 := hli.heap HH.out.t2 (by omega) (by omega)
          have o8 := own_li HH.out.ln hli HH.out.q.no_bl HH.out.q.no_bm
          have hkp : Kept wr (B + 1) st.lay := ⟨ks', f', HM.out.mv, HS.out, fun x hx => (HK.out x hx).resolve_left (by simp)⟩
          have hb8 : Below w.heap.size w wr := hli.below HH.out.bel (by omega) (by omega) HH.out.bel.size
          rw [← HBE.out] at q8
          obtain ⟨k0, k1, k2, k3⟩ := rr_cells y8
          obtain ⟨j0, j1, j2, j3⟩ := rr_cells q8
          have hnxt : (Value.slice xa lns.length xc).ownBlock ≠ some B := own_nx o8 q8 (by decide)
          have HZ := Lib.hid (And.intro q8 (And.intro o8 (And.intro hkp (And.intro hb8 hnxt))))
          clear y8 q8 o8 hkp hb8 hnxt HS HK HM
          go_wp2_with fail
          obtain ⟨q8, o8, hkp, hb8, hnxt⟩ := HZ.out
          have hgB := gb_trans (gb_set wr B 0 (.slice xa lns.length xc)) (gb_set _ _ 1 (.map (some (B + 1))))
          refine bodyPost_ret (v := .agg #[.slice xa lns.length xc, .map (some (B + 1))]) ?res rfl ⟨_, B + 1, rfl, ?_, ?_, by omega, ?_⟩
          case res => simp [results, Tryz.results7, go_sem, j0, j1]
          · rw [HRP.out]
            exact own_gbx o8 hgB hnxt
          · rw [HRP.out]
            exact hkp.turn hgB q8 (by decide)
          · exact (hb8.setCell (p := ⟨B, 0, none⟩) (by show w.heap.size ≤ B; omega) _).setCell (p := ⟨B, 1, none⟩) (by show w.heap.size ≤ B; omega) _
        · obtain ⟨x, rfl, rfl, -⟩ := Maps.keyOf_str Tryz.underlying9 hkey
          have hr2 : ∀ l, RdY w2 (f' (.string l)) (st.lay l) := fun l => (HS.out l).other hg2 (fun cur t fz => HM.out.nocells cur t fz)
          have hli2 := hli.turn hg2 hrl
          obtain ⟨a, cc, hv, -⟩ := HS.out x
          rw [hv] at hnx hen
          have hnk : (Lit.string x) ∉ rest.erase (.string x) := fun h => (HM.out.rnd.mem_erase_iff.1 h).1 rfl
          have hlen : (rest.erase (.string x)).length + 1 = rest.length := by
            have := List.length_erase_of_mem hkr
            have := List.length_pos_of_mem hkr
            omega
          obtain ⟨len, hlq⟩ : ∃ len, len = (st.lay x).length := ⟨_, rfl⟩
          rw [← hlq] at hnx hen
          have HLQ := Lib.hid hlq
          clear hlq
          unfold encStr at hnx hen
          obtain ⟨k0, k1, k2, k3⟩ := rr_cells (hli2.heap HH.out.r (by omega) (by omega))
          by_cases h0 : len = 0
          · subst h0
            obtain ⟨w3, hrun3, hm3, hg3⟩ := hm2.del (ty := 0) K Tryz.underlying26 hkey hnk
            unfold encStr at hrun3
            have hli3 := hli2.trans (Li.of_grown hg3 (.inl rfl))
            have hr3 : ∀ l, RdY w3 (upd f' (.string x) (.slice none 0 0) (.string l)) (st.lay l) := fun l => by
              by_cases e : l = x
              · subst e
                rw [upd_same, List.length_eq_zero_iff.1 HLQ.out.symm]
                exact RdY.nil _
              · rw [upd_other _ _ (fun h => e (by injection h))]
                exact (hr2 l).other hg3 (fun cur t fz => mv_nocells hm2.mv cur t fz)
            have HR3 := Lib.hid hr3
            have HM3 : Aside _ := hm3
            have HL3 := Lib.hid hli3
            clear hr3 hm3 hli3 hr2 hm2 hli2 hg2 hg3 hkey
            go_wp2_with fail
            go_roundg (rest.erase (.string x)).length
            case measure => omega
            case rel =>
              refine ⟨_, _, _, HM3, Nat.le_refl _, HR3, (show Hid _ from fun y hy => ?_), HL3.out⟩
              have hy2 := HM.out.nd.mem_erase_iff.1 hy
              rcases HK.out y hy2.2 with h | h
              · exact .inl (HM.out.rnd.mem_erase_iff.2 ⟨hy2.1, h⟩)
              · exact .inr h
          · have h0b : ((len : Int) == 0) = false := by simp; omega
            have HR2 := Lib.hid hr2
            have HM2 : Aside _ := hm2
            have HL2 := Lib.hid hli2
            have hne : st.lay x ≠ [] := fun e => h0 (by rw [HLQ.out, e]; rfl)
            have HNE := Lib.hid hne
            clear hr2 hm2 hli2 hg2 hkey hne
            go_wp2_with fail
            go_roundg (rest.erase (.string x)).length
            case measure => omega
            case rel =>
              refine ⟨_, _, _, HM2, Nat.le_refl _, HR2, (show Hid _ from fun y hy => ?_), HL2.out⟩
              rcases HK.out y hy with h | h
              · by_cases e : y = .string x
                · exact .inr ⟨x, e, HNE.out⟩
                · exact .inl (HM.out.rnd.mem_erase_iff.2 ⟨e, h⟩)
              · exact .inr h
end Go.Proofs.YtpbbbiifeihkaaaGreatDoor
