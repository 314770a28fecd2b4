/- CostConserves: the law's own walk. -/
import Derived.Test.YtefbedineniejaaDoorCvR
import Derived.Test.YtefbedineniejaaDoorOpenEs
namespace Go.Proofs.YtefbedineniejaaDoor
open Go.RowKit
open Go.Maps (Keyed)
set_option linter.unusedVariables false

theorem res_keep {w : World} {b : Nat} {va m : Value} (h : w.heap[b]? = some (.cells #[va, m] 43 (0, 0))) {w' : World} (hb : Below w.heap.size w w') : w'.cell? ⟨b, 0, none⟩ = some va ∧ w'.cell? ⟨b, 1, none⟩ = some m := by
  have := (hb.block _ (Array.getElem?_eq_some_iff.1 h).1).trans h
  simp [World.cell?, this]
set_option maxHeartbeats 4000000 in
set_option maxRecDepth 100000 in
theorem costConserves_any (v : Value) (es : List Evt) (w : World) (hr : RdE w.heap.size w v es) (hsz : ∀ e ∈ es, e.item.size ≤ 9223372036854775807) (hlen : es.length ≤ 9223372036854775807) :
    Calls Tryd.prog 5 #[v] w (Gives (.bool true) w) := by
  have HH := Lib.hid (held_any w.heap.size v es w hr (Nat.le_refl _) hsz hlen)
  by_cases hH : (decide (es.length ≤ 40) && !es.any fun e => decide (60 < e.item.size)) = true
  case neg =>
    rw [Bool.not_eq_true] at hH
    rw [hH] at HH
    clear hr hsz hlen hH
    go_enter Tryd.func5, Tryd.ntmps5
    go_wp2_with fail
    refine HH.out.mono ?_
    rintro e w1 ⟨rfl, hb1⟩
    go_wp2_with fail
    go_ret
    exact ⟨rfl, hb1⟩
  rw [hH] at HH
  have h40 : es.length ≤ 40 := by
    simp only [Bool.and_eq_true, decide_eq_true_eq] at hH
    exact hH.1
  have h60 : ∀ e ∈ es, e.item.size ≤ 60 := by
    simp only [Bool.and_eq_true, Bool.not_eq_true', List.any_eq_false, decide_eq_true_eq] at hH
    intro e he
    have := hH.2 e he
    omega
  have HR := Lib.hid hr
  have HSZ : Hid (∀ e ∈ es, e.item.size ≤ 1000000) := Lib.hid fun e he => Nat.le_trans (h60 e he) (by omega)
  clear hr hsz hlen hH h60
  go_enter Tryd.func5, Tryd.ntmps5
  go_wp2_with fail
  refine HH.out.mono ?_
  rintro e w1 ⟨rfl, hb1⟩
  go_wp2_with fail
  refine (told_any w1).mono ?_
  rintro e w2 ⟨rfl, hb2⟩
  have B2 := hb1.step hb2
  go_wp2_with fail
  refine (numbered_any w.heap.size v es w2 (HR.out.below B2) B2.size HSZ.out (by omega)).mono ?_
  rintro e w3 ⟨v3, rfl, ho3, hb3⟩
  have B3 := B2.step hb3
  have R3 : RdE w3.heap.size w3 v3 (numF es) := rdE_of_own ho3 rfl
  have n40 : (numF es).length ≤ 40 := Nat.le_trans (numF_len es) h40
  have NR := Lib.hid (numF_right es)
  have NU := Lib.hid (numF_uniq es).1
  have NSZ : Hid (∀ e ∈ numF es, e.item.size ≤ 1000000) := Lib.hid fun e he => by have := (right_bd (NR.out e he)).1; omega
  clear ho3 HR HSZ HH hb1 hb2 hb3 B2
  obtain ⟨N, hN⟩ : ∃ N, N = numF es := ⟨_, rfl⟩
  rw [← hN] at R3 n40 NR NSZ NU
  clear hN h40
  obtain ⟨a3, c3, rfl⟩ := R3.shape
  have HR3 := Lib.hid R3
  clear R3
  go_wp2_with fail
  refine (items_any _ _ N w3 HR3.out (Nat.le_refl _) (by omega)).mono ?_
  rintro e w4 ⟨v4, rfl, ho4, hb4⟩
  obtain ⟨ia, ic, rfl, hi4, -, -⟩ := rd_of_own ho4
  have IL := itemF_len N
  have HIM := Lib.hid (itemF_mem N)
  obtain ⟨its, hits⟩ : ∃ its, its = itemF N := ⟨_, rfl⟩
  rw [← hits] at IL HIM hi4 ⊢
  clear hits ho4
  obtain ⟨R, hRz⟩ : ∃ R, R = w4.heap.size := ⟨_, rfl⟩
  obtain ⟨W5, hW5⟩ : ∃ W5, W5 = w4.alloc (.cells #[.slice ia its.length ic] 45) := ⟨_, rfl⟩
  have hb5 : Below w4.heap.size w4 W5 := by rw [hW5]; exact (Below.refl _ w4).new _
  have hcR : W5.cell? ⟨R, 0, none⟩ = some (.slice ia its.length ic) := by rw [hW5, hRz]; exact new_at w4 _ _ 0 _ rfl
  have hz5 : W5.heap.size = R + 1 := by rw [hW5, hRz]; simp
  have hi5 := hi4.below hb5
  have B5 : Below w.heap.size w W5 := (B3.step hb4).step hb5
  have HR5 : Hid (RdE W5.heap.size W5 (.slice a3 N.length c3) N) := Lib.hid ((HR3.out.below (hb4.step hb5)).mono (Nat.le_trans hb4.size hb5.size))
  have HI5 := Lib.hid hi5
  have HCR := Lib.hid hcR
  have HW5 := Lib.hid hW5
  have HRZ := Lib.hid hRz
  have HZ5 := Lib.hid hz5
  have hRl : R < W5.heap.size := by omega
  clear hi4 hi5 hcR hW5 hb4 hb5 HR3 B3 hz5 hRz
  go_wp2_with fail
  rw [← HW5.out, ← HRZ.out]
  go_loopg [4] its.length (fun kx s4 wr => ∃ (k I : Nat), s4 = .pointer (some ⟨I, 0, none⟩) ∧ W5.heap.size ≤ I ∧ wr.cell? ⟨I, 0, none⟩ = some (.int .i64 k) ∧ wr.frozen? ⟨I, 0, none⟩ = false ∧ k ≤ its.length ∧ its.length - k ≤ kx ∧ Below W5.heap.size W5 wr)
  case atStart => exact ⟨0, R + 1, rfl, by rw [HZ5.out]; exact Nat.le_refl _, by have := new_at W5 #[.int .i64 0] 3 0 _ rfl; rw [HZ5.out] at this; exact this, by rw [← HZ5.out]; simp, by omega, by omega, (Below.refl _ W5).new _⟩
  case round =>
    obtain ⟨k, I, rfl, hI, hcI, hfI, hk, hkx, hb⟩ := hrel
    obtain ⟨wo, rfl⟩ : ∃ wo : World, wo = wr := ⟨_, rfl⟩
    have hIw : I < wo.heap.size := cell_lt hcI
    have hcR := (hb.cell (p := ⟨R, 0, none⟩) hRl).trans HCR.out
    have hRw : R < wo.heap.size := Nat.lt_of_lt_of_le hRl hb.size
    by_cases hlt : k < its.length
    · have hltz : (k : Int) < (its.length : Int) := by omega
      obtain ⟨ib, io, rfl, hci⟩ := Rd.strs HI5.out k hlt
      have hib : ib < W5.heap.size := cell_lt hci
      obtain ⟨s, hs⟩ : ∃ s, s = its.getD k ByteArray.empty := ⟨_, rfl⟩
      have HM : Hid (∃ e ∈ N, e.item = s) := Lib.hid (HIM.out s (by rw [hs, List.getD_eq_getElem?_getD, List.getElem?_eq_getElem hlt]; exact List.getElem_mem hlt))
      rw [← hs] at hci
      clear hs
      have hssz : s.size ≤ 1000000 := by obtain ⟨e, he, rfl⟩ := HM.out; exact NSZ.out e he
      have hciw := (hb.cell (p := ⟨ib, io + k, none⟩) hib).trans hci
      have hibw : ib < wo.heap.size := Nat.lt_of_lt_of_le hib hb.size
      have HCL := Lib.hid (cloneE_any W5.heap.size (.slice a3 N.length c3) N wo (HR5.out.below hb) hb.size (by omega))
      have HCI := Lib.hid hcI
      have HCRw := Lib.hid hcR
      have HCIw := Lib.hid hciw
      have HFI := Lib.hid hfI
      clear hfI hci
      go_wp2_with fail
      refine HCL.out.mono ?_
      rintro e w6 ⟨v6, rfl, ho6, hb6⟩
      have HDL := Lib.hid (delE_any 25 #[.pointer (some ⟨R, 0, none⟩), .pointer (some ⟨I, 0, none⟩)] (fun e => !decide (e.item.data.toList = s.data.toList)) wo.heap.size v6 N w6 ho6 hb6.size (by omega) (enters_of Tryd.func25 (by kernel_rfl) rfl) (fun e he W hW => by
        have hW' := hb6.trans hW
        exact notItem_any e R I ib io its.length ic k s W ((hW'.cell (p := ⟨R, 0, none⟩) hRw).trans HCRw.out) ((hW'.cell (p := ⟨I, 0, none⟩) hIw).trans HCI.out) hlt ((hW'.cell (p := ⟨ib, io + k, none⟩) hibw).trans HCIw.out)))
      clear ho6 hcI hcR hciw
      go_wp2_with fail
      refine HDL.out.mono ?_
      rintro e w7 ⟨v7, rfl, ho7, hb7⟩
      have hb67 := hb6.trans hb7
      obtain ⟨M, hM⟩ : ∃ M, M = mineF N s := ⟨_, rfl⟩
      have hfil : (N.filter fun e => !(!decide (e.item.data.toList = s.data.toList))) = M := by rw [hM, mineF]; congr 1; funext e; simp
      rw [hfil] at ho7
      have M40 : M.length ≤ 40 := by rw [hM, mineF]; exact Nat.le_trans (List.length_filter_le _ _) n40
      have MR : Hid (∀ e ∈ M, e.right = true) := Lib.hid fun e he => NR.out e (by rw [hM] at he; exact (List.mem_filter.1 he).1)
      have MSZ : Hid (∀ e ∈ M, e.item.size ≤ 1000000) := Lib.hid fun e he => NSZ.out e (by rw [hM] at he; exact (List.mem_filter.1 he).1)
      have HCV := Lib.hid (conserves N NU.out NR.out s)
      rw [← hM] at HCV
      have hRM : RdE w7.heap.size w7 v7 M := rdE_of_own ho7 rfl
      clear hfil hM ho7 HDL HCL
      obtain ⟨a7, c7, rfl⟩ := hRM.shape
      have HRM := Lib.hid hRM
      have HRUN := Lib.hid (run_any a7 M.length c7 M w7 hRM (by omega) MSZ.out)
      clear hRM
      go_wp2_with fail
      refine HRUN.out.mono ?_
      rintro e w8 ⟨va, bl, rfl, ho8, hk8, -, hb8⟩
      obtain ⟨xa, xc, rfl⟩ := own_slice ho8
      obtain ⟨ls, hls⟩ : ∃ ls, ls = endN M := ⟨_, rfl⟩
      have hnl : ls.length = M.length := by rw [hls]; exact endN_len M MR.out
      have HLV : Hid (∀ x ∈ ls, 0 ≤ x.value ∧ x.value ≤ 14000000000000) := Lib.hid (by rw [hls]; exact fun x hx => ⟨(HCV.out.2.1 x hx).1, end_val M (by omega) x hx⟩)
      rw [show (runP stk0 (Stb.isort leE M)).1 = ls from hls.symm] at ho8 ⊢
      rw [hnl] at ho8 ⊢
      rw [← hls] at HCV
      clear hls
      obtain ⟨W9, hW9⟩ : ∃ W9, W9 = w8.alloc (.cells #[.slice xa M.length xc, .map (some bl)] 43) := ⟨_, rfl⟩
      obtain ⟨X, hX⟩ : ∃ X, X = w8.heap.size := ⟨_, rfl⟩
      have hb9 : Below w8.heap.size w8 W9 := by rw [hW9]; exact (Below.refl _ w8).new _
      have hc9 : W9.heap[X]? = some (.cells #[.slice xa M.length xc, .map (some bl)] 43 (0, 0)) := by rw [hW9, hX]; exact World.alloc_heap_new _ _
      have HK9 := Lib.hid (hk8.below hb9)
      have HO9 := Lib.hid (own_below ho8 hb9)
      have HM9 := Lib.hid (HRM.out.below (hb8.step hb9))
      have b79 := hb8.step hb9
      have HC9 := Lib.hid hc9
      have HX := Lib.hid hX
      have HW9 := Lib.hid hW9
      clear ho8 hk8 hb9 hc9 hX hW9 HRUN hb8
      have hsu := sums_any w7.heap.size (.slice a7 M.length c7) M w7.heap.size xa xc (.map (some bl)) ls W9 HM9.out b79.size (by omega) (by rw [hnl]; exact HO9.out) (by omega) HLV.out ⟨_, rfl⟩
      rw [hnl] at hsu
      have HSU := Lib.hid hsu
      have HNL := Lib.hid hnl
      clear hnl hsu
      go_wp2_with fail
      rw [← HX.out, ← HW9.out]
      refine HSU.out.mono ?_
      rintro e w10 ⟨rfl, hb10⟩
      obtain ⟨⟨A, B, C, D⟩, hABC⟩ : ∃ q, q = sumF M ls := ⟨_, rfl⟩
      have hbd : Bd4 (0 + ls.length) (sumF M ls) := bd4_run ls HLV.out (0, 0, 0, 0) 0 ⟨by simp, by simp, by simp, by simp⟩
      rw [HNL.out] at hbd
      have hnet := HCV.out.1
      rw [← hABC] at hbd hnet ⊢
      clear hABC
      simp only [Bd4, net] at hbd hnet
      obtain ⟨⟨A1, A2⟩, ⟨B1, B2⟩, ⟨C1, C2⟩, ⟨D1, D2⟩⟩ := hbd
      obtain ⟨hgd, hgl⟩ := end_good M (by omega) s.data.toList
      obtain ⟨q, hq⟩ : ∃ q, q = sumQ ((endS M).lay s.data.toList) := ⟨_, rfl⟩
      obtain ⟨vv, hvv⟩ : ∃ vv, vv = sumV ((endS M).lay s.data.toList) := ⟨_, rfl⟩
      have B10 : Below wo.heap.size wo w10 := ((hb67.step b79)).step hb10
      have b910 : Below W9.heap.size W9 w10 := hb10
      have HS : Hid (∀ p : Since w10, Calls Tryd.prog 19 #[.agg #[.slice xa M.length xc, .map (some bl)], .string s] p.w' fun e w' => e = .returned (.tuple #[.int .i64 q, .int .i64 vv]) ∧ Below p.w'.heap.size p.w' w') := Lib.hid fun p => by
        rw [hq, hvv]
        exact sum_any _ bl _ s p.w' ⟨_, _, _, rfl⟩ (HK9.out.below (b910.step p.h)) (by unfold maxLen; omega) hgd (Nat.le_trans hgl (by omega))
      have hv0 := sumV_nn hgd.1
      rw [← hvv] at hv0 hnet
      have hneq : (A + D - B - C != vv) = false := by simp [hnet]
      have hvb : vv ≤ 20000000000000 := by rw [hvv]; exact hgd.2
      have HGD := Lib.hid hgd
      have HGL := Lib.hid hgl
      clear hq hvv hgd hgl hnet
      have hcX : ∀ p : Since w10, p.w'.cell? ⟨X, 0, none⟩ = some (.slice xa M.length xc) ∧ p.w'.cell? ⟨X, 1, none⟩ = some (.map (some bl)) := fun p => res_keep HC9.out (b910.step p.h)
      have hcR : ∀ p : Since w10, p.w'.cell? ⟨R, 0, none⟩ = some (.slice (some ⟨ib, io, none⟩) its.length ic) := fun p => ((B10.step p.h).cell (p := ⟨R, 0, none⟩) hRw).trans HCRw.out
      have hcI : ∀ p : Since w10, p.w'.cell? ⟨I, 0, none⟩ = some (.int .i64 k) := fun p => ((B10.step p.h).cell (p := ⟨I, 0, none⟩) hIw).trans HCI.out
      have hcS : ∀ p : Since w10, p.w'.cell? ⟨ib, io + k, none⟩ = some (.string s) := fun p => ((B10.step p.h).cell (p := ⟨ib, io + k, none⟩) hibw).trans HCIw.out
      go_wp2_with fail
      refine wp_region_since (by kernel_rfl) (by kernel_rfl) ?_
      repeat (quiet_step (with_reducible exact Calls.since_of (HS.out _)))
      refine wpQuiet_nil ?_
      intro w11 hw'
      obtain ⟨p, hp⟩ := hw'
      have b911 : Below W9.heap.size W9 w11 := by rw [hp]; exact b910.step p.h
      have B11 : Below wo.heap.size wo w11 := by rw [hp]; exact B10.step p.h
      clear hp p hcX hcR hcI hcS HS
      obtain ⟨c110, c111⟩ := res_keep HC9.out b911
      have hXw : X < w11.heap.size := Nat.lt_of_lt_of_le (Array.getElem?_eq_some_iff.1 HC9.out).1 b911.size
      go_wp2_with fail
      obtain ⟨vl, hvl, look⟩ := HK9.out.looks s (by unfold maxLen; omega)
      obtain ⟨la, lc, rfl, -⟩ := id hvl
      obtain ⟨Ly, hLy⟩ : ∃ Ly, Ly = (endS M).lay s.data.toList := ⟨_, rfl⟩
      have hvl' : RdY W9 (.slice la Ly.length lc) Ly := by rw [hLy]; exact hvl
      have look' : ∀ W, Below W9.heap.size W9 W → (Instr.lookup 41 (.map (some bl)) (.string s) false).run Tryd.prog W = .ok (.slice la Ly.length lc) W := by rw [hLy]; exact look
      rw [← hLy] at HGD HGL
      have HLL := Lib.hid (HCV.out.2)
      rw [← hLy] at HLL
      have HVL := Lib.hid hvl'
      clear hvl look hLy hvl'
      have hcX : ∀ p : Since w11, p.w'.cell? ⟨X, 0, none⟩ = some (.slice xa M.length xc) ∧ p.w'.cell? ⟨X, 1, none⟩ = some (.map (some bl)) := fun p => res_keep HC9.out (b911.step p.h)
      have hcR : ∀ p : Since w11, p.w'.cell? ⟨R, 0, none⟩ = some (.slice (some ⟨ib, io, none⟩) its.length ic) := fun p => ((B11.step p.h).cell (p := ⟨R, 0, none⟩) hRw).trans HCRw.out
      have hcI : ∀ p : Since w11, p.w'.cell? ⟨I, 0, none⟩ = some (.int .i64 k) := fun p => ((B11.step p.h).cell (p := ⟨I, 0, none⟩) hIw).trans HCI.out
      have hcS : ∀ p : Since w11, p.w'.cell? ⟨ib, io + k, none⟩ = some (.string s) := fun p => ((B11.step p.h).cell (p := ⟨ib, io + k, none⟩) hibw).trans HCIw.out
      have hlk := fun p : Since w11 => look' p.w' (b911.step p.h)
      clear look'
      refine wp_region_since (by kernel_rfl) (by kernel_rfl) ?_
      repeat (quiet_step (fail))
      refine wpQuiet_nil ?_
      intro w12 hw'
      obtain ⟨p, hp⟩ := hw'
      have b912 : Below W9.heap.size W9 w12 := by rw [hp]; exact b911.step p.h
      have B12 : Below wo.heap.size wo w12 := by rw [hp]; exact B11.step p.h
      clear hp p hcX hcR hcI hcS hlk c110 c111 hXw
      go_wp2_with fail
      have hL140 : Ly.length ≤ 140 := HGL.out
      go_loopg [14] Ly.length (fun ky s14 wr => ∃ j : Nat, s14 = .int .i64 j ∧ j ≤ Ly.length ∧ Ly.length - j ≤ ky ∧ wr = w12)
      case atStart => exact ⟨0, rfl, by omega, by omega, rfl⟩
      case round =>
        obtain ⟨j, rfl, hj, hjx, hwz⟩ := hrel
        rw [hwz]
        clear hwz
        by_cases hjl : j < Ly.length
        · have hjz : (j : Int) < (Ly.length : Int) := by omega
          obtain ⟨-, lb, lo, rfl, -, y1, y2⟩ := (HVL.out.below b912).at j hjl
          obtain ⟨g1, -, g3⟩ := HGD.out.1 Ly[j] (List.getElem_mem hjl)
          generalize Ly[j].qty = yq at y1 g1
          generalize Ly[j].val = yv at y2 g3
          have g1b : ¬ yq < 1 := by omega
          have g3b : ¬ yv < 0 := by omega
          go_wp2_with fail
          go_roundg (Ly.length - (j + 1))
          case measure => omega
          case rel => exact ⟨j + 1, by go_num, hjl, Nat.le_refl _, rfl⟩
        · have hjz : ¬ ((j : Int) < (Ly.length : Int)) := by omega
          go_wp2_with fail
          go_loopg [15] M.length (fun ky s15 wr => ∃ j : Nat, s15 = .int .i64 j ∧ j ≤ M.length ∧ M.length - j ≤ ky ∧ Below wo.heap.size wo wr ∧ Below W9.heap.size W9 wr)
          case atStart => exact ⟨0, rfl, by omega, by omega, B12, b912⟩
          case round =>
            obtain ⟨j, rfl, hj, hjx, Bz, bz⟩ := hrel
            obtain ⟨cx0, cx1⟩ := res_keep HC9.out bz
            have hXw : X < wr.heap.size := Nat.lt_of_lt_of_le (Array.getElem?_eq_some_iff.1 HC9.out).1 bz.size
            by_cases hjl : j < M.length
            · have hjz : (j : Int) < (M.length : Int) := by omega
              obtain ⟨xb, rfl, hxb, hcs⟩ := own_ln HO9.out j (by rw [HNL.out]; exact hjl)
              obtain ⟨x, hx⟩ : ∃ x, x = ls[j]'(by rw [HNL.out]; exact hjl) := ⟨_, rfl⟩
              have HXJ := Lib.hid hx
              obtain ⟨x0, x1, x2, x3, x4⟩ := hcs wr bz
              rw [← hx] at x0 x1 x2 x3 x4
              have hxw : xb < wr.heap.size := Nat.lt_of_lt_of_le hxb bz.size
              obtain ⟨v1, v2, v3⟩ := HLL.out.1 x (by rw [hx]; exact List.getElem_mem _)
              have HLX : Hid (j + 1 = M.length → 0 < x.short → Ly = []) := Lib.hid fun h1 h2 => HLL.out.2 x (by rw [List.getLast?_eq_getElem?, HNL.out, HXJ.out, show M.length - 1 = j by omega]; exact List.getElem?_eq_getElem _) h2
              clear hx hcs
              obtain ⟨W1, hW1⟩ : ∃ W1, W1 = wr.alloc (.cells #[.int .i64 x.id, .int .i64 x.value, .int .i64 x.short, .int .i64 x.late, .bool x.gain] 54) := ⟨_, rfl⟩
              have BZ1 : Below wo.heap.size wo W1 := by rw [hW1]; exact Bz.step ((Below.refl _ wr).new _)
              have bz1 : Below W9.heap.size W9 W1 := by rw [hW1]; exact bz.step ((Below.refl _ wr).new _)
              have HW1 := Lib.hid hW1
              clear hW1
              obtain ⟨xi, xv, xs, xl, xg⟩ := x
              simp only at x0 x1 x2 x3 x4 v1 v2 v3 HLX HW1
              have v1b : ¬ xv < 0 := by omega
              have v2b : ¬ xs < 0 := by omega
              have v3b : ¬ xl < 0 := by omega
              by_cases hs0 : 0 < xs
              · by_cases hj1 : j + 1 = M.length
                · have hL0 : Ly = [] := HLX.out hj1 hs0
                  have hL1 : Ly.length = 0 := by rw [hL0]; rfl
                  have hL2 : ¬ (0 : Int) < (Ly.length : Int) := by omega
                  have hje : ((j : Int) == (M.length : Int) - 1) = true := by simp; omega
                  clear hL0 hL1 hj1
                  go_wp2_with fail
                  go_roundg (M.length - (j + 1))
                  case measure => omega
                  case rel => exact ⟨j + 1, by go_num, hjl, Nat.le_refl _, by have h := BZ1; rw [HW1.out] at h; exact h, by have h := bz1; rw [HW1.out] at h; exact h⟩
                · have hje : ((j : Int) == (M.length : Int) - 1) = false := by simp; omega
                  go_wp2_with fail
                  go_roundg (M.length - (j + 1))
                  case measure => omega
                  case rel => exact ⟨j + 1, by go_num, hjl, Nat.le_refl _, by have h := BZ1; rw [HW1.out] at h; exact h, by have h := bz1; rw [HW1.out] at h; exact h⟩
              · go_wp2_with fail
                go_roundg (M.length - (j + 1))
                case measure => omega
                case rel => exact ⟨j + 1, by go_num, hjl, Nat.le_refl _, by have h := BZ1; rw [HW1.out] at h; exact h, by have h := bz1; rw [HW1.out] at h; exact h⟩
            · have hjz : ¬ ((j : Int) < (M.length : Int)) := by omega
              have hcIz := (Bz.cell (p := ⟨I, 0, none⟩) hIw).trans HCI.out
              have hIz : I < wr.heap.size := Nat.lt_of_lt_of_le hIw Bz.size
              go_wp2_with fail
              go_roundg (its.length - (k + 1))
              case measure => omega
              case rel =>
                refine ⟨k + 1, wr.heap.size, rfl, (hb.step Bz).size, ?_, by simp, hlt, Nat.le_refl _, (hb.step Bz).new _⟩
                rw [show ((k + 1 : Nat) : Int) = (k : Int) + 1 by omega]
                exact new_at wr #[.int .i64 ((k : Int) + 1)] 3 0 _ rfl
    · have hltz : ¬ ((k : Int) < (its.length : Int)) := by omega
      go_wp2
      go_ret
      exact ⟨rfl, B5.step hb⟩
theorem costConserves_go (v : Value) (es : List Evt) (w : World) (hr : RdE w.heap.size w v es) (hb : ∀ e ∈ es, EvBd e) (hl : es.length ≤ maxLen) :
    Calls Tryd.prog 5 #[v] w (Gives (.bool true) w) :=
  costConserves_any v es w hr (fun e he => (hb e he).1) hl
end Go.Proofs.YtefbedineniejaaDoor
