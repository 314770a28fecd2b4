/- CostApart: the law's own walk. -/
import Derived.Test.YtefbedineniejaaDoorApC
import Derived.Test.YtefbedineniejaaDoorOpenEs
namespace Go.Proofs.YtefbedineniejaaDoor
open Go.RowKit
open Go.Maps (Keyed)
set_option linter.unusedVariables false

theorem res_kpt {w : World} {b : Nat} {va m : Value} (h : w.heap[b]? = some (.cells #[va, m] 43 (0, 0))) {w' : World} (hb : Below w.heap.size w w') : w'.cell? ⟨b, 0, none⟩ = some va ∧ w'.cell? ⟨b, 1, none⟩ = some m := by
  have := (hb.block _ (Array.getElem?_eq_some_iff.1 h).1).trans h
  simp [World.cell?, this]
set_option maxHeartbeats 4000000 in
set_option maxRecDepth 100000 in
theorem costApart_any (v : Value) (es : List Evt) (w : World) (hr : RdE w.heap.size w v es) (hsz : ∀ e ∈ es, e.item.size ≤ 9223372036854775807) (hlen : es.length ≤ 9223372036854775807) :
    Calls Tryd.prog 7 #[v] w (Gives (.bool true) w) := by
  have HH := Lib.hid (held_any w.heap.size v es w hr (Nat.le_refl _) hsz hlen)
  by_cases hH : (decide (es.length ≤ 40) && !es.any fun e => decide (60 < e.item.size)) = true
  case neg =>
    rw [Bool.not_eq_true] at hH
    rw [hH] at HH
    clear hr hsz hlen hH
    go_enter Tryd.func7, Tryd.ntmps7
    go_wp2_with fail
    refine HH.out.mono ?_
    rintro e w1 ⟨rfl, hb1⟩
    go_wp2_with fail
    go_ret
    exact ⟨rfl, hb1⟩
  rw [hH] at HH
  have h40 : es.length ≤ 40 := by
    simp only [Bool.and_eq_true, decide_eq_true_eq] at hH
    exact hH.1
  have h60 : ∀ e ∈ es, e.item.size ≤ 60 := by
    simp only [Bool.and_eq_true, Bool.not_eq_true', List.any_eq_false, decide_eq_true_eq] at hH
    intro e he
    have := hH.2 e he
    omega
  have HR := Lib.hid hr
  have HSZ : Hid (∀ e ∈ es, e.item.size ≤ 1000000) := Lib.hid fun e he => Nat.le_trans (h60 e he) (by omega)
  clear hr hsz hlen hH h60
  go_enter Tryd.func7, Tryd.ntmps7
  go_wp2_with fail
  refine HH.out.mono ?_
  rintro e w1 ⟨rfl, hb1⟩
  go_wp2_with fail
  refine (told_any w1).mono ?_
  rintro e w2 ⟨rfl, hb2⟩
  have B2 := hb1.step hb2
  go_wp2_with fail
  refine (numbered_any w.heap.size v es w2 (HR.out.below B2) B2.size HSZ.out (by omega)).mono ?_
  rintro e w3 ⟨v3, rfl, ho3, hb3⟩
  have B3 := B2.step hb3
  have R3 : RdE w3.heap.size w3 v3 (numF es) := rdE_of_own ho3 rfl
  have n40 : (numF es).length ≤ 40 := Nat.le_trans (numF_len es) h40
  have NR := Lib.hid (numF_right es)
  have NU := Lib.hid (numF_uniq es).1
  have NSZ : Hid (∀ e ∈ numF es, e.item.size ≤ 1000000) := Lib.hid fun e he => by have := (right_bd (NR.out e he)).1; omega
  clear ho3 HR HSZ HH hb1 hb2 hb3 B2
  obtain ⟨N, hN⟩ : ∃ N, N = numF es := ⟨_, rfl⟩
  rw [← hN] at R3 n40 NR NSZ NU
  clear hN h40
  obtain ⟨a3, c3, rfl⟩ := R3.shape
  have HR3 := Lib.hid R3
  clear R3
  have HRUN := Lib.hid (run_any a3 N.length c3 N w3 HR3.out (by omega) NSZ.out)
  go_wp2_with fail
  refine HRUN.out.mono ?_
  rintro e w4 ⟨va, bl, rfl, ho4, hk4, -, hb4⟩
  obtain ⟨xa, xc, rfl⟩ := own_slice ho4
  obtain ⟨ls, hls⟩ : ∃ ls, ls = endN N := ⟨_, rfl⟩
  have hnl : ls.length = N.length := by rw [hls]; exact endN_len N NR.out
  rw [show (runP stk0 (Stb.isort leE N)).1 = ls from hls.symm] at ho4 ⊢
  rw [hnl] at ho4 ⊢
  obtain ⟨W5, hW5⟩ : ∃ W5, W5 = w4.alloc (.cells #[.slice xa N.length xc, .map (some bl)] 43) := ⟨_, rfl⟩
  obtain ⟨R3, hR3⟩ : ∃ R, R = w4.heap.size := ⟨_, rfl⟩
  have hb5 : Below w4.heap.size w4 W5 := by rw [hW5]; exact (Below.refl _ w4).new _
  have hc5 : W5.heap[R3]? = some (.cells #[.slice xa N.length xc, .map (some bl)] 43 (0, 0)) := by rw [hW5, hR3]; exact World.alloc_heap_new _ _
  have HK5 := Lib.hid (hk4.below hb5)
  have HO5 := Lib.hid (own_below ho4 hb5)
  have b35 := hb4.step hb5
  have B5 : Below w.heap.size w W5 := B3.step b35
  have HR5 := Lib.hid (HR3.out.below b35)
  have HC5 := Lib.hid hc5
  have HX := Lib.hid hR3
  have HW5 := Lib.hid hW5
  have HLS := Lib.hid hls
  have HNL := Lib.hid hnl
  clear ho4 hk4 hb4 hb5 hc5 hR3 hW5 HRUN hls hnl
  go_wp2_with fail
  rw [← HX.out, ← HW5.out]
  refine (items_any _ _ N W5 HR5.out b35.size (by omega)).mono ?_
  rintro e w6 ⟨v6, rfl, ho6, hb6⟩
  obtain ⟨ia, ic, rfl, hi6, -, -⟩ := rd_of_own ho6
  have IL := itemF_len N
  have HIM := Lib.hid (itemF_mem N)
  obtain ⟨its, hits⟩ : ∃ its, its = itemF N := ⟨_, rfl⟩
  rw [← hits] at IL HIM hi6 ⊢
  clear hits ho6
  obtain ⟨R, hRz⟩ : ∃ R, R = w6.heap.size := ⟨_, rfl⟩
  obtain ⟨W7, hW7⟩ : ∃ W7, W7 = w6.alloc (.cells #[.slice ia its.length ic] 45) := ⟨_, rfl⟩
  have hb7 : Below w6.heap.size w6 W7 := by rw [hW7]; exact (Below.refl _ w6).new _
  have hcR : W7.cell? ⟨R, 0, none⟩ = some (.slice ia its.length ic) := by rw [hW7, hRz]; exact new_at w6 _ _ 0 _ rfl
  have hz7 : W7.heap.size = R + 1 := by rw [hW7, hRz]; simp
  have b57 := hb6.step hb7
  have B7 : Below w.heap.size w W7 := B5.step b57
  have hi7 := hi6.below hb7
  have HR7 : Hid (RdE W7.heap.size W7 (.slice a3 N.length c3) N) := Lib.hid ((HR5.out.below (b57.mono b35.size)).mono (Nat.le_trans b35.size b57.size))
  have HI7 := Lib.hid hi7
  have HCR := Lib.hid hcR
  have HW7 := Lib.hid hW7
  have HRZ := Lib.hid hRz
  have HZ7 := Lib.hid hz7
  have hRl : R < W7.heap.size := by omega
  clear hi6 hi7 hcR hW7 hb6 hb7 HR3 B3 hz7 hRz HR5 b35
  go_wp2_with fail
  rw [← HW7.out, ← HRZ.out]
  go_loopg [5] its.length (fun kx s5 wr => ∃ (k I : Nat), s5 = .pointer (some ⟨I, 0, none⟩) ∧ W7.heap.size ≤ I ∧ wr.cell? ⟨I, 0, none⟩ = some (.int .i64 k) ∧ wr.frozen? ⟨I, 0, none⟩ = false ∧ k ≤ its.length ∧ its.length - k ≤ kx ∧ Below W7.heap.size W7 wr)
  case atStart => exact ⟨0, R + 1, rfl, by rw [HZ7.out]; exact Nat.le_refl _, by have := new_at W7 #[.int .i64 0] 3 0 _ rfl; rw [HZ7.out] at this; exact this, by rw [← HZ7.out]; simp, by omega, by omega, (Below.refl _ W7).new _⟩
  case round =>
    obtain ⟨k, I, rfl, hI, hcI, hfI, hk, hkx, hb⟩ := hrel
    obtain ⟨wo, rfl⟩ : ∃ wo : World, wo = wr := ⟨_, rfl⟩
    have hIw : I < wo.heap.size := cell_lt hcI
    have hcR := (hb.cell (p := ⟨R, 0, none⟩) hRl).trans HCR.out
    have hRw : R < wo.heap.size := Nat.lt_of_lt_of_le hRl hb.size
    by_cases hlt : k < its.length
    · have hltz : (k : Int) < (its.length : Int) := by omega
      obtain ⟨ib, io, rfl, hci⟩ := Rd.strs HI7.out k hlt
      have hib : ib < W7.heap.size := cell_lt hci
      obtain ⟨s, hs⟩ : ∃ s, s = its.getD k ByteArray.empty := ⟨_, rfl⟩
      have HM : Hid (∃ e ∈ N, e.item = s) := Lib.hid (HIM.out s (by rw [hs, List.getD_eq_getElem?_getD, List.getElem?_eq_getElem hlt]; exact List.getElem_mem hlt))
      rw [← hs] at hci
      clear hs
      have hssz : s.size ≤ 1000000 := by obtain ⟨e, he, rfl⟩ := HM.out; exact NSZ.out e he
      have hciw := (hb.cell (p := ⟨ib, io + k, none⟩) hib).trans hci
      have hibw : ib < wo.heap.size := Nat.lt_of_lt_of_le hib hb.size
      have HCL := Lib.hid (cloneE_any W7.heap.size (.slice a3 N.length c3) N wo (HR7.out.below hb) hb.size (by omega))
      have HCI := Lib.hid hcI
      have HCRw := Lib.hid hcR
      have HCIw := Lib.hid hciw
      have HFI := Lib.hid hfI
      clear hfI hci
      go_wp2_with fail
      refine HCL.out.mono ?_
      rintro e w8 ⟨v8, rfl, ho8, hb8⟩
      have HDL := Lib.hid (delE_any 31 #[.pointer (some ⟨R, 0, none⟩), .pointer (some ⟨I, 0, none⟩)] (fun e => !decide (e.item.data.toList = s.data.toList)) wo.heap.size v8 N w8 ho8 hb8.size (by omega) (enters_of Tryd.func31 (by kernel_rfl) rfl) (fun e he W hW => by
        have hW' := hb8.trans hW
        exact notItemA_any e R I ib io its.length ic k s W ((hW'.cell (p := ⟨R, 0, none⟩) hRw).trans HCRw.out) ((hW'.cell (p := ⟨I, 0, none⟩) hIw).trans HCI.out) hlt ((hW'.cell (p := ⟨ib, io + k, none⟩) hibw).trans HCIw.out)))
      clear ho8 hcI hcR hciw
      go_wp2_with fail
      refine HDL.out.mono ?_
      rintro e w9 ⟨v9, rfl, ho9, hb9⟩
      have hb89 := hb8.trans hb9
      obtain ⟨M, hM⟩ : ∃ M, M = mineF N s := ⟨_, rfl⟩
      have hfil : (N.filter fun e => !(!decide (e.item.data.toList = s.data.toList))) = M := by rw [hM, mineF]; congr 1; funext e; simp
      rw [hfil] at ho9
      have M40 : M.length ≤ 40 := by rw [hM, mineF]; exact Nat.le_trans (List.length_filter_le _ _) n40
      have MRt : Hid (∀ e ∈ M, e.right = true) := Lib.hid fun e he => NR.out e (by rw [hM] at he; exact (List.mem_filter.1 he).1)
      have MSZ : Hid (∀ e ∈ M, e.item.size ≤ 1000000) := Lib.hid fun e he => NSZ.out e (by rw [hM] at he; exact (List.mem_filter.1 he).1)
      have HAP := Lib.hid (apart N NU.out NR.out s)
      rw [← hM] at HAP
      have hRM : RdE w9.heap.size w9 v9 M := rdE_of_own ho9 rfl
      clear hfil hM ho9 HDL HCL hb8 hb9
      obtain ⟨a9, c9, rfl⟩ := hRM.shape
      obtain ⟨W10, hW10⟩ : ∃ W, W = w9.alloc (.cells #[.slice a9 M.length c9] 37) := ⟨_, rfl⟩
      obtain ⟨Y, hY⟩ : ∃ R, R = w9.heap.size := ⟨_, rfl⟩
      have hb10 : Below w9.heap.size w9 W10 := by rw [hW10]; exact (Below.refl _ w9).new _
      have hcY : W10.cell? ⟨Y, 0, none⟩ = some (.slice a9 M.length c9) := by rw [hW10, hY]; exact new_at w9 _ _ 0 _ rfl
      have hYl : Y < W10.heap.size := cell_lt hcY
      have HM10 : Hid (RdE W10.heap.size W10 (.slice a9 M.length c9) M) := Lib.hid ((hRM.below hb10).mono hb10.size)
      have HRUN := Lib.hid (run_any a9 M.length c9 M W10 HM10.out (by omega) MSZ.out)
      have HCY := Lib.hid hcY
      have HW10 := Lib.hid hW10
      have HY := Lib.hid hY
      have B10 := hb89.step hb10
      clear hRM hcY hW10 hY hb89 hb10
      go_wp2_with fail
      rw [← HY.out, ← HW10.out]
      refine HRUN.out.mono ?_
      rintro e w11 ⟨vb, bm, rfl, ho11, hk11, -, hb11⟩
      obtain ⟨xb, xd, rfl⟩ := own_slice ho11
      obtain ⟨lm, hlm⟩ : ∃ lm, lm = endN M := ⟨_, rfl⟩
      have hnm : lm.length = M.length := by rw [hlm]; exact endN_len M MRt.out
      rw [show (runP stk0 (Stb.isort leE M)).1 = lm from hlm.symm] at ho11 ⊢
      rw [hnm] at ho11 ⊢
      obtain ⟨W12, hW12⟩ : ∃ W, W = w11.alloc (.cells #[.slice xb M.length xd, .map (some bm)] 43) := ⟨_, rfl⟩
      obtain ⟨Z, hZ⟩ : ∃ R, R = w11.heap.size := ⟨_, rfl⟩
      have hb12 : Below w11.heap.size w11 W12 := by rw [hW12]; exact (Below.refl _ w11).new _
      have hc12 : W12.heap[Z]? = some (.cells #[.slice xb M.length xd, .map (some bm)] 43 (0, 0)) := by rw [hW12, hZ]; exact World.alloc_heap_new _ _
      have B12 := (B10.step hb11).step hb12
      have b10_12 := hb11.step hb12
      have b5_12 : Below W5.heap.size W5 W12 := (b57.step hb).step B12
      have HL12 : Hid (RdN W12 xb lm) := Lib.hid ((rdN_of_own ho11).below hb12)
      have HK12 := Lib.hid (hk11.below hb12)
      have HC12 := Lib.hid hc12
      obtain ⟨c50, c51⟩ := res_kpt HC5.out ((b57.step hb).step (B10.step hb11))
      have hR3w : R3 < w11.heap.size := cell_lt c50
      have HCN := Lib.hid (cloneN_any _ N.length xa xc ls W12 (own_below HO5.out b5_12) HNL.out (by omega))
      have hYc : W12.cell? ⟨Y, 0, none⟩ = some (.slice a9 M.length c9) := (b10_12.cell (p := ⟨Y, 0, none⟩) hYl).trans HCY.out
      have hYw : Y < W12.heap.size := cell_lt hYc
      have HYC := Lib.hid hYc
      have HM12 := Lib.hid ((HM10.out.below b10_12).mono b10_12.size)
      have HZ := Lib.hid hZ
      have HW12 := Lib.hid hW12
      have HLM := Lib.hid hlm
      have HNM := Lib.hid hnm
      clear ho11 hk11 hb11 hb12 hc12 hZ hW12 hlm hnm hYc HRUN
      go_wp2_with fail
      rw [← HZ.out, ← HW12.out]
      refine HCN.out.mono ?_
      rintro e w13 ⟨v13, rfl, ho13, hb13⟩
      have HDN := Lib.hid (delN_any 34 #[.pointer (some ⟨Y, 0, none⟩)] (fun x => !M.any fun e => e.id == x.id) W12.heap.size v13 ls w13 ho13 hb13.size (by rw [HNL.out]; omega) (enters_of Tryd.func34 (by kernel_rfl) rfl) (fun x hx W hW => apart2_any x Y W12.heap.size _ M W (((hb13.trans hW).cell (p := ⟨Y, 0, none⟩) hYw).trans HYC.out) (HM12.out.below (hb13.trans hW)) (hb13.trans hW).size (by omega)))
      clear ho13
      go_wp2_with fail
      refine HDN.out.mono ?_
      rintro e w14 ⟨v14, rfl, ho14, hb14⟩
      have b12_14 := hb13.trans hb14
      have hfl : (ls.filter fun x => !(!M.any fun e => e.id == x.id)) = lm := by rw [HLM.out, HAP.out.1, ← HLS.out]; congr 1; funext x; simp
      rw [hfl] at ho14
      rw [HNM.out] at ho14
      obtain ⟨x14, d14, rfl⟩ := own_slice ho14
      have B14 := B12.step b12_14
      have b5_14 := b5_12.step b12_14
      have hEN := fun p : Since w14 => equalN_same lm xb x14 xd d14 p.w' (by rw [HNM.out]; omega) ((HL12.out.below b12_14).below p.h) ((rdN_of_own ho14).below p.h)
      rw [HNM.out] at hEN
      have HEN := Lib.hid hEN
      obtain ⟨vl, hvl, lookl⟩ := HK12.out.looks s (by unfold maxLen; omega)
      obtain ⟨vr, hvr, lookr⟩ := HK5.out.looks s (by unfold maxLen; omega)
      have hvl' : RdY W12 vl ((endS N).lay s.data.toList) := by rw [← HAP.out.2]; exact hvl
      have HEY : Hid (∀ p : Since w14, Calls Tryd.prog 23 #[vl, vr] p.w' (Gives (.bool true) p.w')) := Lib.hid fun p => equalY_same _ _ _ p.w' (by have := (end_good N (by omega) s.data.toList).2; exact Nat.le_trans this (by omega)) (hvl'.below (b12_14.step p.h)) (hvr.below (b5_14.step p.h))
      have lkl := fun p : Since w14 => lookl p.w' (b12_14.step p.h)
      have lkr := fun p : Since w14 => lookr p.w' (b5_14.step p.h)
      have e5 := fun p : Since w14 => res_kpt HC5.out (b5_14.step p.h)
      have e12 := fun p : Since w14 => res_kpt HC12.out (b12_14.step p.h)
      have fR : ∀ p : Since w14, p.w'.cell? ⟨R, 0, none⟩ = some (.slice (some ⟨ib, io, none⟩) its.length ic) := fun p => ((B14.step p.h).cell (p := ⟨R, 0, none⟩) hRw).trans HCRw.out
      have fI : ∀ p : Since w14, p.w'.cell? ⟨I, 0, none⟩ = some (.int .i64 k) := fun p => ((B14.step p.h).cell (p := ⟨I, 0, none⟩) hIw).trans HCI.out
      have fS : ∀ p : Since w14, p.w'.cell? ⟨ib, io + k, none⟩ = some (.string s) := fun p => ((B14.step p.h).cell (p := ⟨ib, io + k, none⟩) hibw).trans HCIw.out
      clear ho14 hb13 hb14 hfl hEN hvl hvr hvl' lookl lookr HDN HCN c50 c51 hR3w
      go_wp2_with fail
      refine wp_region_since (by kernel_rfl) (by kernel_rfl) ?_
      iterate 23 (go_big_quiet_step (first | (with_reducible exact Calls.since_of (HEN.out _)) | (with_reducible exact Calls.since_of (HEY.out _))))
      refine wpQuiet_nil ?_
      intro w15 hw'
      obtain ⟨p, hp⟩ := hw'
      have Bz : Below wo.heap.size wo w15 := by rw [hp]; exact B14.step p.h
      clear hp p lkl lkr e5 e12 fR fI fS
      have hcIz := (Bz.cell (p := ⟨I, 0, none⟩) hIw).trans HCI.out
      have hIz : I < w15.heap.size := Nat.lt_of_lt_of_le hIw Bz.size
      go_wp2_with fail
      go_roundg (its.length - (k + 1))
      case measure => omega
      case rel =>
        refine ⟨k + 1, w15.heap.size, rfl, (hb.step Bz).size, ?_, by simp, hlt, Nat.le_refl _, (hb.step Bz).new _⟩
        rw [show ((k + 1 : Nat) : Int) = (k : Int) + 1 by omega]
        exact new_at w15 #[.int .i64 ((k : Int) + 1)] 3 0 _ rfl
    · have hltz : ¬ ((k : Int) < (its.length : Int)) := by omega
      go_wp2
      go_ret
      exact ⟨rfl, B7.step hb⟩
theorem costApart_go (v : Value) (es : List Evt) (w : World) (hr : RdE w.heap.size w v es) (hb : ∀ e ∈ es, EvBd e) (hl : es.length ≤ maxLen) :
    Calls Tryd.prog 7 #[v] w (Gives (.bool true) w) :=
  costApart_any v es w hr (fun e he => (hb e he).1) hl
end Go.Proofs.YtefbedineniejaaDoor
