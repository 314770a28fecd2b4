/- CostCausal: the law's own walk. -/
import Derived.Test.YtefbedineniejaaDoorCaR
import Derived.Test.YtefbedineniejaaDoorCaQ
import Derived.Test.YtefbedineniejaaDoorDelE
import Derived.Test.YtefbedineniejaaDoorPick
import Derived.Test.YtefbedineniejaaDoorOpenEs
namespace Go.Proofs.YtefbedineniejaaDoor
open Go.RowKit
open Go.Maps (Keyed)
open Go.Proofs (encStr)
set_option linter.unusedVariables false

theorem region_cut2 {P : Program} {c : Code} {a : Act} {w : World} {Q : Exit → Act → World → Prop} {T : Value → Value → Act} (F : Value → Value → World → Prop) (h : c.wp P (fun e a' w' => e = .normal ∧ ∃ vx vy, a' = T vx vy ∧ F vx vy w') a w) (hq : ∀ vx vy w', F vx vy w' → Q .normal (T vx vy) w') : c.wp P Q a w :=
  wp_mono h fun e a' w' ⟨he, vx, vy, ha, hf⟩ => by subst he; subst ha; exact hq vx vy w' hf
theorem res_kept {w : World} {b : Nat} {va m : Value} (h : w.heap[b]? = some (.cells #[va, m] 43 (0, 0))) {w' : World} (hb : Below w.heap.size w w') : w'.cell? ⟨b, 0, none⟩ = some va ∧ w'.cell? ⟨b, 1, none⟩ = some m := by
  have := (hb.block _ (Array.getElem?_eq_some_iff.1 h).1).trans h
  simp [World.cell?, this]
theorem below_undrewC {w w' : World} (h : Below w.drew.heap.size w.drew w') : Below w.heap.size w w' := ⟨h.os, h.tape, h.output, h.size, h.block⟩
theorem rdE_drop {hi : Nat} {w : World} {b off n c : Nat} {es : List Evt} (h : RdE hi w (.slice (some ⟨b, off, none⟩) n c) es) (k c' : Nat) : RdE hi w (.slice (some ⟨b, off + k * 7, none⟩) (n - k) c') (es.drop k) := by
  rcases h with ⟨h, -⟩ | ⟨b', off', cap, h1, h2, h3⟩
  · cases h
  injection h1 with e1 e2 e3
  injection e1 with e1
  injection e1 with e1 e4
  subst e1 e2 e3 e4
  refine .inr ⟨b, off + k * 7, c', by rw [List.length_drop], h2, fun i hi j u hu => ?_⟩
  rw [List.getElem_drop] at hu
  have := h3 (k + i) (by rw [List.length_drop] at hi; omega) j u hu
  rw [show off + k * 7 + i * 7 + j = off + (k + i) * 7 + j by omega]
  exact this
theorem own_cap {w : World} {base e size n c : Nat} {a : Option Addr} {xs : List Value} (h : w.ownsRow base e size (.slice a n c) n xs) : n ≤ c := by
  rcases h.2 with ⟨e0, h0⟩ | ⟨g, cap, cur, e1, -, -, hn, -⟩
  · omega
  · injection e1 with e1 e2 e3; omega
theorem left_below {P : Program} {k : TypeId} {z : Value} {w w' : World} {b r : Nat} {ks rest : List Lit} {f : Lit → Value} (h : MR P k z w b r ks f rest) (hb : Below w.heap.size w w') : w'.rangeLeft b r = w.rangeLeft b r := by
  obtain ⟨D, left, cnt, hr, -⟩ := h.ex
  rw [hr.left_eq, (hr.kept (grownBy_below hb) (by simp) (by simp)).left_eq]
set_option maxHeartbeats 4000000 in
set_option maxRecDepth 100000 in
theorem costCausal_any (v : Value) (es : List Evt) (n by_ : Int) (w : World) (hr : RdE w.heap.size w v es) (hsz : ∀ e ∈ es, e.item.size ≤ 9223372036854775807) (hlen : es.length ≤ 9223372036854775807) :
    Calls Tryd.prog 6 #[v, .int .i64 n, .int .i64 by_] w (Gives (.bool true) w) := by
  obtain ⟨W0, hW0⟩ : ∃ W0, W0 = w.alloc (.cells #[.int .i64 n] 3) := ⟨_, rfl⟩
  have hb0 : Below w.heap.size w W0 := by rw [hW0]; exact (Below.refl _ w).new _
  have hcX : W0.cell? ⟨w.heap.size, 0, none⟩ = some (.int .i64 n) := by rw [hW0]; exact new_at w _ _ 0 _ rfl
  have HW0 := Lib.hid hW0
  have HCX := Lib.hid hcX
  have hXl : w.heap.size < W0.heap.size := cell_lt hcX
  have HH := Lib.hid (held_any w.heap.size v es W0 (hr.below hb0) hb0.size hsz hlen)
  clear hW0 hcX
  by_cases hH : (decide (es.length ≤ 40) && !es.any fun e => decide (60 < e.item.size)) = true
  case neg =>
    rw [Bool.not_eq_true] at hH
    rw [hH] at HH
    clear hr hsz hlen hH
    go_enter Tryd.func6, Tryd.ntmps6
    go_wp2_with fail
    rw [← HW0.out]
    refine HH.out.mono ?_
    rintro e w1 ⟨rfl, hb1⟩
    go_wp2_with fail
    go_ret
    exact ⟨rfl, hb0.step hb1⟩
  rw [hH] at HH
  have h40 : es.length ≤ 40 := by
    simp only [Bool.and_eq_true, decide_eq_true_eq] at hH
    exact hH.1
  have h60 : ∀ e ∈ es, e.item.size ≤ 60 := by
    simp only [Bool.and_eq_true, Bool.not_eq_true', List.any_eq_false, decide_eq_true_eq] at hH
    intro e he
    have := hH.2 e he
    omega
  have HR := Lib.hid hr
  have HSZ : Hid (∀ e ∈ es, e.item.size ≤ 1000000) := Lib.hid fun e he => Nat.le_trans (h60 e he) (by omega)
  clear hr hsz hlen hH h60
  go_enter Tryd.func6, Tryd.ntmps6
  go_wp2_with fail
  rw [← HW0.out]
  refine HH.out.mono ?_
  rintro e w1 ⟨rfl, hb1⟩
  go_wp2_with fail
  refine (told_any w1).mono ?_
  rintro e w2 ⟨rfl, hb2⟩
  have B2 := hb1.step hb2
  go_wp2_with fail
  refine (numbered_any w.heap.size v es w2 (HR.out.below (hb0.trans (B2.mono hb0.size))) (Nat.le_trans hb0.size B2.size) HSZ.out (by omega)).mono ?_
  rintro e w3 ⟨v3, rfl, ho3, hb3⟩
  have B3 := B2.step hb3
  have R3 : RdE w3.heap.size w3 v3 (numF es) := rdE_of_own ho3 rfl
  have n40 : (numF es).length ≤ 40 := Nat.le_trans (numF_len es) h40
  have NR := Lib.hid (numF_right es)
  have NU := Lib.hid (numF_uniq es).1
  have NSZ : Hid (∀ e ∈ numF es, e.item.size ≤ 1000000) := Lib.hid fun e he => by have := (right_bd (NR.out e he)).1; omega
  clear HR HSZ HH hb1 hb2 hb3 B2
  obtain ⟨N, hN⟩ : ∃ N, N = numF es := ⟨_, rfl⟩
  rw [← hN] at R3 n40 NR NSZ NU ho3
  clear hN h40
  obtain ⟨a3, c3, rfl⟩ := R3.shape
  have hc3 := own_cap ho3
  have HG3 : Hid (0 < N.length → ∃ g, a3 = some ⟨g, 0, none⟩) := Lib.hid fun h => by
    rcases ho3.2 with ⟨-, h0⟩ | ⟨g, cap, cur, e1, -⟩
    · omega
    · injection e1 with e1; exact ⟨g, e1⟩
  have HR3 := Lib.hid R3
  have HRUN := Lib.hid (run_any a3 N.length c3 N w3 R3 (by omega) NSZ.out)
  clear R3 ho3
  go_wp2_with fail
  refine HRUN.out.mono ?_
  rintro e w4 ⟨va, bl, rfl, ho4, hk4, -, hb4⟩
  obtain ⟨xa, xc, rfl⟩ := own_slice ho4
  obtain ⟨ls, hls⟩ : ∃ ls, ls = endN N := ⟨_, rfl⟩
  have hnl : ls.length = N.length := by rw [hls]; exact endN_len N NR.out
  rw [show (runP stk0 (Stb.isort leE N)).1 = ls from hls.symm] at ho4 ⊢
  rw [hnl] at ho4 ⊢
  have hxc := own_cap ho4
  obtain ⟨W5, hW5⟩ : ∃ W5, W5 = w4.alloc (.cells #[.slice xa N.length xc, .map (some bl)] 43) := ⟨_, rfl⟩
  obtain ⟨R7, hR7⟩ : ∃ R, R = w4.heap.size := ⟨_, rfl⟩
  have hb5 : Below w4.heap.size w4 W5 := by rw [hW5]; exact (Below.refl _ w4).new _
  have hc5 : W5.heap[R7]? = some (.cells #[.slice xa N.length xc, .map (some bl)] 43 (0, 0)) := by rw [hW5, hR7]; exact World.alloc_heap_new _ _
  have HK5 := Lib.hid (hk4.below hb5)
  have HL5 : Hid (RdN W5 xa ls) := Lib.hid ((rdN_of_own ho4).below hb5)
  have b35 := hb4.step hb5
  have B5 : Below W0.heap.size W0 W5 := B3.step b35
  have HR5 : Hid (RdE W5.heap.size W5 (.slice a3 N.length c3) N) := Lib.hid ((HR3.out.below b35).mono b35.size)
  have HC5 := Lib.hid hc5
  have HX := Lib.hid hR7
  have HW5 := Lib.hid hW5
  have HLS := Lib.hid hls
  have HNL := Lib.hid hnl
  have HB0 := Lib.hid hb0
  clear ho4 hk4 hb4 hb5 hc5 hR7 hW5 B3 HRUN HR3 b35 hls hnl hb0
  go_wp2_with fail
  rw [← HX.out, ← HW5.out]
  refine (cloneE_any W5.heap.size (.slice a3 N.length c3) N W5 HR5.out (Nat.le_refl _) (by omega)).mono ?_
  rintro e w6 ⟨v6, rfl, ho6, hb6⟩
  have hXc := (B5.cell (p := ⟨w.heap.size, 0, none⟩) hXl).trans HCX.out
  have hX5 : w.heap.size < W5.heap.size := Nat.lt_of_lt_of_le hXl B5.size
  have HDL := Lib.hid (delE_any 27 #[.pointer (some ⟨w.heap.size, 0, none⟩)] (fun e => decide (n < e.day)) W5.heap.size v6 N w6 ho6 hb6.size (by omega) (enters_of Tryd.func27 (by kernel_rfl) rfl) (fun e he W hW => later_any e _ n W (((hb6.trans hW).cell (p := ⟨w.heap.size, 0, none⟩) hX5).trans hXc)))
  clear ho6 hXc
  go_wp2_with fail
  refine HDL.out.mono ?_
  rintro e w7 ⟨v7, rfl, ho7, hb7⟩
  have hb57 := hb6.trans hb7
  obtain ⟨M, hM⟩ : ∃ M, M = N.filter fun e => !decide (n < e.day) := ⟨_, rfl⟩
  rw [← hM] at ho7
  have M40 : M.length ≤ 40 := by rw [hM]; exact Nat.le_trans (List.length_filter_le _ _) n40
  have MRt : Hid (∀ e ∈ M, e.right = true) := Lib.hid fun e he => NR.out e (by rw [hM] at he; exact (List.mem_filter.1 he).1)
  have MSZ : Hid (∀ e ∈ M, e.item.size ≤ 1000000) := Lib.hid fun e he => NSZ.out e (by rw [hM] at he; exact (List.mem_filter.1 he).1)
  have hML : M.length ≤ N.length := by rw [hM]; exact List.length_filter_le _ _
  obtain ⟨lm, hlm⟩ : ∃ lm, lm = endN M := ⟨_, rfl⟩
  have hnm : lm.length = M.length := by rw [hlm]; exact endN_len M MRt.out
  have htk : ls.take M.length = lm := by
    obtain ⟨r, hr⟩ := early N n
    rw [← hM, ← HLS.out, ← hlm] at hr
    rw [hr, ← hnm, List.take_left']
    rfl
  have hRM : RdE w7.heap.size w7 v7 M := rdE_of_own ho7 rfl
  clear hM ho7 HDL hb6 hb7
  obtain ⟨a7, c7, rfl⟩ := hRM.shape
  have HRUM := Lib.hid (run_any a7 M.length c7 M w7 hRM (by omega) MSZ.out)
  clear hRM
  have HTK := Lib.hid htk
  have HNM := Lib.hid hnm
  have HLM := Lib.hid hlm
  clear htk hnm hlm
  go_wp2_with fail
  refine HRUM.out.mono ?_
  rintro e w8 ⟨vb, bm, rfl, ho8, hk8, -, hb8⟩
  obtain ⟨xb, xd, rfl⟩ := own_slice ho8
  rw [show (runP stk0 (Stb.isort leE M)).1 = lm from HLM.out.symm] at ho8 ⊢
  rw [HNM.out] at ho8 ⊢
  obtain ⟨W9, hW9⟩ : ∃ W9, W9 = w8.alloc (.cells #[.slice xb M.length xd, .map (some bm)] 43) := ⟨_, rfl⟩
  obtain ⟨R9, hR9⟩ : ∃ R, R = w8.heap.size := ⟨_, rfl⟩
  have hb9 : Below w8.heap.size w8 W9 := by rw [hW9]; exact (Below.refl _ w8).new _
  have hc9 : W9.heap[R9]? = some (.cells #[.slice xb M.length xd, .map (some bm)] 43 (0, 0)) := by rw [hW9, hR9]; exact World.alloc_heap_new _ _
  have HL9 : Hid (RdN W9 xb lm) := Lib.hid ((rdN_of_own ho8).below hb9)
  have b59 : Below W5.heap.size W5 W9 := (hb57.step hb8).step hb9
  have HC9 := Lib.hid hc9
  have HX9 := Lib.hid hR9
  have HW9 := Lib.hid hW9
  have HEQ : Hid (∀ p : Since W9, Calls Tryd.prog 28 #[.slice xb M.length xd, .slice xa M.length xc] p.w' (Gives (.bool true) p.w')) := Lib.hid fun p => by
    have h := equalN_same lm xb xa xd xc p.w' (by rw [HNM.out]; omega) (HL9.out.below p.h) (by have := (HL5.out.below (b59.step p.h)).take M.length; rw [HTK.out] at this; exact this)
    rw [HNM.out] at h
    exact h
  clear ho8 hk8 hb8 hb9 hc9 hR9 hW9 HRUM
  go_wp2_with fail
  rw [← HX9.out, ← HW9.out]
  have c5 := fun p : Since W9 => res_kept HC5.out (b59.step p.h)
  have c9 := fun p : Since W9 => res_kept HC9.out p.h
  have hsl := fun w => slice_sl_to (P := Tryd.prog) 40 Tryd.underlying40 5 (fun w => by simp [go_sem]) xa N.length xc M.length M.length rfl (by omega) w
  have hgt : ¬ ((M.length : Int) > (N.length : Int)) := by omega
  have hgt' : ¬ ((N.length : Int) < (M.length : Int)) := by omega
  refine wp_region_since (by kernel_rfl) (by kernel_rfl) ?_
  iterate 19 (go_big_quiet_step (with_reducible exact Calls.since_of (HEQ.out _)))
  refine wpQuiet_nil ?_
  intro w10 hw'
  obtain ⟨p, hp⟩ := hw'
  have b510 : Below W5.heap.size W5 w10 := by rw [hp]; exact b59.step p.h
  clear hp p c5 c9 hsl hgt hgt' HEQ HC9 HL9 HX9 HW9 b59 hb57
  by_cases hn0 : N.length = 0
  · have hz : (N.length : Int) = 0 := by omega
    go_wp2_with fail
    go_ret
    exact ⟨rfl, (HB0.out).step (B5.step b510)⟩
  have hz : ((N.length : Int) == 0) = false := beq_eq_false_iff_ne.2 (by omega)
  have hp1 : 1 ≤ N.length := by omega
  obtain ⟨g3, rfl⟩ := HG3.out (by omega)
  clear HG3 hn0
  go_wp2_with fail
  refine (pick_any by_ (N.length : Int) w10 (show (1 : Int) ≤ (N.length : Int) by omega) (show (N.length : Int) ≤ 4611686018427387904 by omega)).mono ?_
  rintro e w11 ⟨kz, hk1, hk2, rfl, rfl⟩
  obtain ⟨k, rfl⟩ : ∃ k : Nat, kz = (k : Int) := Int.eq_ofNat_of_zero_le hk1
  have hkN : k < N.length := by exact_mod_cast hk2
  clear hk1 hk2
  have HR10 : Hid (RdE w10.heap.size w10 (.slice (some ⟨g3, 0, none⟩) N.length c3) N) := Lib.hid ((HR5.out.below b510).mono b510.size)
  have hdr := (rdE_drop HR10.out k (c3 - k))
  rw [Nat.zero_add] at hdr
  have hdl : (N.drop k).length = N.length - k := by simp
  have hcl := fun w' (hw' : Below w10.heap.size w10 w') => cloneE_any w10.heap.size (.slice (some ⟨g3, k * 7, none⟩) (N.length - k) (c3 - k)) (N.drop k) w' (hdr.below hw') hw'.size (by rw [hdl]; omega)
  have HCL := Lib.hid hcl
  have hs1 := fun w' => sub_tail_E g3 N.length c3 k hkN hc3 w'
  have hs2 := fun w' => slice_sl_to (P := Tryd.prog) 37 Tryd.underlying37 7 (fun w => by simp [go_sem]) (some ⟨g3, 0, none⟩) N.length c3 k k rfl (by omega) w'
  obtain ⟨i0, hinf, hiz, his, hib⟩ := info_parts info_evt
  clear hdr hcl
  go_wp2_with fail
  refine region_cut2 (T := ?T2) (fun vc vt w' => w'.ownsRow w10.heap.size 50 7 vt N.length (flE (N.drop k ++ N.take k)) ∧ Below w10.heap.size w10 w') ?h2 ?q2
  case h2 =>
    refine wp_region_any (by kernel_rfl) ?_
    refine wpAny_take (i := 0) (v := ?_) rfl (by kernel_rfl) (by kernel_rfl) (by kernel_rfl) (fun _ _ _ h => absurd h.1 nofun) (Or.inl ⟨by rfl, ?_⟩) ?_
    rotate_left
    · intro _; go_simp; try (with_reducible rfl)
    refine wpAny_take (i := 1) (v := ?_) rfl (by kernel_rfl) (by kernel_rfl) (by kernel_rfl) (fun _ _ _ h => absurd h.1 nofun) (Or.inl ⟨by rfl, ?_⟩) ?_
    rotate_left
    · intro _; go_simp; try (with_reducible rfl)
    refine wpAny_take (i := 2) (v := ?_) rfl (by kernel_rfl) (by kernel_rfl) (by kernel_rfl) (fun _ _ _ h => absurd h.1 nofun) (Or.inl ⟨by rfl, ?_⟩) ?_
    rotate_left
    · intro _; go_simp; try (with_reducible rfl)
    refine wpAny_take (i := 4) (v := ?_) rfl (by kernel_rfl) (by kernel_rfl) (by kernel_rfl) (fun _ _ _ h => absurd h.1 nofun) (Or.inl ⟨by rfl, ?_⟩) ?_
    rotate_left
    · intro _; go_simp; try (with_reducible rfl)
    refine wpAny_take (i := 5) (v := ?_) rfl (by kernel_rfl) (by kernel_rfl) (by kernel_rfl) (fun _ _ _ h => absurd h.1 nofun) (Or.inl ⟨by rfl, ?_⟩) ?_
    rotate_left
    · intro _; go_simp; try (with_reducible rfl)
    refine wpAny_take (i := 6) (v := ?_) rfl (by kernel_rfl) (by kernel_rfl) (by kernel_rfl) (fun _ _ _ h => absurd h.1 nofun) (Or.inl ⟨by rfl, ?_⟩) ?_
    rotate_left
    · intro _; go_simp; try (with_reducible rfl)
    refine wpAny_ready (rs := [3]) (by kernel_rfl) (by simp) (AllReady.cons rfl (fun K hK => ?_) AllReady.nil)
    go_simp
    refine (HCL.out w10.drew (below_drewN (Below.refl _ _) 1)).mono ?_
    rintro e w13 ⟨vc, rfl, hoc, hbc⟩
    replace hbc : Below w10.heap.size w10 w13 := below_undrewC hbc
    replace hoc : w13.ownsRow w10.heap.size 50 7 vc (N.drop k).length (flE (N.drop k)) := hoc
    refine hK _ _ ?_
    clear hK K
    refine wpAny_ready (rs := [7]) (by kernel_rfl) (by simp) (AllReady.cons rfl (fun K hK => ?_) AllReady.nil)
    have hnews : ∀ (j : Nat) (u : Value), (flE (N.take k))[j]? = some u → w13.cell? ((⟨g3, 0, none⟩ : Addr).add j) = some u := by
      intro j u hu
      have hj : j < k * 7 := by
        have := (List.getElem?_eq_some_iff.1 hu).1
        rw [flE_len, List.length_take] at this
        omega
      refine rdE_cells (HR10.out.below hbc) j u ?_
      rw [← hu, ← List.take_append_drop k N, flE, flE, List.flatMap_append, List.getElem?_append_left (by have := flE_len (N.take k); rw [flE] at this; rw [this, List.length_take]; omega), List.take_append_drop]
    refine wp_append_own w13 (.tmp 59) (.tmp 62) 37 rfl w10.heap.size 50 i0 (.agg #[.int .i64 0, .string ⟨#[]⟩, .int .i64 0, .int .i64 0, .int .i64 0, .int .i64 0, .int .i64 0]) 7 64 Tryd.underlying37 hinf hiz his hib rfl (by decide) vc (N.drop k).length (flE (N.drop k)) rfl hoc ⟨g3, 0, none⟩ k c3 (flE (N.take k)) rfl (by rw [flE_len, List.length_take]; omega) hnews (one_flE _) (by rw [hdl]; unfold maxLen; omega) (by rw [hdl]; omega) hbc.size ?_
    intro va2 w14 hoa hga _
    have hbf := hbc.owngrown hoc hga
    refine hK _ _ ?_
    clear hK K
    refine wpAny_ready (rs := [8]) (by kernel_rfl) (by simp) (AllReady.cons rfl (fun K hK => ?_) AllReady.nil)
    go_simp
    refine hK _ _ ?_
    clear hK K
    refine wpAny_done (by kernel_rfl) ?_ _
    refine ⟨rfl, vc, va2, ?_, ?_, hbf⟩
    · exact rfl
    · rw [hdl] at hoa
      rw [show N.length - k + k = N.length by omega] at hoa
      rw [show flE (N.drop k ++ N.take k) = flE (N.drop k) ++ flE (N.take k) by simp [flE]]
      exact hoa
  rintro vc vt w14 ⟨ho14, hb14⟩
  obtain ⟨T, hT⟩ : ∃ T, T = N.drop k ++ N.take k := ⟨_, rfl⟩
  rw [← hT] at ho14
  have hTl : T.length = N.length := by rw [hT]; simp; omega
  have HPM : Hid (∀ m, ((T.take m).reverse ++ T.drop m).Perm N) := Lib.hid fun m => by rw [hT]; exact turned_perm N k m
  clear hT HCL hs1 hs2
  obtain ⟨gt, ct, rfl⟩ : ∃ g c, vt = .slice (some ⟨g, 0, none⟩) N.length c := by
    rcases ho14.2 with ⟨-, h0⟩ | ⟨g, cap, cur, e1, -⟩
    · omega
    · exact ⟨g, cap, e1⟩
  have hct := own_cap ho14
  go_wp2_with fail
  refine (pick_any by_ ((N.length : Int) + 1) w14 (by omega) (by omega)).mono ?_
  rintro e w15 ⟨mz, hm1, hm2, rfl, rfl⟩
  obtain ⟨m, rfl⟩ : ∃ m : Nat, mz = (m : Int) := Int.eq_ofNat_of_zero_le hm1
  have hmN : m ≤ N.length := by omega
  clear hm1 hm2
  have hs3 := fun w' => slice_sl_to (P := Tryd.prog) 37 Tryd.underlying37 7 (fun w => by simp [go_sem]) (some ⟨gt, 0, none⟩) N.length ct m m rfl (by omega) w'
  have HRV := Lib.hid (reverse_any w10.heap.size gt N.length ct m T w14 ho14 hTl hmN (by omega) hb14.size)
  clear ho14
  go_wp2_with fail
  refine HRV.out.mono ?_
  rintro e w16 ⟨rfl, hb16, hr16⟩
  obtain ⟨T', hT'⟩ : ∃ T', T' = (T.take m).reverse ++ T.drop m := ⟨_, rfl⟩
  have hpm : T'.Perm N := by rw [hT']; exact HPM.out m
  rw [← hT'] at hr16
  have hTl' : T'.length = N.length := hpm.length_eq
  have hrun16 := run_any (some ⟨gt, 0, none⟩) T'.length ct T' w16 (by rw [hTl']; exact hr16) (by omega) (fun e he => NSZ.out e (hpm.mem_iff.1 he))
  rw [isort_same NU.out hpm, hTl'] at hrun16
  have HRU := Lib.hid hrun16
  have b5_16 : Below W5.heap.size W5 w16 := (b510.step hb14).trans (hb16.mono b510.size)
  clear hr16 hrun16 hpm hTl' hT' HPM HRV hs3 hb14 hb16
  go_wp2_with fail
  refine HRU.out.mono ?_
  rintro e w17 ⟨vy, by', rfl, ho17, hk17, -, hb17⟩
  obtain ⟨xy, xe, rfl⟩ := own_slice ho17
  rw [show (runP stk0 (Stb.isort leE N)).1 = ls from HLS.out.symm] at ho17 ⊢
  rw [HNL.out] at ho17 ⊢
  obtain ⟨W18, hW18⟩ : ∃ W18, W18 = w17.alloc (.cells #[.slice xy N.length xe, .map (some by')] 43) := ⟨_, rfl⟩
  obtain ⟨R12, hR12⟩ : ∃ R, R = w17.heap.size := ⟨_, rfl⟩
  have hb18 : Below w17.heap.size w17 W18 := by rw [hW18]; exact (Below.refl _ w17).new _
  have hc18 : W18.heap[R12]? = some (.cells #[.slice xy N.length xe, .map (some by')] 43 (0, 0)) := by rw [hW18, hR12]; exact World.alloc_heap_new _ _
  have b5_18 := (b5_16.step hb17).step hb18
  have HL18 : Hid (RdN W18 xy ls) := Lib.hid ((rdN_of_own ho17).below hb18)
  have HK18 := Lib.hid (hk17.below hb18)
  have hEQ := equalN_same ls xy xa xe xc W18 (by rw [HNL.out]; omega) HL18.out (HL5.out.below b5_18)
  rw [HNL.out] at hEQ
  have HEQ := Lib.hid hEQ
  have HC18 := Lib.hid hc18
  have HX18 := Lib.hid hR12
  have HW18 := Lib.hid hW18
  obtain ⟨c50, c51⟩ := res_kept HC5.out (b5_16.step hb17)
  have hR7l : R7 < w17.heap.size := cell_lt c50
  clear ho17 hk17 hb17 hb18 hc18 hR12 hW18 hEQ HRU
  go_wp2_with fail
  rw [← HX18.out, ← HW18.out]
  refine HEQ.out.mono ?_
  rintro e w19 ⟨rfl, hb19⟩
  have b5_19 := b5_18.step hb19
  obtain ⟨d50, d51⟩ := res_kept HC5.out b5_19
  obtain ⟨dy0, dy1⟩ := res_kept HC18.out hb19
  obtain ⟨ks, ks', f, f', hkl, m1, m2, r1, r2, -⟩ := (HK5.out.below b5_19).size (HK18.out.below hb19)
  have l1 := fun ty => MV.len m1 Tryd.underlying41 ty
  have l2 := fun ty => MV.len m2 Tryd.underlying41 ty
  rw [← hkl] at l2
  have hne : ((ks.length : Int) != (ks.length : Int)) = false := by simp
  obtain ⟨w20, hrng, hr1, hb20, hz20⟩ := MV.range m1 (Go.Maps.string_keyed Tryd.underlying9) Tryd.underlying41
  have HR1 := Lib.hid hr1
  have HM2 := Lib.hid m2
  have HQ1 := Lib.hid r1
  have HQ2 := Lib.hid r2
  clear hkl m1 m2 r1 r2 hr1 hz20 c50 c51
  go_wp2_with fail
  go_loopw [13, 14] (fun _ _ wr => ∃ rest, MR Tryd.prog 9 (.slice none 0 0) wr bl w19.heap.size ks f rest ∧ Below w19.heap.size w19 wr) (fun _ _ wr => wr.rangeLeft bl w19.heap.size)
  case atStart => exact ⟨ks, HR1.out, hb20⟩
  case round =>
    obtain ⟨rest, hr, hb⟩ := hrel
    rcases hr.next (Go.Maps.string_keyed Tryd.underlying9) 0 with ⟨-, hnx⟩ | ⟨key, kl, w21, hkey, hkl, hnx, hr3, hg3, hz3, hlt3, hen⟩
    · go_wp2
      go_ret
      exact ⟨rfl, HB0.out.step (B5.step (b5_19.step hb))⟩
    · obtain ⟨x, rfl, rfl, -⟩ := Maps.keyOf_str Tryd.underlying9 hkey
      have hb21 : Below w19.heap.size w19 w21 := hb.grown hg3 hb.size (fun j e => by cases e; exact Nat.le_refl _)
      have hget := MV.get (MV.below HM2.out hb21) (Go.Maps.string_keyed Tryd.underlying9) Tryd.underlying41 (zero_sl _) hkey
      have q1 := (HQ1.out x).below hb21
      have q2 := (HQ2.out x).below hb21
      obtain ⟨ra, rc, e1, -⟩ := id q1
      obtain ⟨sa, sc, e2, -⟩ := id q2
      rw [e1] at hnx hen q1
      rw [e2] at hget q2
      have HEY := Lib.hid (equalY_same _ _ _ w21 (by have := (end_good N (by omega) x).2; exact Nat.le_trans this (by omega)) q2 q1)
      obtain ⟨g50, g51⟩ := res_kept HC5.out (b5_19.step hb21)
      obtain ⟨gy0, gy1⟩ := res_kept HC18.out (hb19.step hb21)
      have HR3 := Lib.hid hr3
      have HLT := Lib.hid hlt3
      clear hz3 hlt3 hkey hkl q1 q2 e1 e2 hr3 d50 d51 dy0 dy1
      unfold encStr at hnx hen hget
      go_wp2_with fail
      refine HEY.out.mono ?_
      rintro e w22 ⟨rfl, hb22⟩
      have hr4 := HR3.out.below hb22
      have hl4 := left_below HR3.out hb22
      have HLT2 := Lib.hid hl4
      clear hl4
      go_wp2_with fail
      go_roundw
      case rel => exact ⟨_, hr4, hb21.step hb22⟩
      case measure => rw [HLT2.out]; exact HLT.out
theorem costCausal_go (v : Value) (es : List Evt) (n by_ : Int) (w : World) (hr : RdE w.heap.size w v es) (hb : ∀ e ∈ es, EvBd e) (hl : es.length ≤ maxLen) (_ : (Lit.int .i64 n).wf = true) (_ : (Lit.int .i64 by_).wf = true) :
    Calls Tryd.prog 6 #[v, .int .i64 n, .int .i64 by_] w (Gives (.bool true) w) :=
  costCausal_any v es n by_ w hr (fun e he => (hb e he).1) hl
end Go.Proofs.YtefbedineniejaaDoor
