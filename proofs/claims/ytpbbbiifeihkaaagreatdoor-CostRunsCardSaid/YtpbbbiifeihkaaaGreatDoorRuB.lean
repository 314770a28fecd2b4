/- tallymanref's Sum and take: what they hand back, and what is left. -/
import Derived.Test.YtpbbbiifeihkaaaGreatDoorRuA
import Derived.Test.YtpbbbiifeihkaaaGreatDoorKitR
namespace Go.Proofs.YtpbbbiifeihkaaaGreatDoor
open Go.RowKit
open Go.Maps (Keyed)
set_option linter.unusedVariables false

set_option maxHeartbeats 2000000 in
set_option maxRecDepth 100000 in
theorem refSum_any (va : Value) (bl : Nat) (L : List UInt8 → List Lay) (s : ByteArray) (w : World) (hva : ∃ a n c, va = .slice a n c) (h : ∃ v, RdY w v (L s.data.toList) ∧ ∀ W, Below w.heap.size w W → (Instr.lookup 26 (.map (some bl)) (.string s) false).run Tryz.prog W = .ok v W) (hs : s.size ≤ maxLen) (hg : GoodY 20000000000000 (L s.data.toList)) (hl : (L s.data.toList).length ≤ 1000) :
    Calls Tryz.prog 9 #[.agg #[va, .map (some bl)], .string s] w fun e w' => e = .returned (.tuple #[.int .i64 (sumQ (L s.data.toList)), .int .i64 (sumV (L s.data.toList))]) ∧ Below w.heap.size w w' := by
  obtain ⟨xa, xn, xc, rfl⟩ := hva
  obtain ⟨v, hr, hlook⟩ := h
  obtain ⟨W0, hW0⟩ : ∃ W0, W0 = w.alloc (.cells #[.slice xa xn xc, .map (some bl)] 28) := ⟨_, rfl⟩
  have hb0 : Below w.heap.size w W0 := by rw [hW0]; exact (Below.refl _ w).new _
  have look := hlook W0 hb0
  have hr1 := hr.below hb0
  rw [hW0] at look
  generalize L s.data.toList = ls at hr1 hg hl ⊢
  obtain ⟨a, cp, rfl, -⟩ := id hr1
  have HR : Aside (RdY W0 (.slice a ls.length cp) ls) := hr1
  have HG : Aside _ := hg
  have HW := Lib.hid hW0
  have HB0 := Lib.hid hb0
  clear hr hr1 hg hlook hb0 hW0
  go_enter Tryz.func9, Tryz.ntmps9
  go_wp2
  rw [← HW.out]
  clear look
  go_loopg [4, 5, 13] ls.length (fun kx q v i wr => ∃ k : Nat, k ≤ ls.length ∧ q = .int .i64 (sumQ (ls.take k)) ∧ v = .int .i64 (sumV (ls.take k)) ∧ i = .int .i64 k ∧ ls.length - k ≤ kx ∧ Below W0.heap.size W0 wr)
  case atStart => exact ⟨0, by omega, rfl, rfl, rfl, by omega, Below.refl _ _⟩
  case round =>
    obtain ⟨k, hk, rfl, rfl, rfl, hkx, hb⟩ := hrel
    by_cases hlt : k < ls.length
    · have hltz : (k : Int) < (ls.length : Int) := by omega
      obtain ⟨-, b, off, rfl, p0, p1, p2⟩ := (HR.out.below hb).at k hlt
      have hx := HG.out.1 ls[k] (List.getElem_mem hlt)
      have hbd := sumQ_bd (ls.take k) (fun x hx => by have := HG.out.1 x (List.mem_of_mem_take hx); omega)
      have hbv := sumV_take HG.out.1 k
      have hbv2 := sumV_take HG.out.1 (k + 1)
      have hB2 := HG.out.2
      have hS : Hid (sumQ (ls.take (k + 1)) = sumQ (ls.take k) + ls[k].qty) := by show _ = _; rw [List.take_succ_eq_append_getElem hlt, sumQ_snoc]
      have hV' : sumV (ls.take (k + 1)) = sumV (ls.take k) + ls[k].val := by rw [List.take_succ_eq_append_getElem hlt, sumV_snoc]
      rw [hV'] at hbv2
      have hV := Lib.hid hV'
      have htl : (ls.take k).length ≤ 1000 := by rw [List.length_take]; omega
      generalize ls[k] = x at p0 p1 p2 hx hS hV hbv2
      generalize sumQ (ls.take k) = S at hbd hS ⊢
      generalize sumV (ls.take k) = V at hbv hbv2 hV ⊢
      generalize sumV ls = VV at hbv hbv2 hB2
      clear hV'
      go_wp2
      go_roundg (ls.length - (k + 1))
      case measure => omega
      case rel => exact ⟨k + 1, hlt, by rw [hS.out], by rw [hV.out], by first | rfl | go_num | (congr 1; omega), Nat.le_refl _, hb.new _⟩
    · have hltz : ¬ (k : Int) < (ls.length : Int) := by omega
      have hke : k = ls.length := by omega
      subst hke
      rw [List.take_length]
      go_wp2
      go_ret2
      exact ⟨rfl, HB0.out.step hb⟩
theorem takeP_zero (r : List Lay) : takeP r 0 = (0, 0, r) := by
  cases r with
  | nil => rfl
  | cons x r => rw [takeP, if_pos (Int.le_refl 0)]
theorem takeP_less (x : Lay) (r : List Lay) (n : Int) (hn : 0 ≤ n) (hx : n < x.qty) : takeP (x :: r) n = (x.val * n / x.qty, 0, ⟨x.id, x.qty - n, x.val - x.val * n / x.qty⟩ :: r) := by
  rw [takeP]
  by_cases h : n ≤ 0
  · have : n = 0 := by omega
    subst this
    rw [if_pos h]
    simp
  · rw [if_neg h, if_pos hx]
theorem takeP_whole (x : Lay) (r : List Lay) (n : Int) (hq : 1 ≤ x.qty) (hx : ¬ n < x.qty) : takeP (x :: r) n = (x.val + (takeP r (n - x.qty)).1, (takeP r (n - x.qty)).2.1, (takeP r (n - x.qty)).2.2) := by
  rw [takeP, if_neg (by omega), if_neg hx]
theorem info_layP : ∃ i0, Tryz.prog.info? 96 = some i0 ∧ i0.zero = some (.agg #[.int .i64 0, .int .i64 0, .int .i64 0]) ∧ i0.size = 3 ∧ i0.bytes = 24 := info_parts info_lay
theorem lay_cells {W : World} {b : Nat} {i q v : Int} (h : W.heap[b]? = some (.cells #[.int .i64 i, .int .i64 q, .int .i64 v] 96 (0, 0))) : W.cell? ⟨b, 0, none⟩ = some (.int .i64 i) ∧ W.cell? ⟨b, 1, none⟩ = some (.int .i64 q) ∧ W.cell? ⟨b, 2, none⟩ = some (.int .i64 v) := by
  refine ⟨?_, ?_, ?_⟩ <;> simp [World.cell?, h]
theorem one_layc (x : Lay) : ∀ u ∈ x.cells, u.oneCell' = true := by
  intro u hu
  simp only [Lay.cells, List.mem_cons, List.not_mem_nil, or_false] at hu
  rcases hu with rfl | rfl | rfl <;> rfl
set_option maxHeartbeats 4000000 in
set_option maxRecDepth 100000 in
theorem refTake_any (R B bl bm c : Nat) (L : List UInt8 → List Lay) (G : List UInt8 → Int) (s : ByteArray) (n : Int) (w : World) (h : QW w B bl bm c L G) (hR : w.cell? ⟨R, 1, none⟩ = some (.map (some bl))) (hB : B ≤ w.heap.size) (hs : s.size ≤ maxLen) (hc : c < 1000000)
    (hl : (L s.data.toList).length ≤ 1000) (hg : GoodY 20000000000000 (L s.data.toList)) (hn : 0 ≤ n) (hn2 : n ≤ 1000000000) (hw : NW w) :
    Calls Tryz.prog 38 #[.pointer (some ⟨R, 0, none⟩), .string s, .int .i64 n] w fun e w' => e = .returned (.tuple #[.int .i64 (takeP (L s.data.toList) n).1, .int .i64 (takeP (L s.data.toList) n).2.1]) ∧ QW w' B bl bm (c + 1) (updL L s.data.toList (takeP (L s.data.toList) n).2.2) G ∧ Li bl bm w w' := by
  obtain ⟨v, hr, hlook⟩ := h.looks s hs
  have look := hlook w (Below.refl _ _)
  have HSET : Aside (∀ (W : World) (v : Value) (ls : List Lay), Below w.heap.size w W → W.ownsRow w.heap.size 96 3 v ls.length (flY ls) → ∃ w', (Instr.mapUpdate 26 (.map (some bl)) (.string s) v).run Tryz.prog W = .ok () w' ∧ QW w' B bl bm (c + 1) (updL L s.data.toList ls) G ∧ Li bl bm W w') :=
    fun W v ls hb hv => h.set hb hB s hs (by unfold maxLen; omega) v ls hv
  have HRT : Aside (∀ W, Below w.heap.size w W → W.cell? ⟨R, 1, none⟩ = some (.map (some bl))) := fun W hb => (hb.cell (cell_blk hR)).trans hR
  have HNW : Aside (∀ W, Below w.heap.size w W → NW W) := fun W hb => hw.below hb
  obtain ⟨i0, hinf, hiz, his, hib⟩ := info_layP
  generalize L s.data.toList = ls at hr look hl hg HSET ⊢
  obtain ⟨a, cp, rfl, -⟩ := id hr
  have HR : Aside (RdY w (.slice a ls.length cp) ls) := hr
  have HG : Aside _ := hg
  clear h hr hg hlook hw
  go_enter Tryz.func38, Tryz.ntmps38
  go_wp2
  go_loopg [2, 6, 8, 21] ls.length (fun kx n' v' l' i wr => ∃ (k : Nat) (N V : Int) (lf : List Lay), k ≤ ls.length ∧ n' = .int .i64 N ∧ v' = .int .i64 V ∧ i = .int .i64 k ∧ ls.length - k ≤ kx ∧ 0 ≤ N ∧ N ≤ 1000000000 ∧ 0 ≤ V ∧ V + sumV (ls.drop k) ≤ 20000000000000 ∧ lf.length ≤ k ∧ Below w.heap.size w wr ∧ Aside (wr.ownsRow w.heap.size 96 3 l' lf.length (flY lf)) ∧ Hid (takeP ls n = (V + (takeP (ls.drop k) N).1, (takeP (ls.drop k) N).2.1, lf ++ (takeP (ls.drop k) N).2.2)))
  case atStart => exact ⟨0, n, 0, [], by omega, rfl, rfl, rfl, by omega, hn, hn2, by omega, by simpa using HG.out.2, by simp, Below.refl _ _, World.ownsRow_nil _ _ _ _, by show _ = _; simp⟩
  case round =>
    clear look
    obtain ⟨k, N, V, lf, hk, rfl, rfl, rfl, hkx, hN, hN2, hV, hVS, hlf, hb, HO, HE⟩ := hrel
    by_cases hlt : k < ls.length
    · have hltz : (k : Int) < (ls.length : Int) := by omega
      obtain ⟨-, b, off, rfl, p0, p1, p2⟩ := (HR.out.below hb).at k hlt
      have hx := HG.out.1 ls[k] (List.getElem_mem hlt)
      have hsr : 0 ≤ sumV (ls.drop (k + 1)) := sumV_nn fun y hy => HG.out.1 y (List.mem_of_mem_drop hy)
      have hdr : ls.drop k = ls[k] :: ls.drop (k + 1) := List.drop_eq_getElem_cons hlt
      have HE' := HE.out
      rw [hdr] at HE'
      rw [hdr, sumV_cons] at hVS
      clear hdr HE
      obtain ⟨rest, hrest⟩ : ∃ r, r = ls.drop (k + 1) := ⟨_, rfl⟩
      rw [← hrest] at HE' hVS hsr
      have HRS := Lib.hid hrest
      generalize ls[k] = x at p0 p1 p2 hx HE' hVS
      clear hrest
      obtain ⟨xi, xq, xv⟩ := x
      simp only at p0 p1 p2 hx hVS
      by_cases hless : N < xq
      · have HE2 := HE'.trans (by rw [takeP_less ⟨xi, xq, xv⟩ rest N hN hless])
        simp only at HE2
        have hv0 : 0 ≤ xv * N / xq := Int.ediv_nonneg (Int.mul_nonneg hx.2.2 hN) (by omega)
        have hv1 : xv * N / xq ≤ xv := Int.ediv_le_of_le_mul (by omega) (Int.mul_le_mul_of_nonneg_left (by omega) hx.2.2)
        have HPT := Lib.hid (fun W (hW : NW W) => refPart_ok xv N xq W hW (by omega) (by omega) (by omega) (by omega) hN (by omega))
        generalize xv * N / xq = T at HE2 hv0 hv1 HPT
        have HE3 : Hid (takeP ls n = (V + T + (takeP rest 0).1, (takeP rest 0).2.1, (lf ++ [⟨xi, xq - N, xv - T⟩]) ++ (takeP rest 0).2.2)) := Lib.hid (by rw [takeP_zero, HE2]; simp)
        have hz : N - N = 0 := by omega
        clear HE' HE2
        go_wp2_with (first
          | (go_at_call 69; refine (HPT.out _ (HNW.out _ (hb.new _))).mono ?_; rintro e w5 ⟨rfl, hb5⟩; have hbx := ((Below.refl _ wr).new (.cells #[.int .i64 xi, .int .i64 xq, .int .i64 xv] 96)).step hb5; have hbw := hb.step hbx; have ho5 := own_below HO.out hbx; obtain ⟨d0, d1, d2⟩ := lay_cells ((hb5.block _ (by simp)).trans (World.alloc_heap_new wr _)); have hz5 := hbw.size; clear hb5 HO)
          | (at_builtin; refine app_one (w := w5) rfl (.tmp 50) (.tmp 62) 34 rfl w.heap.size 96 i0 (.agg #[.int .i64 0, .int .i64 0, .int .i64 0]) 3 24 Tryz.underlying34 hinf hiz his hib rfl (by decide) _ _ _ ho5 rfl (Lay.cells ⟨xi, xq - N, xv - T⟩) rfl rfl (one_layc _) (by unfold maxLen; omega) (by omega) hz5 ?_; intro v2 w2 hown2 hg2))
        have hb2 := hbw.owngrown ho5 hg2
        go_roundg (ls.length - (k + 1))
        case measure => omega
        case rel =>
          refine ⟨k + 1, 0, V + T, lf ++ [⟨xi, xq - N, xv - T⟩], hlt, by first | rfl | go_num | (congr 1; omega), by first | rfl | go_num | (congr 1; omega), by first | rfl | go_num | (congr 1; omega), Nat.le_refl _, by omega, by omega, by omega, by rw [← HRS.out]; omega, by simp; omega, hb2, (show Aside _ from ?_), by rw [← HRS.out]; exact HE3⟩
          show World.ownsRow _ _ _ _ _ _ _
          rw [flY_app, List.length_append]
          exact hown2
      · have HE2 := HE'.trans (by rw [takeP_whole ⟨xi, xq, xv⟩ rest N hx.1 hless])
        simp only at HE2
        have HPT := Lib.hid (fun W (hW : NW W) => refPart_ok xv xq xq W hW (by omega) (by omega) (by omega) (by omega) (by omega) (by omega))
        rw [Int.mul_ediv_cancel _ (show xq ≠ 0 by omega)] at HPT
        have HE3 : Hid (takeP ls n = (V + xv + (takeP rest (N - xq)).1, (takeP rest (N - xq)).2.1, lf ++ (takeP rest (N - xq)).2.2)) := Lib.hid (by rw [HE2]; simp [Int.add_assoc])
        have hzz : ¬ xq < xq := by omega
        clear HE' HE2
        go_wp2_with (first
          | (go_at_call 69; refine (HPT.out _ (HNW.out _ (hb.new _))).mono ?_; rintro e w5 ⟨rfl, hb5⟩; have hbx := ((Below.refl _ wr).new (.cells #[.int .i64 xi, .int .i64 xq, .int .i64 xv] 96)).step hb5; have hbw := hb.step hbx; have ho5 := own_below HO.out hbx; obtain ⟨d0, d1, d2⟩ := lay_cells ((hb5.block _ (by simp)).trans (World.alloc_heap_new wr _)); have hz5 := hbw.size; clear hb5 HO))
        go_roundg (ls.length - (k + 1))
        case measure => omega
        case rel =>
          exact ⟨k + 1, N - xq, V + xv, lf, hlt, by first | rfl | go_num | (congr 1; omega), by first | rfl | go_num | (congr 1; omega), by first | rfl | go_num | (congr 1; omega), Nat.le_refl _, by omega, by omega, by omega, by rw [← HRS.out]; omega, by omega, hbw, ho5, by rw [← HRS.out]; exact HE3⟩
    · have hltz : ¬ (k : Int) < (ls.length : Int) := by omega
      have hke : k = ls.length := by omega
      subst hke
      have hE := HE.out
      rw [List.drop_length, takeP] at hE
      simp only [List.append_nil, Int.add_zero] at hE
      have HE2 := Lib.hid hE
      obtain ⟨w', hrun, hq, hli⟩ := HSET.out wr _ lf hb HO.out
      have hrt := HRT.out wr hb
      have HQ := Lib.hid hq
      have HLI := Lib.hid ((Li.of_below (bl := bl) (bm := bm) hb).trans hli)
      clear hq hli hE HE
      go_wp2
      go_ret2
      rw [HE2.out]
      exact ⟨rfl, HQ.out, HLI.out⟩
end Go.Proofs.YtpbbbiifeihkaaaGreatDoor
