/- CostEmpties: the law's own walk. -/
import Derived.Test.YtefbedineniejaaDoorCsZ
import Derived.Test.YtefbedineniejaaDoorJoined10
import Derived.Test.YtefbedineniejaaDoorJoined1
import Derived.Test.YtefbedineniejaaDoorJoined8
namespace Go.Proofs.YtefbedineniejaaDoor
open Go.RowKit
open Go.Maps (Keyed)
set_option linter.unusedVariables false

theorem region_cut {P : Program} {c : Code} {a : Act} {w : World} {Q : Exit → Act → World → Prop} {T : (Nat → Value) → Act} (F : (Nat → Value) → World → Prop) (h : c.wp P (fun e a' w' => e = .normal ∧ ∃ x, a' = T x ∧ F x w') a w) (hq : ∀ x w', F x w' → Q .normal (T x) w') : c.wp P Q a w :=
  wp_mono h fun e a' w' ⟨he, x, ha, hf⟩ => by subst he; subst ha; exact hq x w' hf
theorem region_ops {P : Program} {id : Nat} {ops ops' : Array Oper} {a : Act} {w : World} {Q : Exit → Act → World → Prop} (h : ops = ops') (k : (Code.region id ops' true).wp P Q a w) : (Code.region id ops true).wp P Q a w := h ▸ k
theorem res_cells {w : World} {b : Nat} {va m : Value} (h : w.heap[b]? = some (.cells #[va, m] 43 (0, 0))) {w' : World} (hb : Below w.heap.size w w') : w'.cell? ⟨b, 0, none⟩ = some va ∧ w'.cell? ⟨b, 1, none⟩ = some m := by
  have := (hb.block _ (Array.getElem?_eq_some_iff.1 h).1).trans h
  simp [World.cell?, this]
theorem flN_len (ls : List Ln) : (flN ls).length = ls.length * 5 := by
  induction ls with
  | nil => rfl
  | cons e es ih => simp only [flN, List.flatMap_cons, List.length_append, List.length_cons] at ih ⊢; rw [ih]; simp [Ln.cells]; omega
/-- A run's result whose last line is known. -/
theorem aft_one {w : World} {B bl : Nat} {va : Value} {es : List Evt} {ls : List Ln} {x : Ln} {st : Stk} (h : ResP w B va bl es) (hrun : runP stk0 (Stb.isort leE es) = (ls ++ [x], st)) (n : Nat) (hn : ls.length = n) :
    ∃ g off cap, va = .slice (some ⟨g, off, none⟩) (n + 1) cap ∧ (∀ W, Below w.heap.size w W → ∀ j u, x.cells[j]? = some u → W.cell? ⟨g, off + n * 5 + j, none⟩ = some u) ∧
      ∀ s : ByteArray, s.size ≤ maxLen → ∃ a c, RdY w (.slice a (st.lay s.data.toList).length c) (st.lay s.data.toList) ∧ ∀ W, Below w.heap.size w W → (Instr.lookup 41 (.map (some bl)) (.string s) false).run Tryd.prog W = .ok (.slice a (st.lay s.data.toList).length c) W := by
  obtain ⟨ho, hk⟩ := h
  rw [hrun] at ho hk
  simp only [List.length_append, List.length_cons, List.length_nil, Nat.zero_add, hn] at ho
  obtain ⟨xa, xc, rfl⟩ := own_slice ho
  obtain ⟨g, rfl, -, hc⟩ := rdN_cells ho (n * 5) (by rw [flN_len]; simp [hn])
  refine ⟨g, 0, xc, rfl, fun W hW j u hj => ?_, fun s hs => ?_⟩
  · rw [show 0 + n * 5 + j = n * 5 + j by omega]
    refine hc W hW (n * 5 + j) u ?_
    rw [flN_snoc, List.getElem?_append_right (by rw [flN_len, hn]; omega), flN_len, hn, show n * 5 + j - n * 5 = j by omega]
    exact hj
  · obtain ⟨v, hv, hl⟩ := hk.looks s hs
    obtain ⟨a, c, rfl, -⟩ := id hv
    exact ⟨a, c, hv, hl⟩
/-- The three events. -/
def ceE (n : Nat) (s : ByteArray) (q : Int) : Nat → Evt := fun k => if k = 0 then ⟨n + 1, s, 3, q, 0, 0, 99999⟩ else if k = 1 then ⟨n + 2, s, 4, 0, 0, 0, 99999⟩ else ⟨n + 1, s, 4, q, 0, 0, 99999⟩
theorem ce_blocks (w : World) (n : Nat) (s : ByteArray) (q : Int) : ∃ W, W = (((w.alloc (.cells #[.int .i64 (n + 1), .string s, .int .i64 3, .int .i64 q, .int .i64 0, .int .i64 0, .int .i64 99999] 50)).alloc (.cells #[.int .i64 (n + 2), .string s, .int .i64 4, .int .i64 0, .int .i64 0, .int .i64 0, .int .i64 99999] 50)).alloc (.cells #[.int .i64 (n + 1), .string s, .int .i64 4, .int .i64 q, .int .i64 0, .int .i64 0, .int .i64 99999] 50)) ∧
    Below w.heap.size w W ∧ W.heap.size = w.heap.size + 3 ∧ ∀ k, k < 3 → W.heap[w.heap.size + k]? = some (.cells (ceE n s q k).cells.toArray 50 (0, 0)) := by
  refine ⟨_, rfl, (((Below.refl _ w).new _).new _).new _, by simp, fun k hk => ?_⟩
  have hk3 : k = 0 ∨ k = 1 ∨ k = 2 := by omega
  rcases hk3 with rfl | rfl | rfl
  · exact ((((Below.refl _ _).new _).new _).block w.heap.size (by simp)).trans (World.alloc_heap_new w _)
  · have h := World.alloc_heap_new (w.alloc (.cells #[.int .i64 (n + 1), .string s, .int .i64 3, .int .i64 q, .int .i64 0, .int .i64 0, .int .i64 99999] 50)) (.cells #[.int .i64 (n + 2), .string s, .int .i64 4, .int .i64 0, .int .i64 0, .int .i64 0, .int .i64 99999] 50)
    simp only [World.size_alloc] at h
    exact (((Below.refl _ _).new _).block (w.heap.size + 1) (by simp)).trans h
  · have h := World.alloc_heap_new ((w.alloc (.cells #[.int .i64 (n + 1), .string s, .int .i64 3, .int .i64 q, .int .i64 0, .int .i64 0, .int .i64 99999] 50)).alloc (.cells #[.int .i64 (n + 2), .string s, .int .i64 4, .int .i64 0, .int .i64 0, .int .i64 0, .int .i64 99999] 50)) (.cells #[.int .i64 (n + 1), .string s, .int .i64 4, .int .i64 q, .int .i64 0, .int .i64 0, .int .i64 99999] 50)
    simp only [World.size_alloc] at h
    exact h
set_option maxHeartbeats 4000000 in
set_option maxRecDepth 100000 in
theorem costEmpties_any (v : Value) (es : List Evt) (w : World) (hr : RdE w.heap.size w v es) (hsz : ∀ e ∈ es, e.item.size ≤ 9223372036854775807) (hlen : es.length ≤ 9223372036854775807) :
    Calls Tryd.prog 4 #[v] w (Gives (.bool true) w) := by
  have HH := Lib.hid (held_any w.heap.size v es w hr (Nat.le_refl _) hsz hlen)
  by_cases hH : (decide (es.length ≤ 40) && !es.any fun e => decide (60 < e.item.size)) = true
  case neg =>
    rw [Bool.not_eq_true] at hH
    rw [hH] at HH
    clear hr hsz hlen hH
    go_enter Tryd.func4, Tryd.ntmps4
    go_wp2_with fail
    refine HH.out.mono ?_
    rintro e w1 ⟨rfl, hb1⟩
    go_wp2_with fail
    go_ret
    exact ⟨rfl, hb1⟩
  rw [hH] at HH
  have h40 : es.length ≤ 40 := by
    simp only [Bool.and_eq_true, decide_eq_true_eq] at hH
    exact hH.1
  have h60 : ∀ e ∈ es, e.item.size ≤ 60 := by
    simp only [Bool.and_eq_true, Bool.not_eq_true', List.any_eq_false, decide_eq_true_eq] at hH
    intro e he
    have := hH.2 e he
    omega
  have HR := Lib.hid hr
  have HSZ : Hid (∀ e ∈ es, e.item.size ≤ 1000000) := Lib.hid fun e he => Nat.le_trans (h60 e he) (by omega)
  clear hr hsz hlen hH h60
  go_enter Tryd.func4, Tryd.ntmps4
  go_wp2_with fail
  refine HH.out.mono ?_
  rintro e w1 ⟨rfl, hb1⟩
  go_wp2_with fail
  refine (told_any w1).mono ?_
  rintro e w2 ⟨rfl, hb2⟩
  have B2 := hb1.step hb2
  go_wp2_with fail
  refine (numbered_any w.heap.size v es w2 (HR.out.below B2) B2.size HSZ.out (by omega)).mono ?_
  rintro e w3 ⟨v3, rfl, ho3, hb3⟩
  have B3 := B2.step hb3
  have R3 : RdE w3.heap.size w3 v3 (numF es) := rdE_of_own ho3 rfl
  have n40 : (numF es).length ≤ 40 := Nat.le_trans (numF_len es) h40
  have NR := Lib.hid (numF_right es)
  have NSZ : Hid (∀ e ∈ numF es, e.item.size ≤ 1000000) := Lib.hid fun e he => by have := (right_bd (NR.out e he)).1; omega
  clear ho3 HR HSZ HH hb1 hb2 hb3 B2
  obtain ⟨N, hN⟩ : ∃ N, N = numF es := ⟨_, rfl⟩
  rw [← hN] at R3 n40 NR NSZ
  clear hN h40
  obtain ⟨a3, c3, rfl⟩ := R3.shape
  have HR3 := Lib.hid R3
  have HRUN := Lib.hid (run_any a3 N.length c3 N w3 R3 (by omega) NSZ.out)
  clear R3
  go_wp2_with fail
  refine HRUN.out.mono ?_
  rintro e w4 ⟨va, bl, rfl, ho4, hk4, -, hb4⟩
  obtain ⟨xa, xc, rfl⟩ := own_slice ho4
  clear ho4 HRUN
  obtain ⟨xn, hxn⟩ : ∃ xn, xn = (runP stk0 (Stb.isort leE N)).1.length := ⟨_, rfl⟩
  rw [← hxn]
  clear hxn
  go_wp2_with fail
  obtain ⟨W5, hW5⟩ : ∃ W5, W5 = w4.alloc (.cells #[.slice xa xn xc, .map (some bl)] 43) := ⟨_, rfl⟩
  rw [← hW5]
  obtain ⟨R, hR⟩ : ∃ R, R = w4.heap.size := ⟨_, rfl⟩
  rw [← hR]
  have hb5 : Below w4.heap.size w4 W5 := by rw [hW5]; exact (Below.refl _ w4).new _
  have hc5 : W5.heap[R]? = some (.cells #[.slice xa xn xc, .map (some bl)] 43 (0, 0)) := by rw [hW5, hR]; exact World.alloc_heap_new _ _
  have HK5 := Lib.hid (hk4.below hb5)
  have b35 := hb4.step hb5
  have B5 := B3.step b35
  have HR5 := Lib.hid (HR3.out.below b35)
  clear hW5 hk4 hb4 hb5 B3 hR
  refine (items_any _ _ N W5 HR5.out b35.size (by omega)).mono ?_
  rintro e w6 ⟨v6, rfl, ho6, hb6⟩
  obtain ⟨ia, ic, rfl, hi6, -, -⟩ := rd_of_own ho6
  have IL := itemF_len N
  have HIM := Lib.hid (itemF_mem N)
  have HI6 := Lib.hid hi6
  have HR6 : Hid (RdE w6.heap.size w6 (.slice a3 N.length c3) N) := Lib.hid ((HR5.out.below (hb6.mono b35.size)).mono (Nat.le_trans b35.size hb6.size))
  have HK6 := Lib.hid (HK5.out.below hb6)
  have hc6 := (hb6.block _ (Array.getElem?_eq_some_iff.1 hc5).1).trans hc5
  have B6 := B5.step hb6
  clear ho6 hi6 HR5 HR3 HK5 hc5 B5 b35 hb6
  obtain ⟨its, hits⟩ : ∃ its, its = itemF N := ⟨_, rfl⟩
  rw [← hits] at IL HIM HI6 ⊢
  clear hits
  have HC6 := Lib.hid hc6
  clear hc6
  go_wp2
  go_loopg [5] its.length (fun kx i wr => ∃ k : Nat, k ≤ its.length ∧ i = .int .i64 k ∧ its.length - k ≤ kx ∧ Below w6.heap.size w6 wr)
  case atStart => exact ⟨0, by omega, rfl, by omega, Below.refl _ _⟩
  case round =>
    obtain ⟨k, hk, rfl, hkx, hb⟩ := hrel
    by_cases hlt : k < its.length
    · have hltz : (k : Int) < (its.length : Int) := by omega
      obtain ⟨ib, io, rfl, hci⟩ := Rd.strs HI6.out k hlt
      have hib : ib < w6.heap.size := cell_lt hci
      obtain ⟨s, hs⟩ : ∃ s, s = its.getD k ByteArray.empty := ⟨_, rfl⟩
      have HM : Hid (∃ e ∈ N, e.item = s) := Lib.hid (HIM.out s (by rw [hs, List.getD_eq_getElem?_getD, List.getElem?_eq_getElem hlt]; exact List.getElem_mem hlt))
      rw [← hs] at hci
      clear hs
      have hssz : s.size ≤ 1000000 := by obtain ⟨e, he, rfl⟩ := HM.out; exact NSZ.out e he
      obtain ⟨hgd, hgl⟩ := end_good N (by omega) s.data.toList
      obtain ⟨q, hq⟩ : ∃ q, q = sumQ ((endS N).lay s.data.toList) := ⟨_, rfl⟩
      obtain ⟨vv, hvv⟩ : ∃ vv, vv = sumV ((endS N).lay s.data.toList) := ⟨_, rfl⟩
      have HS : Hid (∀ p : Since wr, Calls Tryd.prog 19 #[.agg #[.slice xa xn xc, .map (some bl)], .string s] p.w' fun e w' => e = .returned (.tuple #[.int .i64 q, .int .i64 vv]) ∧ Below p.w'.heap.size p.w' w') := Lib.hid fun p => by
        rw [hq, hvv]
        exact sum_any _ bl _ s p.w' ⟨_, _, _, rfl⟩ (HK6.out.below (hb.step p.h)) (by unfold maxLen; omega) hgd (by omega)
      have hq0 : 0 ≤ q ∧ q ≤ 14000000 := by
        have := sumQ_bd _ (fun x hx => ⟨by have := (hgd.1 x hx).1; omega, (hgd.1 x hx).2.1⟩)
        rw [← hq] at this
        omega
      have HQ := Lib.hid hq
      have HV := Lib.hid hvv
      have HGD := Lib.hid hgd
      clear hq hvv hgd hgl
      go_wp2_with fail
      have hcR : ∀ p : Since wr, p.w'.cell? ⟨R, 0, none⟩ = some (.slice xa xn xc) ∧ p.w'.cell? ⟨R, 1, none⟩ = some (.map (some bl)) := fun p => res_cells HC6.out (hb.step p.h)
      have hcI : ∀ p : Since wr, p.w'.cell? ⟨ib, io + k, none⟩ = some (.string s) := fun p => ((hb.step p.h).cell (p := ⟨ib, io + k, none⟩) hib).trans hci
      refine wp_region_since (by kernel_rfl) (by kernel_rfl) ?_
      repeat (quiet_step (with_reducible exact Calls.since_of (HS.out _)))
      refine wpQuiet_nil ?_
      intro w7 hw'
      obtain ⟨p, hp⟩ := hw'
      have hb7 : Below w6.heap.size w6 w7 := by rw [hp]; exact hb.step p.h
      clear hp p hcR hcI HS hb
      by_cases hz : q = 0 ∨ 100000 < q
      · have hor : ((q == 0) || decide (q > 100000)) = true := by
          rcases hz with h | h
          · simp [h]
          · simp [h]
        rcases hz with rfl | hz
        · go_wp2_with fail
          go_roundg (its.length - (k + 1))
          case measure => omega
          case rel => exact ⟨k + 1, by omega, by go_num, by omega, hb7⟩
        · have h0 : (q == 0) = false := by simp; omega
          go_wp2_with fail
          go_roundg (its.length - (k + 1))
          case measure => omega
          case rel => exact ⟨k + 1, by omega, by go_num, by omega, hb7⟩
      · have h0 : (q == 0) = false := by simp; omega
        have hq1 : 1 ≤ q ∧ q ≤ 100000 := by omega
        clear hz hq0
        have hci7 : w7.cell? ⟨ib, io + k, none⟩ = some (.string s) := (hb7.cell (p := ⟨ib, io + k, none⟩) hib).trans hci
        have hib7 : ib < w7.heap.size := Nat.lt_of_lt_of_le hib hb7.size
        have hib8 : ib < w7.heap.size + 1 := by omega
        have hne : ib ≠ w7.heap.size := by omega
        have hne1 : ib ≠ w7.heap.size + 1 := by omega
        go_wp2_with fail
        obtain ⟨W8, hW8, hb8, hz8, hB8⟩ := ce_blocks w7 N.length s q
        rw [← hW8]
        clear hW8
        have B8 : Below w6.heap.size w6 W8 := hb7.step hb8
        have HN8 := Lib.hid (HR6.out.below B8)
        refine (containsE_any 21 #[] (fun e => e.day == 99999) _ _ N W8 HN8.out B8.size (by omega) (enters_of Tryd.func21 (by kernel_rfl) rfl) (fun e he W _ => late_any e W)).mono ?_
        rintro e w9 ⟨rfl, hb9⟩
        have B9 := B8.step hb9
        cases hL : (N.any fun e => e.day == 99999) with
        | true =>
          go_wp2_with fail
          go_ret
          exact ⟨rfl, B6.step B9⟩
        | false =>
          go_wp2_with fail
          have HD : Hid (∀ e ∈ N, e.day < 99999) := Lib.hid fun e he => by
            have h1 := (List.any_eq_false.1 hL) e he
            obtain ⟨-, -, h2, -⟩ : Ev.RightP _ _ _ _ _ _ := of_decide_eq_true (NR.out e he)
            simp at h1
            omega
          have HRd : Hid (RdE w9.heap.size w9 (.slice a3 N.length c3) N) := Lib.hid ((HN8.out.below (hb9.mono B8.size)).mono B9.size)
          have HBl : Hid (∀ k, k < 3 → w9.heap[w7.heap.size + k]? = some (.cells (ceE N.length s q k).cells.toArray 50 (0, 0))) := Lib.hid fun k hk => (hb9.block (w7.heap.size + k) (show w7.heap.size + k < W8.heap.size by omega)).trans (hB8 k hk)
          have HsE : Hid (∀ k, k < 3 → (ceE N.length s q k).item.size ≤ 1000000) := Lib.hid fun k hk => by
            have hk3 : k = 0 ∨ k = 1 ∨ k = 2 := by omega
            rcases hk3 with rfl | rfl | rfl <;> exact hssz
          clear hb8 hz8 hB8 HN8 hb9 hL B8
          refine region_cut (T := ?T2) (fun x w' => Aft w9 N (ceE N.length s q) x w') ?h2 ?q2
          case h2 =>
            refine region_ops (ops' := ops19) (by kernel_rfl) ?_
            refine region19 (es := N) (vl := .slice a3 N.length c3) (E := ceE N.length s q) (B := fun k => w7.heap.size + k) ⟨rfl, rfl, ?t8, HBl.out, HRd.out, by omega, NSZ.out, HsE.out⟩ ?hq
            case t8 =>
              intro k' hk'
              rcases k' with _ | _ | _ | k'
              · rfl
              · rfl
              · rfl
              · exact absurd (show k' + 3 < 3 from hk') (by omega)
            case hq =>
              intro x w' hA
              refine ⟨rfl, x, ?_, hA⟩
              exact rfl
          rintro x w10 ⟨hb10, b, blf, vaf, hF⟩
          obtain ⟨p0, z0, k0, r0⟩ := hF 0 (by omega)
          obtain ⟨p1, z1, k1, r1⟩ := hF 1 (by omega)
          obtain ⟨p2, z2, k2, r2⟩ := hF 2 (by omega)
          have e12 : x 12 = .pointer (some ⟨b 0, 0, none⟩) := p0
          have e13 : x 13 = .pointer (some ⟨b 1, 0, none⟩) := p1
          have e14 : x 14 = .pointer (some ⟨b 2, 0, none⟩) := p2
          have hNl : (endN N).length = N.length := endN_len N NR.out
          obtain ⟨g0, f0, cp0, hva0, ln0, lk0⟩ := aft_one r0 (emp_out (by omega) HD.out NR.out HM.out _ HQ.out hq1) N.length hNl
          obtain ⟨g1, f1, cp1, hva1, ln1, lk1⟩ := aft_one r1 (emp_none (by omega) HD.out NR.out HM.out _ HQ.out hq1) N.length hNl
          obtain ⟨g2, f2, cp2, hva2, ln2, lk2⟩ := aft_one r2 (emp_same HD.out NR.out HM.out _ HQ.out hq1) N.length hNl
          obtain ⟨la0, lc0, -, lr0⟩ := lk0 s (by unfold maxLen; omega)
          obtain ⟨la1, lc1, -, lr1⟩ := lk1 s (by unfold maxLen; omega)
          obtain ⟨la2, lc2, ly2, lr2⟩ := lk2 s (by unfold maxLen; omega)
          simp only [updL_same, List.length_nil] at lr0 lr1 lr2 ly2
          rw [hva0] at k0
          rw [hva1] at k1
          rw [hva2] at k2
          rw [← HV.out] at ln0 ln1
          simp only [ov, S19, List.foldl_cons, List.foldl_nil]
          have hib10 : ib < w10.heap.size := Nat.lt_of_lt_of_le hib (Nat.le_trans B9.size hb10.size)
          have B10 : Below w6.heap.size w6 w10 := B9.trans (hb10.mono B9.size)
          have hci10 : w10.cell? ⟨ib, io + k, none⟩ = some (.string s) := (B10.cell (p := ⟨ib, io + k, none⟩) hib).trans hci
          obtain ⟨vr, hvr, lkr⟩ := HK6.out.looks s (by unfold maxLen; omega)
          have HEQ : Hid (∀ p : World, Below w10.heap.size w10 p → Calls Tryd.prog 23 #[.slice la2 ((endS N).lay s.data.toList).length lc2, vr] p (Gives (.bool true) p)) := Lib.hid fun p h => equalY_same _ _ _ p (by have := (end_good N (by omega) s.data.toList).2; omega) (ly2.below h) (hvr.below (B10.step h))
          generalize ((endS N).lay s.data.toList).length = nl at lr2 HEQ
          have K0 := Lib.hid k0
          have K1 := Lib.hid k1
          have K2 := Lib.hid k2
          have HI10 := Lib.hid hci10
          have LKR := Lib.hid lkr
          have LR0 := Lib.hid lr0
          have LR1 := Lib.hid lr1
          have LR2 := Lib.hid lr2
          have LN0 := Lib.hid ln0
          have LN1 := Lib.hid ln1
          have LN2 := Lib.hid ln2
          clear ln0 ln1 ln2 lr0 lr1 lr2 lkr hvr ly2 lk0 lk1 lk2 r0 r1 r2 k0 k1 k2 hva0 hva1 hva2 z0 z1 z2 p0 p1 p2 hF hNl hci10 hci
          have C0 := fun p : Since w10 => res_cells K0.out p.h
          have CI : ∀ p : Since w10, p.w'.cell? ⟨ib, io + k, none⟩ = some (.string s) := fun p => (p.h.cell (p := ⟨ib, io + k, none⟩) hib10).trans HI10.out
          have L0 := fun p : Since w10 => LR0.out p.w' p.h
          have A1 : ∀ p : Since w10, p.w'.cell? ⟨g0, f0 + N.length * 5 + 1, none⟩ = some (.int .i64 vv) := fun p => LN0.out p.w' p.h 1 _ rfl
          have A2 : ∀ p : Since w10, p.w'.cell? ⟨g0, f0 + N.length * 5 + 2, none⟩ = some (.int .i64 0) := fun p => LN0.out p.w' p.h 2 _ rfl
          go_wp2_with fail
          have hnn : (((N.length : Nat) : Int) + 1 != ((N.length : Nat) : Int) + 1) = false := by simp
          have hvv : (vv != vv) = false := by simp
          refine wp_region_since (by kernel_rfl) (by kernel_rfl) ?_
          iterate 36 (go_big_quiet_step (fail))
          refine wpQuiet_nil ?_
          intro w11 hw'
          obtain ⟨p, hp⟩ := hw'
          have hb11 : Below w10.heap.size w10 w11 := by rw [hp]; exact p.h
          clear p hp C0 CI L0 A1 A2
          have C1 := fun p : Since w11 => res_cells K1.out (hb11.step p.h)
          have C2 := fun p : Since w11 => res_cells K2.out (hb11.step p.h)
          have CR := fun p : Since w11 => res_cells HC6.out (B10.step (hb11.step p.h))
          have CI : ∀ p : Since w11, p.w'.cell? ⟨ib, io + k, none⟩ = some (.string s) := fun p => ((hb11.step p.h).cell (p := ⟨ib, io + k, none⟩) hib10).trans HI10.out
          have LR := fun p : Since w11 => LKR.out p.w' (B10.step (hb11.step p.h))
          have L1 := fun p : Since w11 => LR1.out p.w' (hb11.step p.h)
          have L2 := fun p : Since w11 => LR2.out p.w' (hb11.step p.h)
          have D1 : ∀ p : Since w11, p.w'.cell? ⟨g1, f1 + N.length * 5 + 1, none⟩ = some (.int .i64 vv) := fun p => LN1.out p.w' (hb11.step p.h) 1 _ rfl
          have D4 : ∀ p : Since w11, p.w'.cell? ⟨g1, f1 + N.length * 5 + 4, none⟩ = some (.bool false) := fun p => LN1.out p.w' (hb11.step p.h) 4 _ rfl
          have E1 : ∀ p : Since w11, p.w'.cell? ⟨g2, f2 + N.length * 5 + 1, none⟩ = some (.int .i64 0) := fun p => LN2.out p.w' (hb11.step p.h) 1 _ rfl
          go_wp2_with fail
          refine wp_region_since (by kernel_rfl) (by kernel_rfl) ?_
          iterate 54 (go_big_quiet_step (with_reducible exact Calls.since_of (HEQ.out _ (hb11.step (Since.h _)))))
          refine wpQuiet_nil ?_
          intro w12 hw'
          obtain ⟨p, hp⟩ := hw'
          have hb12 : Below w10.heap.size w10 w12 := by rw [hp]; exact hb11.step p.h
          clear p hp C1 C2 CR CI LR L1 L2 D1 D4 E1
          go_wp2_with fail
          go_roundg (its.length - (k + 1))
          case measure => omega
          case rel => exact ⟨k + 1, by omega, by go_num, by omega, B10.step hb12⟩
    · have hltz : ¬ ((k : Int) < (its.length : Int)) := by omega
      go_wp2
      go_ret
      exact ⟨rfl, B6.step hb⟩
theorem costEmpties_go (v : Value) (es : List Evt) (w : World) (hr : RdE w.heap.size w v es) (hb : ∀ e ∈ es, EvBd e) (hl : es.length ≤ maxLen) :
    Calls Tryd.prog 4 #[v] w (Gives (.bool true) w) :=
  costEmpties_any v es w hr (fun e he => (hb e he).1) hl
end Go.Proofs.YtefbedineniejaaDoor
