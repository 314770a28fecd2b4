/- report.Moves: an item's moves. -/
import Derived.Test.YtpbbbiifeihkaaaGreatDoorRpA
import Derived.Test.YtpbbbiifeihkaaaGreatDoorCaQn
import Derived.Test.YtpbbbiifeihkaaaGreatDoorQTail
import Derived.Test.YtpbbbiifeihkaaaGreatDoorCsRi
import Derived.Test.YtpbbbiifeihkaaaGreatDoorBase2
namespace Go.Proofs.YtpbbbiifeihkaaaGreatDoor
open Go.RowKit
open Go.Maps (Keyed)
set_option linter.unusedVariables false
set_option linter.unusedSimpArgs false

theorem info_mv : (Tryz.prog.info? 87).map (fun i => (i.zero, i.size, i.bytes)) = some (some (.agg #[.int .i64 0, .string ⟨#[]⟩, .int .i64 0, .int .i64 0, .int .i64 0, .int .i64 0, .int .i64 0, .int .i64 0, .int .i64 0, .int .i64 0, .int .i64 0, .bool false, .int .i64 0, .int .i64 0]), 14, 120) := by kernel_rfl
/-- A move, in cells. -/
def mvX (e : Evt) (x : Ln) (q v : Int) : List Value := [.int .i64 e.id, .string e.item, .int .i64 e.kind, .int .i64 e.qty, .int .i64 e.price, .int .i64 e.ofn, .int .i64 e.day, .int .i64 x.id, .int .i64 x.value, .int .i64 x.short, .int .i64 x.late, .bool x.gain, .int .i64 q, .int .i64 v]
def mvC (L : List Evt) (s : List UInt8) (k : Nat) : List Value :=
  match L[k]? with
  | none => []
  | some e => mvX e (oneP (endS (L.take k)) e).1 (whatQ (L.take (k + 1)) s).1 (whatQ (L.take (k + 1)) s).2
def mvCells (L : List Evt) (s : List UInt8) (n : Nat) : List Value := (List.range n).flatMap (mvC L s)
theorem mvCells_succ (L : List Evt) (s : List UInt8) (k : Nat) (hk : k < L.length) : mvCells L s (k + 1) = mvCells L s k ++ mvX L[k] (oneP (endS (L.take k)) L[k]).1 (whatQ (L.take (k + 1)) s).1 (whatQ (L.take (k + 1)) s).2 := by
  simp only [mvCells, List.range_succ, List.flatMap_append, List.flatMap_cons, List.flatMap_nil, List.append_nil]
  congr 1
  unfold mvC
  rw [List.getElem?_eq_getElem hk]
theorem one_mv (e : Evt) (x : Ln) (q v : Int) : ∀ u ∈ mvX e x q v, u.oneCell' = true := by
  intro u hu
  simp only [mvX, List.mem_cons, List.not_mem_nil, or_false] at hu
  rcases hu with rfl | rfl | rfl | rfl | rfl | rfl | rfl | rfl | rfl | rfl | rfl | rfl | rfl | rfl <;> rfl
theorem mine_ne (M : List Evt) (s : ByteArray) : (M.filter fun e => !(!(e.item.toList == s.toList))) = mineF M s := by
  unfold mineF
  refine List.filter_congr fun e _ => ?_
  rw [Bool.not_not, ba_list, ba_list]
  by_cases h : e.item.data.toList = s.data.toList
  · rw [h]; simp
  · rw [decide_eq_false h]; simpa using h
theorem rdE_take {hi : Nat} {w : World} {a : Option Addr} {n c : Nat} {es : List Evt} (h : RdE hi w (.slice a n c) es) (k : Nat) (h0 : 0 < k) (hk : k ≤ es.length) : RdE hi w (.slice a k c) (es.take k) := by
  rcases h with ⟨h1, rfl⟩ | ⟨b, off, cap, h1, hb, hc⟩
  · simp at hk; omega
  · injection h1 with e1 e2 e3
    subst e1 e3
    refine .inr ⟨b, off, c, by rw [List.length_take, Nat.min_eq_left hk], hb, fun i hi' j u hu => ?_⟩
    rw [List.length_take] at hi'
    rw [List.getElem_take] at hu
    exact hc i (by omega) j u hu
set_option maxHeartbeats 1000000 in
theorem moves1_any (e : Evt) (X : Nat) (s : ByteArray) (w : World) (hX : w.cell? ⟨X, 0, none⟩ = some (.string s)) : Calls Tryz.prog 62 #[e.agg, .pointer (some ⟨X, 0, none⟩)] w fun x w' => x = .returned (.bool (!(e.item.toList == s.toList))) ∧ Below w.heap.size w w' := by
  obtain ⟨i, t, k, q, p, o, d⟩ := e
  have hl : X < w.heap.size := cell_lt hX
  go_enter Tryz.func62, Tryz.ntmps62
  go_wp2
  go_ret
  exact ⟨rfl, (Below.refl _ w).new _⟩
set_option maxHeartbeats 4000000 in
set_option maxRecDepth 100000 in
theorem moves_any (B : Nat) (b : Bk) (s : ByteArray) (t : Int) (w : World) (h : BkW w B b) (hI : BkI b) (hss : s.size ≤ maxLen) :
    Calls Tryz.prog 31 #[.pointer (some ⟨B, 0, none⟩), .string s, .int .i64 t] w fun e w' => ∃ v, e = .returned v ∧ w'.ownsRow w.heap.size 87 14 v (mineF (b.as t) s).length (mvCells (mineF (b.as t) s) s.data.toList (mineF (b.as t) s).length) ∧ Below w.heap.size w w' := by
  have hb0 := (Below.refl w.heap.size w).new (.cells #[.string s] 9)
  have HAS := Lib.hid (as_any B b t (w.alloc (.cells #[.string s] 9)) (h.below hb0) hI)
  have hlen := as_le hI t
  have HOK := Lib.hid (as_ok hI t)
  have HSO : Hid (Stb.Sorted leE (b.as t)) := Lib.hid (Stb.isort_sorted leE_total leE_trans _)
  clear h
  obtain ⟨M, hM⟩ : ∃ M, M = b.as t := ⟨_, rfl⟩
  rw [← hM] at HAS hlen HOK HSO ⊢
  clear hM
  have HD := Lib.hid (fun (v1 : Value) (w1 : World) (ho1 : w1.ownsRow (w.heap.size + 1) 24 7 v1 M.length (flE M)) (hs1 : w.heap.size + 1 ≤ w1.heap.size) (hc1 : w1.cell? ⟨w.heap.size, 0, none⟩ = some (.string s)) => delE_any 62 #[.pointer (some ⟨w.heap.size, 0, none⟩)] (fun e => !(e.item.toList == s.toList)) (w.heap.size + 1) v1 M w1 ho1 hs1 (by omega) (enters_of Tryz.func62 (by kernel_rfl) rfl) (fun e he W hW => moves1_any e _ s W ((hW.cell (p := ⟨w.heap.size, 0, none⟩) (by show w.heap.size < _; omega)).trans hc1)))
  simp only [mine_ne] at HD
  have hl2 : (mineF M s).length ≤ 120 := Nat.le_trans (List.length_filter_le _ _) hlen
  have HLS : Hid (Stb.Sorted leE (mineF M s)) := Lib.hid (List.Pairwise.filter _ HSO.out)
  have HLR : Hid (∀ e ∈ mineF M s, e.right = true ∧ e.key = s.data.toList) := Lib.hid (fun e he => by
    obtain ⟨h1, h2⟩ := List.mem_filter.1 he
    exact ⟨(HOK.out.1 e h1).2.2, of_decide_eq_true h2⟩)
  obtain ⟨L, hL⟩ : ∃ L, L = mineF M s := ⟨_, rfl⟩
  rw [← hL] at hl2 HLS HLR ⊢
  simp only [← hL] at HD
  clear hL HOK HSO
  obtain ⟨i0, hinf, hiz, his, hib⟩ := info_parts info_mv
  go_enter Tryz.func31, Tryz.ntmps31
  go_wp2_with fail
  refine HAS.out.mono ?_
  rintro e w1 ⟨v1, rfl, ho1, hb1⟩
  rw [World.size_alloc] at ho1 hb1
  have hc1 : w1.cell? ⟨w.heap.size, 0, none⟩ = some (.string s) := (hb1.cell (p := ⟨w.heap.size, 0, none⟩) (by show w.heap.size < _; omega)).trans (by simp)
  have hs1 : w.heap.size + 1 ≤ w1.heap.size := by have := hb1.size; simp at this; omega
  have HD1 := Lib.hid (HD.out v1 w1 ho1 hs1 hc1)
  have HB1 : Hid (Below w.heap.size w w1) := Lib.hid (hb0.trans (hb1.mono (by omega)))
  clear ho1 hb1 hb0 HAS HD hlen
  go_wp2_with fail
  refine HD1.out.mono ?_
  rintro e w2 ⟨v2, rfl, ho2, hb2⟩
  have hc2 : w2.cell? ⟨w.heap.size, 0, none⟩ = some (.string s) := (hb2.cell (p := ⟨w.heap.size, 0, none⟩) (by show w.heap.size < _; omega)).trans hc1
  have HB2 : Hid (Below w.heap.size w w2) := Lib.hid (HB1.out.trans (hb2.mono (by omega)))
  have HR2 := Lib.hid (rdE_of_own ho2 rfl)
  obtain ⟨xa2, xc2, rfl⟩ := own_slice ho2
  have hcap : L.length ≤ xc2 := by
    rcases ho2.2 with ⟨e, h0⟩ | ⟨g, cap, cur, e, -, -, hn, -⟩
    · omega
    · injection e with _ _ e; omega
  have hXw : w.heap.size < w2.heap.size := cell_lt hc2
  clear ho2 hb2 HD1 hc1 HB1 hs1
  go_wp2_with fail
  go_loopg [8, 20] L.length (fun kx v8 i wr => ∃ k : Nat, k ≤ L.length ∧ i = .int .i64 k ∧ L.length - k ≤ kx ∧ wr.ownsRow w2.heap.size 87 14 v8 k (mvCells L s.data.toList k) ∧ Hid (Below w2.heap.size w2 wr))
  case atStart => exact ⟨0, by omega, rfl, by omega, World.ownsRow_nil _ _ _ _, Lib.hid (Below.refl _ _)⟩
  case round =>
    obtain ⟨k, hk, rfl, hkx, ho, HBR⟩ := hrel
    by_cases hlt : k < L.length
    · have hltz : (k : Int) < (L.length : Int) := by omega
      have hsl := fun w' => slice_sl_to (P := Tryz.prog) 22 Tryz.underlying22 7 (fun w => by simp [go_sem]) xa2 L.length xc2 (k + 1) ((k : Int) + 1) (by omega) (by omega) w'
      have hrw := HBR.out.size
      have HRT := Lib.hid (rdE_take (HR2.out.below HBR.out) (k + 1) (by omega) (by omega))
      have HRN := Lib.hid (run_any xa2 (k + 1) xc2 (L.take (k + 1)) wr (HRT.out.mono hrw) (by rw [List.length_take]; omega) (fun e he => by have := (right_bd (HLR.out e (List.mem_of_mem_take he)).1).1; omega))
      obtain ⟨mv1, mv2, -⟩ := move_at HLS.out HLR.out k hlt
      have HMV1 := Lib.hid mv1
      have HMV2 := Lib.hid mv2
      have HOW := Lib.hid ho
      clear mv1 mv2 ho HRT
      go_wp2_with fail
      refine HRN.out.mono ?_
      rintro e w3 ⟨va, bl, rfl, hol, hk3, hbl, hb3⟩
      have hN : (runP stk0 (Stb.isort leE (L.take (k + 1)))).1.length = k + 1 := HMV1.out
      rw [hN] at hol
      obtain ⟨ya, yc, rfl⟩ := own_slice hol
      obtain ⟨bL, hyb, hbL, hlc⟩ := own_ln hol k (by rw [hN]; omega)
      subst hyb
      have hm2 := HMV2.out (by rw [HMV1.out]; omega)
      rw [show (runP stk0 (Stb.isort leE (L.take (k + 1)))).1[k] = (oneP (endS (L.take k)) L[k]).1 from hm2] at hlc
      have HLC := Lib.hid hlc
      have HSM := Lib.hid (fun W (hb : Below w3.heap.size w3 W) => sum_any (.slice (some ⟨bL, 0, none⟩) (k + 1) yc) bl (endS (L.take (k + 1))).lay s W ⟨_, _, _, rfl⟩ (hk3.below hb) hss (end_good (L.take (k + 1)) (by rw [List.length_take]; omega) s.data.toList).1 (by have := (end_good (L.take (k + 1)) (by rw [List.length_take]; omega) s.data.toList).2; omega))
      have HB3 := Lib.hid (HBR.out.step hb3)
      have hbL3 : bL < w3.heap.size := hbL
      obtain ⟨b2, o2, hx2, hb2l, hec⟩ := HR2.out.seven k hlt
      subst hx2
      have HEC := Lib.hid hec
      have HMS := Lib.hid (mvCells_succ L s.data.toList k hlt)
      have hc3 : w3.cell? ⟨w.heap.size, 0, none⟩ = some (.string s) := (HB3.out.cell (p := ⟨w.heap.size, 0, none⟩) hXw).trans hc2
      have hX3 : w.heap.size < w3.heap.size := cell_lt hc3
      have hOW3 := own_below HOW.out hb3
      have hs3 := HB3.out.size
      obtain ⟨x, hx⟩ : ∃ x, x = (oneP (endS (L.take k)) L[k]).1 := ⟨_, rfl⟩
      obtain ⟨e0, he0⟩ : ∃ e0, e0 = L[k] := ⟨_, rfl⟩
      rw [← hx] at HLC HMS
      rw [← he0] at HEC HMS
      have hbd := what_bd (L.take (k + 1)) s.data.toList
      have hq1 : (sumQ ((endS (L.take (k + 1))).lay s.data.toList), sumV ((endS (L.take (k + 1))).lay s.data.toList)) = whatQ (L.take (k + 1)) s.data.toList := rfl
      rw [Prod.mk.injEq] at hq1
      simp only [hq1.1, hq1.2] at HSM
      generalize whatQ (L.take (k + 1)) s.data.toList = qv at HSM HMS hbd
      obtain ⟨q, v⟩ := qv
      simp only at HSM HMS hbd
      clear hq1 hx he0 hec hlc hm2 hbL hol hk3 hbl hb3 HMV1 HMV2 HRN HOW hN HBR hltz
      go_wp2_with fail
      have hb34 := (Below.refl w3.heap.size w3).new (.cells #[.slice (some ⟨bL, 0, none⟩) (k + 1) yc, .map (some bl)] 30)
      have hX4 := World.alloc_heap_new w3 (.cells #[.slice (some ⟨bL, 0, none⟩) (k + 1) yc, .map (some bl)] 30)
      refine (HSM.out _ hb34).mono ?_
      rintro e w5 ⟨rfl, hb5⟩
      have hb35 := hb34.step hb5
      have hX5 : w5.heap[w3.heap.size]? = some (.cells #[.slice (some ⟨bL, 0, none⟩) (k + 1) yc, .map (some bl)] 30 (0, 0)) := (hb5.block _ (by simp)).trans hX4
      have HB5 := Lib.hid (HB3.out.step hb35)
      have hOW5 := own_below hOW3 hb35
      obtain ⟨p0, p1, p2, p3, p4, p5, p6⟩ := HEC.out w5 HB5.out
      obtain ⟨l0, l1, l2, l3, l4⟩ := HLC.out w5 hb35
      have r0 : w5.cell? ⟨w3.heap.size, 0, none⟩ = some (.slice (some ⟨bL, 0, none⟩) (k + 1) yc) := by simp [World.cell?, hX5]
      have z5 := HB5.out.size
      have zb2 : b2 < w5.heap.size := by omega
      have zbL : bL < w5.heap.size := cell_lt l0
      have zX : w3.heap.size < w5.heap.size := cell_lt r0
      have hkk : (k : Int) < (k : Int) + 1 := by omega
      have HOW5 := Lib.hid hOW5
      clear hb34 hX4 hb5 hb35 hX5 hOW5 hOW3 hc3 HSM HEC HLC
      generalize w3.heap.size = X3 at r0 zX ⊢
      go_wp2_with fail
      refine wp_region_any (by kernel_rfl) ?_
      refine wpAny_take (i := 0) (v := ?_) rfl (by kernel_rfl) (by kernel_rfl) (by kernel_rfl) (fun _ _ _ h => h) (Or.inl ⟨by rfl, ?_⟩) ?_
      rotate_left
      · intro _; go_simp; try (with_reducible rfl)
      refine wpAny_take (i := 1) (v := ?_) rfl (by kernel_rfl) (by kernel_rfl) (by kernel_rfl) (fun _ _ _ h => h) (Or.inl ⟨by rfl, ?_⟩) ?_
      rotate_left
      · intro _; go_simp; try (with_reducible rfl)
      refine wpAny_take (i := 2) (v := ?_) rfl (by kernel_rfl) (by kernel_rfl) (by kernel_rfl) (fun _ _ _ h => h) (Or.inl ⟨by rfl, ?_⟩) ?_
      rotate_left
      · intro _; go_simp; try (with_reducible rfl)
      refine wpAny_take (i := 3) (v := ?_) rfl (by kernel_rfl) (by kernel_rfl) (by kernel_rfl) (fun _ _ _ h => h) (Or.inl ⟨by rfl, ?_⟩) ?_
      rotate_left
      · intro _; go_simp; try (with_reducible rfl)
      refine wpAny_take (i := 5) (v := ?_) rfl (by kernel_rfl) (by kernel_rfl) (by kernel_rfl) (fun _ _ _ h => h) (Or.inl ⟨by rfl, ?_⟩) ?_
      rotate_left
      · intro _; go_simp; try (with_reducible rfl)
      refine wpAny_take (i := 7) (v := ?_) rfl (by kernel_rfl) (by kernel_rfl) (by kernel_rfl) (fun _ _ _ h => h) (Or.inl ⟨by rfl, ?_⟩) ?_
      rotate_left
      · intro _; go_simp; try (with_reducible rfl)
      refine wpAny_take (i := 10) (v := ?_) rfl (by kernel_rfl) (by kernel_rfl) (by kernel_rfl) (fun _ _ _ h => h) (Or.inl ⟨by rfl, ?_⟩) ?_
      rotate_left
      · intro _; go_simp; try (with_reducible rfl)
      refine wpAny_take (i := 11) (v := ?_) rfl (by kernel_rfl) (by kernel_rfl) (by kernel_rfl) (fun _ _ _ h => h) (Or.inl ⟨by rfl, ?_⟩) ?_
      rotate_left
      · intro _; go_simp; try (with_reducible rfl)
      refine wpAny_ready (rs := [4, 6]) (by kernel_rfl) (by simp) (AllReady.cons rfl (fun K hK => ?_) (AllReady.cons rfl (fun K hK => ?_) AllReady.nil))
      · go_simp
        refine hK _ _ ?_
        clear hK K
        refine wpAny_ready (rs := [6]) (by kernel_rfl) (by simp) (AllReady.cons rfl (fun K hK => ?_) AllReady.nil)
        go_simp
        refine hK _ _ ?_
        clear hK K
        refine wpAny_take (i := 8) (v := ?_) rfl (by kernel_rfl) (by kernel_rfl) (by kernel_rfl) (fun _ _ _ h => h) (Or.inl ⟨by rfl, ?_⟩) ?_
        rotate_left
        · intro _; go_simp; try (with_reducible rfl)
        refine wpAny_ready (rs := [9]) (by kernel_rfl) (by simp) (AllReady.cons rfl (fun K hK => ?_) AllReady.nil)
        go_simp
        refine hK _ _ ?_
        clear hK K
        refine wpAny_take (i := 12) (v := ?_) rfl (by kernel_rfl) (by kernel_rfl) (by kernel_rfl) (fun _ _ _ h => h) (Or.inl ⟨by rfl, ?_⟩) ?_
        rotate_left
        · intro _; go_simp; try (with_reducible rfl)
        refine wpAny_ready (rs := [13]) (by kernel_rfl) (by simp) (AllReady.cons rfl (fun K hK => ?_) AllReady.nil)
        go_simp
        refine hK _ _ ?_
        clear hK K
        refine wpAny_ready (rs := [14]) (by kernel_rfl) (by simp) (AllReady.cons rfl (fun K hK => ?_) AllReady.nil)
        refine wp_append_own _ (.tmp 34) (.tmp 47) 84 rfl w2.heap.size 87 i0 (.agg #[.int .i64 0, .string ⟨#[]⟩, .int .i64 0, .int .i64 0, .int .i64 0, .int .i64 0, .int .i64 0, .int .i64 0, .int .i64 0, .int .i64 0, .int .i64 0, .bool false, .int .i64 0, .int .i64 0]) 14 120 Tryz.underlying84 hinf hiz his hib rfl (by decide) _ k (mvCells L s.data.toList k) rfl (HOW5.out.alloc _) ⟨w5.heap.size, 0, none⟩ 1 1 (mvX e0 x q v) rfl rfl (cells_at (World.alloc_heap_new w5 (.cells (mvX e0 x q v).toArray 87))) (one_mv e0 x q v) (by unfold maxLen; omega) (by omega) (by simp; omega) ?_
        intro v7 w7 ho7 hg7 _
        have hg8 : (w5.alloc (.cells (mvX e0 x q v).toArray 87)).grownBy w7 u8.ownBlock := ⟨hg7.os, hg7.tape, hg7.output, hg7.size, hg7.block⟩
        have HB7 := Lib.hid ((HB5.out.new _).owngrown (HOW5.out.alloc _) hg8)
        have HO7 := Lib.hid ho7
        obtain ⟨xa, xc, rfl⟩ := own_slice ho7
        clear ho7 hg7 hg8
        refine hK _ _ ?_
        clear hK K
        refine wpAny_take (i := 15) (v := ?_) rfl (by kernel_rfl) (by kernel_rfl) (by kernel_rfl) (fun _ _ _ h => h) (Or.inl ⟨by rfl, ?_⟩) ?_
        rotate_left
        · intro _; go_simp; try (with_reducible rfl)
        refine wpAny_done (by kernel_rfl) ?_ _
        go_wp2
        go_roundg (L.length - (k + 1))
        case measure => omega
        case rel => exact ⟨k + 1, hlt, by first | rfl | go_num | (congr 1; omega), Nat.le_refl _, by rw [HMS.out]; exact HO7.out, HB7⟩
      · go_simp
        refine hK _ _ ?_
        clear hK K
        refine wpAny_take (i := 8) (v := ?_) rfl (by kernel_rfl) (by kernel_rfl) (by kernel_rfl) (fun _ _ _ h => h) (Or.inl ⟨by rfl, ?_⟩) ?_
        rotate_left
        · intro _; go_simp; try (with_reducible rfl)
        refine wpAny_ready (rs := [4, 9]) (by kernel_rfl) (by simp) (AllReady.cons rfl (fun K hK => ?_) (AllReady.cons rfl (fun K hK => ?_) AllReady.nil))
        · go_simp
          refine hK _ _ ?_
          clear hK K
          refine wpAny_ready (rs := [9]) (by kernel_rfl) (by simp) (AllReady.cons rfl (fun K hK => ?_) AllReady.nil)
          go_simp
          refine hK _ _ ?_
          clear hK K
          refine wpAny_take (i := 12) (v := ?_) rfl (by kernel_rfl) (by kernel_rfl) (by kernel_rfl) (fun _ _ _ h => h) (Or.inl ⟨by rfl, ?_⟩) ?_
          rotate_left
          · intro _; go_simp; try (with_reducible rfl)
          refine wpAny_ready (rs := [13]) (by kernel_rfl) (by simp) (AllReady.cons rfl (fun K hK => ?_) AllReady.nil)
          go_simp
          refine hK _ _ ?_
          clear hK K
          refine wpAny_ready (rs := [14]) (by kernel_rfl) (by simp) (AllReady.cons rfl (fun K hK => ?_) AllReady.nil)
          refine wp_append_own _ (.tmp 34) (.tmp 47) 84 rfl w2.heap.size 87 i0 (.agg #[.int .i64 0, .string ⟨#[]⟩, .int .i64 0, .int .i64 0, .int .i64 0, .int .i64 0, .int .i64 0, .int .i64 0, .int .i64 0, .int .i64 0, .int .i64 0, .bool false, .int .i64 0, .int .i64 0]) 14 120 Tryz.underlying84 hinf hiz his hib rfl (by decide) _ k (mvCells L s.data.toList k) rfl (HOW5.out.alloc _) ⟨w5.heap.size, 0, none⟩ 1 1 (mvX e0 x q v) rfl rfl (cells_at (World.alloc_heap_new w5 (.cells (mvX e0 x q v).toArray 87))) (one_mv e0 x q v) (by unfold maxLen; omega) (by omega) (by simp; omega) ?_
          intro v7 w7 ho7 hg7 _
          have hg8 : (w5.alloc (.cells (mvX e0 x q v).toArray 87)).grownBy w7 u8.ownBlock := ⟨hg7.os, hg7.tape, hg7.output, hg7.size, hg7.block⟩
          have HB7 := Lib.hid ((HB5.out.new _).owngrown (HOW5.out.alloc _) hg8)
          have HO7 := Lib.hid ho7
          obtain ⟨xa, xc, rfl⟩ := own_slice ho7
          clear ho7 hg7 hg8
          refine hK _ _ ?_
          clear hK K
          refine wpAny_take (i := 15) (v := ?_) rfl (by kernel_rfl) (by kernel_rfl) (by kernel_rfl) (fun _ _ _ h => h) (Or.inl ⟨by rfl, ?_⟩) ?_
          rotate_left
          · intro _; go_simp; try (with_reducible rfl)
          refine wpAny_done (by kernel_rfl) ?_ _
          go_wp2
          go_roundg (L.length - (k + 1))
          case measure => omega
          case rel => exact ⟨k + 1, hlt, by first | rfl | go_num | (congr 1; omega), Nat.le_refl _, by rw [HMS.out]; exact HO7.out, HB7⟩
        · go_simp
          refine hK _ _ ?_
          clear hK K
          refine wpAny_ready (rs := [4]) (by kernel_rfl) (by simp) (AllReady.cons rfl (fun K hK => ?_) AllReady.nil)
          go_simp
          refine hK _ _ ?_
          clear hK K
          refine wpAny_take (i := 12) (v := ?_) rfl (by kernel_rfl) (by kernel_rfl) (by kernel_rfl) (fun _ _ _ h => h) (Or.inl ⟨by rfl, ?_⟩) ?_
          rotate_left
          · intro _; go_simp; try (with_reducible rfl)
          refine wpAny_ready (rs := [13]) (by kernel_rfl) (by simp) (AllReady.cons rfl (fun K hK => ?_) AllReady.nil)
          go_simp
          refine hK _ _ ?_
          clear hK K
          refine wpAny_ready (rs := [14]) (by kernel_rfl) (by simp) (AllReady.cons rfl (fun K hK => ?_) AllReady.nil)
          refine wp_append_own _ (.tmp 34) (.tmp 47) 84 rfl w2.heap.size 87 i0 (.agg #[.int .i64 0, .string ⟨#[]⟩, .int .i64 0, .int .i64 0, .int .i64 0, .int .i64 0, .int .i64 0, .int .i64 0, .int .i64 0, .int .i64 0, .int .i64 0, .bool false, .int .i64 0, .int .i64 0]) 14 120 Tryz.underlying84 hinf hiz his hib rfl (by decide) _ k (mvCells L s.data.toList k) rfl (HOW5.out.alloc _) ⟨w5.heap.size, 0, none⟩ 1 1 (mvX e0 x q v) rfl rfl (cells_at (World.alloc_heap_new w5 (.cells (mvX e0 x q v).toArray 87))) (one_mv e0 x q v) (by unfold maxLen; omega) (by omega) (by simp; omega) ?_
          intro v7 w7 ho7 hg7 _
          have hg8 : (w5.alloc (.cells (mvX e0 x q v).toArray 87)).grownBy w7 u8.ownBlock := ⟨hg7.os, hg7.tape, hg7.output, hg7.size, hg7.block⟩
          have HB7 := Lib.hid ((HB5.out.new _).owngrown (HOW5.out.alloc _) hg8)
          have HO7 := Lib.hid ho7
          obtain ⟨xa, xc, rfl⟩ := own_slice ho7
          clear ho7 hg7 hg8
          refine hK _ _ ?_
          clear hK K
          refine wpAny_take (i := 15) (v := ?_) rfl (by kernel_rfl) (by kernel_rfl) (by kernel_rfl) (fun _ _ _ h => h) (Or.inl ⟨by rfl, ?_⟩) ?_
          rotate_left
          · intro _; go_simp; try (with_reducible rfl)
          refine wpAny_done (by kernel_rfl) ?_ _
          go_wp2
          go_roundg (L.length - (k + 1))
          case measure => omega
          case rel => exact ⟨k + 1, hlt, by first | rfl | go_num | (congr 1; omega), Nat.le_refl _, by rw [HMS.out]; exact HO7.out, HB7⟩
    · have hltz : ¬ (k : Int) < (L.length : Int) := by omega
      have hke : k = L.length := by omega
      subst hke
      have HOW := Lib.hid ho
      clear ho
      go_wp2_with fail
      go_ret
      exact ⟨_, rfl, own_lo HOW.out HB2.out.size, HB2.out.step HBR.out⟩
end Go.Proofs.YtpbbbiifeihkaaaGreatDoor
