/- The book's Post, Correct, Void. -/
import Derived.Test.YtackpcohmmlkeaaGreatDoorBkY
import Derived.Test.YtackpcohmmlkeaaGreatDoorQTail
import Derived.Test.YtackpcohmmlkeaaGreatDoorEvR
namespace Go.Proofs.YtackpcohmmlkeaaGreatDoor
open Go.RowKit
set_option linter.unusedVariables false

/-- An error, or none. -/
def errB (o : Option Int) : Value := match o with | none => .nilIface | some k => .iface 86 (.int .i64 k)
set_option maxHeartbeats 2000000 in
set_option maxRecDepth 100000 in
theorem post_any (B : Nat) (b : Bk) (e : Evt) (w : World) (h : BkW w B b) (hI : BkI b) (ht : b.turn ≤ 1000000) (hn : b.next ≤ 1000000) (hs : e.item.size ≤ 1000000) :
    Calls Tryz.prog 38 #[.pointer (some ⟨B, 0, none⟩), e.agg] w fun x w' => x = .returned (.tuple #[.int .i64 (b.post e).2.1, errB (b.post e).2.2]) ∧ BkW w' B (b.post e).1 ∧ Ch B w w' := by
  have hlen := hI.len
  have ht0 := hI.turn0
  have hn0 := hI.next0
  have hBl := h.lt
  obtain ⟨W0, hW0⟩ : ∃ W0, W0 = w.alloc e.ob := ⟨_, rfl⟩
  have hb0 : Below w.heap.size w W0 := by rw [hW0]; exact (Below.refl _ w).new _
  have h0 := h.below hb0
  have hE : ∀ j u, e.cells[j]? = some u → W0.cell? ⟨w.heap.size, j, none⟩ = some u := fun j u hu => by rw [hW0]; exact new_at w _ _ j u (by simpa [Evt.cells] using hu)
  have hEh : W0.heap[w.heap.size]? = some e.ob := by rw [hW0]; exact World.alloc_heap_new w _
  have hRT := right_any e.id e.item e.kind e.qty e.price e.ofn e.day W0 hs
  obtain ⟨i, s, k, q, p, o, d⟩ := e
  have E0 := hE 0 _ rfl
  have E1 := hE 1 _ rfl
  have E2 := hE 2 _ rfl
  have E3 := hE 3 _ rfl
  have E4 := hE 4 _ rfl
  have E5 := hE 5 _ rfl
  have E6 := hE 6 _ rfl
  have hEl := cell_lt E0
  have hBl0 := h0.lt
  obtain ⟨v, c0, ho⟩ := h0.row
  obtain ⟨xa, xc, rfl⟩ := own_slice ho
  have c2 := h0.c2
  have f2 := h0.fz 2
  have HEH := Lib.hid hEh
  have HW0 := Lib.hid hW0
  have HB0 := Lib.hid hb0
  have HBW := Lib.hid h0
  have HH := Lib.hid h
  clear hW0 hE h hb0 h0 hEh ho
  simp only [Evt.agg, Evt.ob] at hRT HEH HW0 ⊢
  by_cases hr : (Evt.right ⟨i, s, k, q, p, o, d⟩) = true
  · have hr2 : Ev.rightB s.data.toList k q p o d = true := hr
    rw [hr2] at hRT
    have HRT := Lib.hid hRT
    clear hRT hr2
    by_cases hl : 120 ≤ b.l.length
    · have hp : b.post ⟨i, s, k, q, p, o, d⟩ = (b, 0, some 12) := by unfold Bk.post; rw [if_pos hr, if_pos hl]
      rw [hp]
      have hlz : (120 : Int) ≤ (b.l.length : Int) := by omega
      clear hr hp
      go_enter Tryz.func38, Tryz.ntmps38
      go_wp2_with fail
      rw [← HW0.out]
      refine HRT.out.mono ?_
      rintro x w1 ⟨rfl, hb1⟩
      have c0' := (hb1.cell (p := ⟨B, 0, none⟩) hBl0).trans c0
      go_wp2_with fail
      go_ret2
      exact ⟨rfl, HBW.out.below hb1, Ch.of_below (HB0.out.step hb1) hBl⟩
    · have hp : b.post ⟨i, s, k, q, p, o, d⟩ = (Bk.write ⟨b.l, b.turn, b.next + 1⟩ (Evt.num ⟨i, s, k, q, p, o, d⟩ (b.next + 1)), b.next + 1, none) := by unfold Bk.post; rw [if_pos hr, if_neg hl]
      rw [hp]
      have hlz : ¬ (120 : Int) ≤ (b.l.length : Int) := by omega
      clear hr hp
      go_enter Tryz.func38, Tryz.ntmps38
      go_wp2_with fail
      rw [← HW0.out]
      refine HRT.out.mono ?_
      rintro x w1 ⟨rfl, hb1⟩
      have d0 := (hb1.cell (p := ⟨B, 0, none⟩) hBl0).trans c0
      have d2 := (hb1.cell (p := ⟨B, 2, none⟩) hBl0).trans c2
      have g2 := (hb1.frozen (p := ⟨B, 2, none⟩) hBl0).trans f2
      have D0 := (hb1.cell (p := ⟨w.heap.size, 0, none⟩) hEl).trans E0
      have D1 := (hb1.cell (p := ⟨w.heap.size, 1, none⟩) hEl).trans E1
      have D2 := (hb1.cell (p := ⟨w.heap.size, 2, none⟩) hEl).trans E2
      have D3 := (hb1.cell (p := ⟨w.heap.size, 3, none⟩) hEl).trans E3
      have D4 := (hb1.cell (p := ⟨w.heap.size, 4, none⟩) hEl).trans E4
      have D5 := (hb1.cell (p := ⟨w.heap.size, 5, none⟩) hEl).trans E5
      have D6 := (hb1.cell (p := ⟨w.heap.size, 6, none⟩) hEl).trans E6
      have G0 : w1.frozen? ⟨w.heap.size, 0, none⟩ = false := (hb1.frozen (p := ⟨w.heap.size, 0, none⟩) hEl).trans (by rw [HW0.out]; exact World.frozen?_alloc_new w _ _ _)
      clear c0 c2 f2 E0 E1 E2 E3 E4 E5 E6
      go_wp2_with fail
      have hEw : w1.heap[w.heap.size]? = _ := (hb1.block w.heap.size hEl).trans HEH.out
      obtain ⟨BN, CN⟩ := (HBW.out.below hb1).setNext (b.next + 1)
      have hEn : (w1.setCell ⟨B, 2, none⟩ (.int .i64 (b.next + 1))).heap[w.heap.size]? = _ := (mid_heap w1 B 2 w.heap.size _ (by omega)).trans hEw
      have BO := BN.setOther (X := w.heap.size) (j := 0) (.int .i64 (b.next + 1)) (by omega) ⟨_, _, _, hEn, by decide⟩
      have CO := ((Ch.of_below (HB0.out.step hb1) hBl).trans CN).fresh (X := w.heap.size) (j := 0) (.int .i64 (b.next + 1)) (Nat.le_refl _) hBl
      have hEo := mid_self (o := 0) (.int .i64 (b.next + 1)) hEn
      refine (write_any B ⟨b.l, b.turn, b.next + 1⟩ ⟨b.next + 1, s, k, q, p, o, d⟩ _ BO (by simp only; omega) ⟨by simp only; omega, by simp only; omega⟩).mono ?_
      rintro x w2 ⟨rfl, BF, CF⟩
      have hEf := CF.block w.heap.size _ hEo (by omega) (fun cur fz e => by injection e with _ e; exact absurd e (by decide))
      have z0 : w2.cell? ⟨w.heap.size, 0, none⟩ = some (.int .i64 (b.next + 1)) := by simp [World.cell?, hEf]
      have CFF := CO.trans CF
      clear CF CO hEf hEo BO hEn CN BN hEw d0 d2 g2 D0 D1 D2 D3 D4 D5 D6 G0
      go_wp2_with fail
      go_ret2
      exact ⟨rfl, BF, CFF⟩
  · have hr2 : Ev.rightB s.data.toList k q p o d = false := by simpa [Evt.right] using hr
    have hp : b.post ⟨i, s, k, q, p, o, d⟩ = (b, 0, some 1) := by unfold Bk.post; rw [if_neg hr]
    rw [hp]
    rw [hr2] at hRT
    have HRT := Lib.hid hRT
    clear hr hp hr2 hRT
    go_enter Tryz.func38, Tryz.ntmps38
    go_wp2_with fail
    rw [← HW0.out]
    refine HRT.out.mono ?_
    rintro x w1 ⟨rfl, hb1⟩
    go_wp2_with fail
    go_ret2
    exact ⟨rfl, HBW.out.below hb1, Ch.of_below (HB0.out.step hb1) hBl⟩
/-- What a store of 'To' of the version at k needs of a world. -/
theorem to_ready {w : World} {B k : Nat} {b : Bk} (h : BkW w B b) (hk : k < b.l.length) : ∃ g c z, w.cell? ⟨B, 0, none⟩ = some (.slice (some ⟨g, 0, none⟩) b.l.length c) ∧ w.ownsRow (B + 1) 114 9 (.slice (some ⟨g, 0, none⟩) b.l.length c) b.l.length (flV b.l) ∧ w.cell? ⟨g, k * 9 + 8, none⟩ = some (.int .i64 z) ∧ w.frozen? ⟨g, k * 9 + 8, none⟩ = false ∧ g < w.heap.size := by
  obtain ⟨v, c0, ho⟩ := h.row
  rcases ho.2 with ⟨-, h0⟩ | ⟨g, cap, cur, rfl, hB, hc, hn, hm, hs, ht⟩
  · omega
  · obtain ⟨b', off, e1, h2, h3⟩ := rdV_of_own ho k hk
    injection e1 with e1
    injection e1 with e1 e2
    subst e1 e2
    have h8 := h3 8 _ rfl
    rw [Nat.zero_add] at h8
    exact ⟨g, cap, _, c0, ho, h8, by simp [World.frozen?, hc], h2⟩
-- VOID
set_option maxHeartbeats 2000000 in
set_option maxRecDepth 100000 in
theorem void_any (B : Nat) (b : Bk) (id : Int) (w : World) (h : BkW w B b) (hI : BkI b) (ht : b.turn ≤ 1000000) :
    Calls Tryz.prog 46 #[.pointer (some ⟨B, 0, none⟩), .int .i64 id] w fun x w' => x = .returned (errB (b.void id).2) ∧ BkW w' B (b.void id).1 ∧ Ch B w w' := by
  have hlen := hI.len
  have ht0 := hI.turn0
  have hBl := h.lt
  have HLV := Lib.hid (live_any B b id w h hlen)
  have HH := Lib.hid h
  clear h
  cases hk : b.live id with
  | none =>
    have hp : b.void id = (b, some 7) := by simp only [Bk.void, hk]
    have hz : liveZ b id = -1 := by simp only [liveZ, hk]
    rw [hp]
    rw [hz] at HLV
    clear hp hz hk
    go_enter Tryz.func46, Tryz.ntmps46
    go_wp2_with fail
    refine HLV.out.mono ?_
    rintro x w1 ⟨rfl, hb1⟩
    go_wp2_with fail
    go_ret
    exact ⟨rfl, HH.out.below hb1, Ch.of_below hb1 hBl⟩
  | some k =>
    have hp : b.void id = (⟨setTo b.l k (b.turn + 1), b.turn + 1, b.next⟩, none) := by simp only [Bk.void, hk]
    have hz : liveZ b id = k := by simp only [liveZ, hk]
    obtain ⟨hkl, -, -⟩ := live_spec hk
    have hkz : ¬ (k : Int) < 0 := by omega
    rw [hp]
    rw [hz] at HLV
    clear hp hz hk
    go_enter Tryz.func46, Tryz.ntmps46
    go_wp2_with fail
    refine HLV.out.mono ?_
    rintro x w1 ⟨rfl, hb1⟩
    have hB1 := HH.out.below hb1
    have hl1 := hB1.lt
    have c1 := hB1.c1
    have f1 := hB1.fz 1
    obtain ⟨BT, CT⟩ := hB1.setTurn (b.turn + 1)
    have CTT := Lib.hid ((Ch.of_below hb1 hBl).trans CT)
    have BTT := Lib.hid BT
    clear BT CT hB1 hb1
    go_wp2_with fail
    obtain ⟨W2, hW2⟩ : ∃ W2, W2 = w1.setCell ⟨B, 1, none⟩ (.int .i64 (b.turn + 1)) := ⟨_, rfl⟩
    rw [← hW2] at BTT CTT
    rw [← hW2]
    clear hW2
    have hl2 := BTT.out.lt
    have c1' := BTT.out.c1
    obtain ⟨g, c, z, c0, ho, d8, f8, hgl⟩ := to_ready BTT.out hkl
    simp only at c0 c1'
    have HC0 := Lib.hid c0
    have HHO := Lib.hid ho
    clear ho
    clear c1 f1 hl1
    have hcs := fun (p : Since W2) b o h => Since.cells p b o h
    have hkn : (k : Int) < (b.l.length : Int) := by omega
    refine wp_region_since_tail 9 (by kernel_rfl) (by kernel_rfl) ?_
    simp only [List.take_succ_cons, List.take_zero, List.drop_succ_cons, List.drop_zero]
    iterate 9 (go_big_quiet_step (fail))
    refine wpQuiet_nil ?_
    intro w3 hw3
    obtain ⟨pp, hp3⟩ := hw3
    have hb3 : Below W2.heap.size W2 w3 := by rw [hp3]; exact pp.h
    clear hp3 pp hcs c0
    obtain ⟨BE, CE⟩ := to_set (BTT.out.below hb3) ((hb3.cell (p := ⟨B, 0, none⟩) hl2).trans HC0.out) (own_below HHO.out hb3) k (b.turn + 1)
    have BEE := Lib.hid BE
    have CEE := Lib.hid ((CTT.out.trans (Ch.of_below hb3 hl2)).trans CE)
    have d8' := (hb3.cell (p := ⟨g, k * 9 + 8, none⟩) hgl).trans d8
    have f8' := (hb3.frozen (p := ⟨g, k * 9 + 8, none⟩) hgl).trans f8
    clear BE CE d8 f8 c1'
    go_wp2_with fail
    go_ret
    exact ⟨rfl, BEE.out, CEE.out⟩
set_option maxHeartbeats 2000000 in
set_option maxRecDepth 100000 in
theorem correct_any (B : Nat) (b : Bk) (id : Int) (e : Evt) (w : World) (h : BkW w B b) (hI : BkI b) (ht : b.turn ≤ 1000000) (hs : e.item.size ≤ 1000000) :
    Calls Tryz.prog 45 #[.pointer (some ⟨B, 0, none⟩), .int .i64 id, e.agg] w fun x w' => x = .returned (errB (b.correct id e).2) ∧ BkW w' B (b.correct id e).1 ∧ Ch B w w' := by
  have hlen := hI.len
  have ht0 := hI.turn0
  have hBl := h.lt
  obtain ⟨W0, hW0⟩ : ∃ W0, W0 = w.alloc e.ob := ⟨_, rfl⟩
  have hb0 : Below w.heap.size w W0 := by rw [hW0]; exact (Below.refl _ w).new _
  have h0 := h.below hb0
  have hE : ∀ j u, e.cells[j]? = some u → W0.cell? ⟨w.heap.size, j, none⟩ = some u := fun j u hu => by rw [hW0]; exact new_at w _ _ j u (by simpa [Evt.cells] using hu)
  have hEh : W0.heap[w.heap.size]? = some e.ob := by rw [hW0]; exact World.alloc_heap_new w _
  have hFz : W0.frozen? ⟨w.heap.size, 0, none⟩ = false := by rw [hW0]; exact World.frozen?_alloc_new w _ _ _
  have hRT := fun W => right_any e.id e.item e.kind e.qty e.price e.ofn e.day W hs
  have HLV := Lib.hid (live_any B b id W0 h0 hlen)
  obtain ⟨i, s, k, q, p, o, d⟩ := e
  have E0 := hE 0 _ rfl
  have E1 := hE 1 _ rfl
  have E2 := hE 2 _ rfl
  have E3 := hE 3 _ rfl
  have E4 := hE 4 _ rfl
  have E5 := hE 5 _ rfl
  have E6 := hE 6 _ rfl
  have hEl := cell_lt E0
  have hBl0 := h0.lt
  obtain ⟨v, c0, ho⟩ := h0.row
  obtain ⟨xa, xc, rfl⟩ := own_slice ho
  have HEH := Lib.hid hEh
  have HW0 := Lib.hid hW0
  have HB0 := Lib.hid hb0
  have HBW := Lib.hid h0
  clear hW0 hE h hb0 h0 hEh ho
  simp only [Evt.agg, Evt.ob] at hRT HEH HW0 ⊢
  cases hk : b.live id with
  | none =>
    have hp : b.correct id ⟨i, s, k, q, p, o, d⟩ = (b, some 7) := by simp only [Bk.correct, hk]
    have hz : liveZ b id = -1 := by simp only [liveZ, hk]
    rw [hp]
    rw [hz] at HLV
    clear hp hz hk
    go_enter Tryz.func45, Tryz.ntmps45
    go_wp2_with fail
    rw [← HW0.out]
    refine HLV.out.mono ?_
    rintro x w1 ⟨rfl, hb1⟩
    go_wp2_with fail
    go_ret
    exact ⟨rfl, HBW.out.below hb1, Ch.of_below (HB0.out.step hb1) hBl⟩
  | some m =>
    have hz : liveZ b id = m := by simp only [liveZ, hk]
    obtain ⟨hkl, -, -⟩ := live_spec hk
    have hkz : ¬ (m : Int) < 0 := by omega
    rw [hz] at HLV
    by_cases hr : (Evt.right ⟨i, s, k, q, p, o, d⟩) = true
    · have hr2 : Ev.rightB s.data.toList k q p o d = true := hr
      rw [hr2] at hRT
      have HRT := Lib.hid hRT
      clear hRT hr2
      by_cases hl : 120 ≤ b.l.length
      · have hp : b.correct id ⟨i, s, k, q, p, o, d⟩ = (b, some 12) := by simp only [Bk.correct, hk, if_pos hr, if_pos hl]
        rw [hp]
        have hlz : (120 : Int) ≤ (b.l.length : Int) := by omega
        clear hr hp hk hz
        go_enter Tryz.func45, Tryz.ntmps45
        go_wp2_with fail
        rw [← HW0.out]
        refine HLV.out.mono ?_
        rintro x w0 ⟨rfl, hb01⟩
        have F0 := (hb01.cell (p := ⟨w.heap.size, 0, none⟩) hEl).trans E0
        have F1 := (hb01.cell (p := ⟨w.heap.size, 1, none⟩) hEl).trans E1
        have F2 := (hb01.cell (p := ⟨w.heap.size, 2, none⟩) hEl).trans E2
        have F3 := (hb01.cell (p := ⟨w.heap.size, 3, none⟩) hEl).trans E3
        have F4 := (hb01.cell (p := ⟨w.heap.size, 4, none⟩) hEl).trans E4
        have F5 := (hb01.cell (p := ⟨w.heap.size, 5, none⟩) hEl).trans E5
        have F6 := (hb01.cell (p := ⟨w.heap.size, 6, none⟩) hEl).trans E6
        go_wp2_with fail
        refine (HRT.out _).mono ?_
        rintro x w1 ⟨rfl, hb11⟩
        have hb1 := hb01.step hb11
        have c0' := (hb1.cell (p := ⟨B, 0, none⟩) hBl0).trans c0
        go_wp2_with fail
        go_ret
        exact ⟨rfl, HBW.out.below hb1, Ch.of_below (HB0.out.step hb1) hBl⟩
      · have hp : b.correct id ⟨i, s, k, q, p, o, d⟩ = (⟨setTo (b.write (Evt.num ⟨i, s, k, q, p, o, d⟩ id)).l m (b.turn + 1), b.turn + 1, b.next⟩, none) := by simp only [Bk.correct, hk, if_pos hr, if_neg hl]
        rw [hp]
        have hlz : ¬ (120 : Int) ≤ (b.l.length : Int) := by omega
        clear hr hp hk hz
        go_enter Tryz.func45, Tryz.ntmps45
        go_wp2_with fail
        rw [← HW0.out]
        refine HLV.out.mono ?_
        rintro x w0 ⟨rfl, hb01⟩
        have F0 := (hb01.cell (p := ⟨w.heap.size, 0, none⟩) hEl).trans E0
        have F1 := (hb01.cell (p := ⟨w.heap.size, 1, none⟩) hEl).trans E1
        have F2 := (hb01.cell (p := ⟨w.heap.size, 2, none⟩) hEl).trans E2
        have F3 := (hb01.cell (p := ⟨w.heap.size, 3, none⟩) hEl).trans E3
        have F4 := (hb01.cell (p := ⟨w.heap.size, 4, none⟩) hEl).trans E4
        have F5 := (hb01.cell (p := ⟨w.heap.size, 5, none⟩) hEl).trans E5
        have F6 := (hb01.cell (p := ⟨w.heap.size, 6, none⟩) hEl).trans E6
        go_wp2_with fail
        refine (HRT.out _).mono ?_
        rintro x w1 ⟨rfl, hb11⟩
        have hb1 := hb01.step hb11
        have d0 := (hb1.cell (p := ⟨B, 0, none⟩) hBl0).trans c0
        have D0 := (hb1.cell (p := ⟨w.heap.size, 0, none⟩) hEl).trans E0
        have D1 := (hb1.cell (p := ⟨w.heap.size, 1, none⟩) hEl).trans E1
        have D2 := (hb1.cell (p := ⟨w.heap.size, 2, none⟩) hEl).trans E2
        have D3 := (hb1.cell (p := ⟨w.heap.size, 3, none⟩) hEl).trans E3
        have D4 := (hb1.cell (p := ⟨w.heap.size, 4, none⟩) hEl).trans E4
        have D5 := (hb1.cell (p := ⟨w.heap.size, 5, none⟩) hEl).trans E5
        have D6 := (hb1.cell (p := ⟨w.heap.size, 6, none⟩) hEl).trans E6
        have G0 : w1.frozen? ⟨w.heap.size, 0, none⟩ = false := (hb1.frozen (p := ⟨w.heap.size, 0, none⟩) hEl).trans hFz
        clear c0 E0 E1 E2 E3 E4 E5 E6 F0 F1 F2 F3 F4 F5 F6 hFz
        go_wp2_with fail
        have hEw : w1.heap[w.heap.size]? = _ := (hb1.block w.heap.size hEl).trans HEH.out
        have BO := (HBW.out.below hb1).setOther (X := w.heap.size) (j := 0) (.int .i64 id) (by omega) ⟨_, _, _, hEw, by decide⟩
        have CO := (Ch.of_below (HB0.out.step hb1) hBl).fresh (X := w.heap.size) (j := 0) (.int .i64 id) (Nat.le_refl _) hBl
        refine (write_any B b ⟨id, s, k, q, p, o, d⟩ _ BO (by omega) ⟨by omega, by omega⟩).mono ?_
        rintro x W2 ⟨rfl, BF, CF⟩
        have CTT := Lib.hid (CO.trans CF)
        have BTT := Lib.hid BF
        clear CF CO BO BF hEw d0 D0 D1 D2 D3 D4 D5 D6 G0
        have hkw : m < (b.write ⟨id, s, k, q, p, o, d⟩).l.length := by simp only [Bk.write, List.length_append]; omega
        go_wp2_with fail
        have hl2 := BTT.out.lt
        have c1' : W2.cell? ⟨B, 1, none⟩ = some (.int .i64 (b.turn + 1)) := BTT.out.c1
        obtain ⟨g, c, z, c0, ho, d8, f8, hgl⟩ := to_ready BTT.out hkw
        have HC0 := Lib.hid c0
        have HHO := Lib.hid ho
        clear ho
        have hcs := fun (p : Since W2) b o h => Since.cells p b o h
        have hkn : (m : Int) < ((b.write ⟨id, s, k, q, p, o, d⟩).l.length : Int) := by omega
        refine wp_region_since_tail 9 (by kernel_rfl) (by kernel_rfl) ?_
        simp only [List.take_succ_cons, List.take_zero, List.drop_succ_cons, List.drop_zero]
        iterate 9 (go_big_quiet_step (fail))
        refine wpQuiet_nil ?_
        intro w3 hw3
        obtain ⟨pp, hp3⟩ := hw3
        have hb3 : Below W2.heap.size W2 w3 := by rw [hp3]; exact pp.h
        clear hp3 pp hcs c0
        obtain ⟨BE, CE⟩ := to_set (BTT.out.below hb3) ((hb3.cell (p := ⟨B, 0, none⟩) hl2).trans HC0.out) (own_below HHO.out hb3) m (b.turn + 1)
        have BEE := Lib.hid BE
        have CEE := Lib.hid ((CTT.out.trans (Ch.of_below hb3 hl2)).trans CE)
        have d8' := (hb3.cell (p := ⟨g, m * 9 + 8, none⟩) hgl).trans d8
        have f8' := (hb3.frozen (p := ⟨g, m * 9 + 8, none⟩) hgl).trans f8
        clear BE CE d8 f8 c1'
        go_wp2_with fail
        go_ret
        exact ⟨rfl, BEE.out, CEE.out⟩
    · have hr2 : Ev.rightB s.data.toList k q p o d = false := by simpa [Evt.right] using hr
      have hp : b.correct id ⟨i, s, k, q, p, o, d⟩ = (b, some 1) := by simp only [Bk.correct, hk, if_neg hr]
      rw [hp]
      rw [hr2] at hRT
      have HRT := Lib.hid hRT
      clear hr hp hr2 hRT hk hz
      go_enter Tryz.func45, Tryz.ntmps45
      go_wp2_with fail
      rw [← HW0.out]
      refine HLV.out.mono ?_
      rintro x w0 ⟨rfl, hb01⟩
      have F0 := (hb01.cell (p := ⟨w.heap.size, 0, none⟩) hEl).trans E0
      have F1 := (hb01.cell (p := ⟨w.heap.size, 1, none⟩) hEl).trans E1
      have F2 := (hb01.cell (p := ⟨w.heap.size, 2, none⟩) hEl).trans E2
      have F3 := (hb01.cell (p := ⟨w.heap.size, 3, none⟩) hEl).trans E3
      have F4 := (hb01.cell (p := ⟨w.heap.size, 4, none⟩) hEl).trans E4
      have F5 := (hb01.cell (p := ⟨w.heap.size, 5, none⟩) hEl).trans E5
      have F6 := (hb01.cell (p := ⟨w.heap.size, 6, none⟩) hEl).trans E6
      go_wp2_with fail
      refine (HRT.out _).mono ?_
      rintro x w1 ⟨rfl, hb11⟩
      have hb1 := hb01.step hb11
      go_wp2_with fail
      go_ret
      exact ⟨rfl, HBW.out.below hb1, Ch.of_below (HB0.out.step hb1) hBl⟩
end Go.Proofs.YtackpcohmmlkeaaGreatDoor
