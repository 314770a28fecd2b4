/- ReportMoves, walked. -/
import Derived.Test.YtpbbbiifeihkaaaGreatDoorRmW
namespace Go.Proofs.YtpbbbiifeihkaaaGreatDoor
open Go.RowKit
open Go.Maps (Keyed)
set_option linter.unusedVariables false
set_option linter.unusedSimpArgs false

set_option maxHeartbeats 8000000 in
set_option maxRecDepth 100000 in
theorem reportMoves_any (hi : Nat) (v : Value) (l : List ActV) (n turn : Int) (w : World) (hr : RdA hi w v l) (hh : hi ≤ w.heap.size) :
    Calls Tryz.prog 6 #[v, .int .i64 n, .int .i64 turn] w (Gives (.bool true) w) := by
  have HS := Lib.hid (small_any hi v l w hr hh)
  have HR := Lib.hid hr
  obtain ⟨a, c, rfl, -⟩ := hr
  by_cases hsm : smallA l = true
  · have hs2 := hsm
    simp only [smallA, Bool.and_eq_true, decide_eq_true_eq, List.all_eq_true] at hs2
    obtain ⟨hlen, hit⟩ := hs2
    have HIT := Lib.hid hit
    rw [hsm] at HS
    clear hsm hit
    go_enter Tryz.func6, Tryz.ntmps6
    go_wp2_with fail
    refine HS.out.mono ?_
    rintro x w1 ⟨rfl, hb1⟩
    have HB1 := Lib.hid hb1
    clear hb1
    go_wp2_with fail
    refine (reported_any _).mono ?_
    rintro x w2 ⟨rfl, hb2⟩
    have HB2 := Lib.hid (HB1.out.step hb2)
    have HR2 : Hid (RdA hi w2 (.slice a l.length c) l) := Lib.hid (rdA_below HR.out HB2.out hh)
    have HM := Lib.hid (made_any hi _ l w2 HR2.out (Nat.le_trans hh HB2.out.size) hlen HIT.out)
    clear hb2
    go_wp2_with fail
    refine HM.out.mono ?_
    rintro x w3 ⟨rfl, hk3, hb3⟩
    have HK3 := Lib.hid hk3
    have HB3 := Lib.hid (HB2.out.step hb3)
    have HI := Lib.hid (madeB_ok l).1
    generalize w2.heap.size = B at HK3 ⊢
    generalize madeB l = b at HK3 HI
    clear hk3 hb3 HM HR2
    have HAS := Lib.hid (as_any B b turn w3 HK3.out HI.out)
    have hML := as_le HI.out turn
    have HOK := Lib.hid (as_ok HI.out turn)
    have HSO : Hid (Stb.Sorted leE (b.as turn)) := Lib.hid (Stb.isort_sorted leE_total leE_trans _)
    have HAT := Lib.hid (fun W (hk : BkW W B b) => at_any B b n turn W hk HI.out)
    have HMV := Lib.hid (fun s W (hk : BkW W B b) (hss : s.size ≤ maxLen) => moves_any B b s turn W hk HI.out hss)
    obtain ⟨M, hM⟩ : ∃ M, M = b.as turn := ⟨_, rfl⟩
    rw [← hM] at HAS hML HOK HSO
    simp only [← hM] at HAT HMV
    clear hM
    go_wp2_with fail
    refine HAS.out.mono ?_
    rintro x w4 ⟨v4, rfl, ho4, hb4⟩
    have HB4 := Lib.hid (HB3.out.step hb4)
    have HK4 := Lib.hid (HK3.out.below hb4)
    have HIT4 := Lib.hid (items_any w4.heap.size v4 M w4 (rdE_of_own ho4 rfl) (Nat.le_refl _) (by omega))
    clear ho4 hb4 HAS HK3
    go_wp2_with fail
    refine HIT4.out.mono ?_
    rintro x w5 ⟨v5, rfl, ho5, hb5⟩
    have HB5 := Lib.hid (HB4.out.step hb5)
    have HK5 := Lib.hid (HK4.out.below hb5)
    obtain ⟨a5, c5, rfl⟩ := own_slice ho5
    have HO5 := Lib.hid ho5
    have hal : (itemF M).length ≤ 120 := Nat.le_trans (itemF_len M) hML
    have HIM := Lib.hid (itemF_mem M)
    clear ho5 hb5 HIT4 HK4
    obtain ⟨all, hall⟩ : ∃ all, all = itemF M := ⟨_, rfl⟩
    rw [← hall] at HO5 hal HIM ⊢
    clear hall
    have hbx := (Below.refl w5.heap.size w5).new (.cells #[.slice a5 all.length c5] 82)
    have HX8 := Lib.hid (World.alloc_heap_new w5 (.cells #[.slice a5 all.length c5] 82))
    have HB6 := Lib.hid (HB5.out.step hbx)
    have HK6 := Lib.hid (HK5.out.below hbx)
    have HO6 := Lib.hid (own_below HO5.out hbx)
    clear hbx HK5 HO5
    go_wp2_with fail
    refine (HAT.out _ HK6.out).mono ?_
    rintro x w7 ⟨v7, ks, rfl, hh7, ho7, hb7⟩
    have HB7 := Lib.hid (HB6.out.step hb7)
    have HK7 := Lib.hid (HK6.out.below hb7)
    have HO7 := Lib.hid (own_below HO6.out hb7)
    have HX7 : Hid (w7.heap[w5.heap.size]? = some (.cells #[.slice a5 all.length c5] 82 (0, 0))) := Lib.hid ((hb7.block _ (by simp)).trans HX8.out)
    obtain ⟨a7, c7, rfl⟩ := own_slice ho7
    have HH7 := Lib.hid ho7
    have HHP := Lib.hid hh7
    have hkl : ks.length ≤ 120 := Nat.le_trans hh7.len (Nat.le_trans (List.length_filter_le _ _) hML)
    have HWA := Lib.hid (fun s => what_apart M HOK.out.2 (fun e he => (HOK.out.1 e he).2.2) n s)
    have hA7 : w5.heap.size < w7.heap.size := (Array.getElem?_eq_some_iff.1 HX7.out).1
    clear hh7 ho7 hb7 HB6 HK6 HO6 HX8 HAT
    generalize w5.heap.size = A at HX7 hA7 ⊢
    go_wp2_with fail
    have HBX := Lib.hid ((Below.refl w7.heap.size w7).new (.cells #[.int .i64 0] 3))
    have hX0 := World.alloc_heap_new w7 (.cells #[.int .i64 0] 3)
    have x0 : (w7.alloc (.cells #[.int .i64 0] 3)).cell? ⟨w7.heap.size, 0, none⟩ = some (.int .i64 (0 : Nat)) := by simp only [World.cell?, hX0]; rfl
    have f0 : (w7.alloc (.cells #[.int .i64 0] 3)).frozen? ⟨w7.heap.size, 0, none⟩ = false := by simp only [World.frozen?, hX0]; rfl
    generalize (w7.alloc (.cells #[.int .i64 0] 3)) = W8 at HBX x0 f0 ⊢
    clear hX0
    go_loopg [10] all.length (fun kx p10 wr => ∃ (i X : Nat), i ≤ all.length ∧ p10 = .pointer (some ⟨X, 0, none⟩) ∧ all.length - i ≤ kx ∧ wr.cell? ⟨X, 0, none⟩ = some (.int .i64 i) ∧ wr.frozen? ⟨X, 0, none⟩ = false ∧ w7.heap.size ≤ X ∧ Hid (Below w7.heap.size w7 wr))
    case atStart => exact ⟨0, _, by omega, rfl, by omega, x0, f0, Nat.le_refl _, HBX⟩
    case round =>
      obtain ⟨i, X, hil, rfl, hkx, x0, f0, hX7, HBR⟩ := hrel
      have hXl : X < wr.heap.size := cell_lt x0
      have hA8 := (HBR.out.block A hA7).trans HX7.out
      have a0 : wr.cell? ⟨A, 0, none⟩ = some (.slice a5 all.length c5) := by simp only [World.cell?, hA8]; rfl
      clear hA8
      by_cases hlt : i < all.length
      · have hltz : (i : Int) < (all.length : Int) := by omega
        obtain ⟨g5, c5', e5, hg5, hcs⟩ := own1_cell HO7.out i (by simpa using hlt) (by simp)
        injection e5 with e1 e2 e3
        subst e1 e3
        have hg5l : g5 < w7.heap.size := cell_lt hcs
        have hcw : wr.cell? ⟨g5, i, none⟩ = some (.string all[i]) := (HBR.out.cell (p := ⟨g5, i, none⟩) hg5l).trans (by simpa using hcs)
        have hsm : ∃ e ∈ M, e.item = all[i] := HIM.out _ (List.getElem_mem hlt)
        have HCS : Hid (w7.cell? ⟨g5, i, none⟩ = some (.string all[i])) := Lib.hid (by simpa using hcs)
        generalize hs : all[i] = s at hcw hsm HCS
        clear hs hcs
        have hss : s.size ≤ 10 := by
          obtain ⟨e, he, rfl⟩ := hsm
          exact (right_bd (HOK.out.1 e he).2.2).1
        have HMS := Lib.hid (HMV.out s wr (HK7.out.below HBR.out) (by unfold maxLen; omega))
        have hLl : (mineF M s).length ≤ 120 := Nat.le_trans (List.length_filter_le _ _) hML
        have HLS : Hid (Stb.Sorted leE (mineF M s)) := Lib.hid (List.Pairwise.filter _ HSO.out)
        have HLU : Hid (Uniq (mineF M s)) := Lib.hid (HOK.out.2.filter _)
        have HLR : Hid (∀ e ∈ mineF M s, e.right = true ∧ e.key = s.data.toList) := Lib.hid (fun e he => by
          obtain ⟨h1, h2⟩ := List.mem_filter.1 he
          exact ⟨(HOK.out.1 e h1).2.2, of_decide_eq_true h2⟩)
        have HWS := Lib.hid (HWA.out s)
        generalize mineF M s = L at HMS hLl HLS HLU HLR HWS
        clear hsm
        go_wp2_with fail
        refine HMS.out.mono ?_
        rintro x w9 ⟨v9, rfl, ho9, hb9⟩
        have HB9 := Lib.hid (HBR.out.step hb9)
        obtain ⟨a9, c9, rfl⟩ := own_slice ho9
        have HO9 := Lib.hid ho9
        have x9 : w9.cell? ⟨X, 0, none⟩ = some (.int .i64 i) := (hb9.cell (p := ⟨X, 0, none⟩) hXl).trans x0
        have f9 : w9.frozen? ⟨X, 0, none⟩ = false := (hb9.frozen (p := ⟨X, 0, none⟩) hXl).trans f0
        have hX9 : X < w9.heap.size := cell_lt x9
        clear x0 f0 a0 hcw ho9 hb9 HMS HBR hXl
        go_wp2_with fail
        go_loopg [12, 13, 14, 15, 16] L.length (fun kx v12 v13 v14 v15 i2 wi => ∃ k : Nat, k ≤ L.length ∧ i2 = .int .i64 k ∧ L.length - k ≤ kx ∧ v12 = .int .i64 (whatQ (L.take k) s.data.toList).1 ∧ v13 = .int .i64 (whatQ (L.take k) s.data.toList).2 ∧ v14 = .int .i64 (whatQ (upTo n (L.take k)) s.data.toList).1 ∧ v15 = .int .i64 (whatQ (upTo n (L.take k)) s.data.toList).2 ∧ Hid (Below w9.heap.size w9 wi))
        case atStart => exact ⟨0, by omega, rfl, by omega, rfl, rfl, rfl, rfl, Lib.hid (Below.refl _ _)⟩
        case round =>
          obtain ⟨k, hkl2, rfl, hkx2, rfl, rfl, rfl, rfl, HBI⟩ := hrel
          by_cases hlt2 : k < L.length
          · have hlt2z : (k : Int) < (L.length : Int) := by omega
            obtain ⟨g9, c9', e9, -, hg9, hmc⟩ := mv_at HO9.out rfl k hlt2
            injection e9 with e1 e2 e3
            subst e1 e3
            obtain ⟨-, -, hstp⟩ := move_at HLS.out HLR.out k hlt2
            have hup := upTo_step HLS.out n k hlt2
            have hrt := (HLR.out _ (List.getElem_mem hlt2)).1
            have hbd := what_bd (L.take k) s.data.toList
            have hbd2 := what_bd (L.take (k + 1)) s.data.toList
            have htl : (L.take k).length ≤ 120 := by rw [List.length_take]; omega
            have htl2 : (L.take (k + 1)).length ≤ 120 := by rw [List.length_take]; omega
            have HCM : Hid (0 < k → ∃ e0 : Evt, (∀ W, Below w9.heap.size w9 W → ∀ j u, j < 7 → e0.cells[j]? = some u → W.cell? ⟨g9, (k - 1) * 14 + j, none⟩ = some u) ∧ cfE e0 L[k] < 0) := Lib.hid (fun h0 => by
              obtain ⟨g9', c9'', e9', -, -, hmp⟩ := mv_at HO9.out rfl (k - 1) (by omega)
              injection e9' with e1 e2 e3
              injection e1 with e1
              injection e1 with e1
              subst e1
              refine ⟨L[k - 1], fun W hW j u hj hu => hmp W hW j u ?_, cf_lt ((List.pairwise_iff_getElem.1 HLS.out) (k - 1) k (by omega) hlt2 (by omega)) ((List.pairwise_iff_getElem.1 HLU.out) (k - 1) k (by omega) hlt2 (by omega))⟩
              have : j = 0 ∨ j = 1 ∨ j = 2 ∨ j = 3 ∨ j = 4 ∨ j = 5 ∨ j = 6 := by omega
              rcases this with rfl | rfl | rfl | rfl | rfl | rfl | rfl <;> exact hu)
            have HUP : Hid (whatQ (upTo n (L.take (k + 1))) s.data.toList = if L[k].day ≤ n then whatQ (L.take (k + 1)) s.data.toList else whatQ (upTo n (L.take k)) s.data.toList) := Lib.hid (by rw [hup]; split <;> rfl)
            have hmc2 := hmc wr HBI.out
            generalize (oneP (endS (L.take k)) L[k]).1 = x at hmc2 hstp
            generalize hq1 : whatQ (L.take (k + 1)) s.data.toList = q1 at hmc2 hstp HUP hbd2
            generalize hq0 : whatQ (L.take k) s.data.toList = q0 at hstp hbd ⊢
            generalize L[k] = e at hmc2 hstp HUP hrt HCM
            have HQ1 := Lib.hid hq1
            clear hq1 hq0 hup hmc
            obtain ⟨ei, es, ek, eq, ep, eo, ed⟩ := e
            obtain ⟨xi, xv, xs, xl, xg⟩ := x
            obtain ⟨q1a, q1b⟩ := q1
            obtain ⟨q0a, q0b⟩ := q0
            simp only at hbd hbd2 HUP
            have m0 := hmc2 0 _ rfl
            have m1 := hmc2 1 _ rfl
            have m2 := hmc2 2 _ rfl
            have m3 := hmc2 3 _ rfl
            have m4 := hmc2 4 _ rfl
            have m5 := hmc2 5 _ rfl
            have m6 := hmc2 6 _ rfl
            have m7 := hmc2 7 _ rfl
            have m8 := hmc2 8 _ rfl
            have m9 := hmc2 9 _ rfl
            have m10 := hmc2 10 _ rfl
            have m11 := hmc2 11 _ rfl
            have m12 := hmc2 12 _ rfl
            have m13 := hmc2 13 _ rfl
            rw [Nat.add_zero] at m0
            have hg9w : g9 < wr.heap.size := cell_lt m0
            clear hmc2
            simp only at m0 m1 m2 m3 m4 m5 m6 m7 m8 m9 m10 m11 m12 m13
            have hkb := (right_bd hrt).2
            simp only at hkb
            unfold stepM at hstp
            simp only at hstp
            clear hrt
            have hb0 : 0 ≤ q0a ∧ q0a ≤ 12000000 ∧ 0 ≤ q0b ∧ q0b ≤ 12000000000000 := by omega
            have hb1 : 0 ≤ q1a ∧ q1a ≤ 12000000 ∧ 0 ≤ q1b ∧ q1b ≤ 12000000000000 := by omega
            clear hbd hbd2 htl htl2
            replace hkb : (ek = 1 ∧ 1 ≤ eq ∧ eq ≤ 100000 ∧ True) ∨ (ek = 2 ∧ True) ∨ (ek = 3 ∧ 1 ≤ eq ∧ eq ≤ 100000 ∧ True) ∨ (xg = true ∧ ek = 4 ∧ 0 ≤ eq ∧ eq ≤ 100000) ∨ (xg = false ∧ ek = 4 ∧ 0 ≤ eq ∧ eq ≤ 100000) := by
              rcases hkb with h | h | h | h
              · exact .inl ⟨h.1, h.2.1, h.2.2.1, trivial⟩
              · exact .inr (.inl ⟨h.1, trivial⟩)
              · exact .inr (.inr (.inl ⟨h.1, h.2.1, h.2.2.1, trivial⟩))
              · cases xg
                · exact .inr (.inr (.inr (.inr ⟨rfl, h.1, h.2.1, h.2.2.1⟩)))
                · exact .inr (.inr (.inr (.inl ⟨rfl, h.1, h.2.1, h.2.2.1⟩)))
            by_cases hk0 : k = 0
            · have hkd : decide (0 < k) = false := decide_eq_false (by omega)
              have hkz : ¬ (k : Int) > 0 := by omega
              clear HCM hk0
              rcases hkb with ⟨rfl, h2, h3, -⟩ | ⟨rfl, -⟩ | ⟨rfl, h2, h3, -⟩ | ⟨rfl, rfl, h2, h3⟩ | ⟨rfl, rfl, h2, h3⟩
              · as_aux_lemma =>
                  rw [if_pos rfl, Prod.mk.injEq] at hstp
                  obtain ⟨rfl, rfl⟩ := hstp
                  go_wp2_with fail
                  go_quiet (fail)
                  go_wp2_with fail
                  go_quiet (fail)
                  by_cases hd : ed ≤ n
                  · have HD := Lib.hid hd
                    go_wp2_with fail
                    go_roundg (L.length - (k + 1))
                    case measure => omega
                    case rel => exact ⟨k + 1, hlt2, by first | rfl | go_num | (congr 1; omega), Nat.le_refl _, by rw [HQ1.out], by rw [HQ1.out], by rw [HUP.out, if_pos (by have := HD.out; omega)], by rw [HUP.out, if_pos (by have := HD.out; omega)], Lib.hid (by first | exact below_drewN (below_drewN (HBI.out.new _) _) _ | exact below_drewN (HBI.out.new _) _)⟩
                  · have HD := Lib.hid hd
                    go_wp2_with fail
                    go_roundg (L.length - (k + 1))
                    case measure => omega
                    case rel => exact ⟨k + 1, hlt2, by first | rfl | go_num | (congr 1; omega), Nat.le_refl _, by rw [HQ1.out], by rw [HQ1.out], by rw [HUP.out, if_neg (by have := HD.out; omega)], by rw [HUP.out, if_neg (by have := HD.out; omega)], Lib.hid (by first | exact below_drewN (below_drewN (HBI.out.new _) _) _ | exact below_drewN (HBI.out.new _) _)⟩
              · as_aux_lemma =>
                  rw [if_neg (by decide), if_pos rfl, Prod.mk.injEq] at hstp
                  obtain ⟨rfl, rfl⟩ := hstp
                  go_wp2_with fail
                  go_quiet (fail)
                  by_cases hd : ed ≤ n
                  · have HD := Lib.hid hd
                    go_wp2_with fail
                    go_roundg (L.length - (k + 1))
                    case measure => omega
                    case rel => exact ⟨k + 1, hlt2, by first | rfl | go_num | (congr 1; omega), Nat.le_refl _, by rw [HQ1.out], by rw [HQ1.out], by rw [HUP.out, if_pos (by have := HD.out; omega)], by rw [HUP.out, if_pos (by have := HD.out; omega)], Lib.hid (by first | exact below_drewN (below_drewN (HBI.out.new _) _) _ | exact below_drewN (HBI.out.new _) _)⟩
                  · have HD := Lib.hid hd
                    go_wp2_with fail
                    go_roundg (L.length - (k + 1))
                    case measure => omega
                    case rel => exact ⟨k + 1, hlt2, by first | rfl | go_num | (congr 1; omega), Nat.le_refl _, by rw [HQ1.out], by rw [HQ1.out], by rw [HUP.out, if_neg (by have := HD.out; omega)], by rw [HUP.out, if_neg (by have := HD.out; omega)], Lib.hid (by first | exact below_drewN (below_drewN (HBI.out.new _) _) _ | exact below_drewN (HBI.out.new _) _)⟩
              · as_aux_lemma =>
                  rw [if_neg (by decide), if_neg (by decide), if_pos rfl, Prod.mk.injEq] at hstp
                  obtain ⟨rfl, rfl⟩ := hstp
                  go_wp2_with fail
                  go_quiet (fail)
                  go_wp2_with fail
                  go_quiet (fail)
                  by_cases hd : ed ≤ n
                  · have HD := Lib.hid hd
                    go_wp2_with fail
                    go_roundg (L.length - (k + 1))
                    case measure => omega
                    case rel => exact ⟨k + 1, hlt2, by first | rfl | go_num | (congr 1; omega), Nat.le_refl _, by rw [HQ1.out], by rw [HQ1.out], by rw [HUP.out, if_pos (by have := HD.out; omega)], by rw [HUP.out, if_pos (by have := HD.out; omega)], Lib.hid (by first | exact below_drewN (below_drewN (HBI.out.new _) _) _ | exact below_drewN (HBI.out.new _) _)⟩
                  · have HD := Lib.hid hd
                    go_wp2_with fail
                    go_roundg (L.length - (k + 1))
                    case measure => omega
                    case rel => exact ⟨k + 1, hlt2, by first | rfl | go_num | (congr 1; omega), Nat.le_refl _, by rw [HQ1.out], by rw [HQ1.out], by rw [HUP.out, if_neg (by have := HD.out; omega)], by rw [HUP.out, if_neg (by have := HD.out; omega)], Lib.hid (by first | exact below_drewN (below_drewN (HBI.out.new _) _) _ | exact below_drewN (HBI.out.new _) _)⟩
              · as_aux_lemma =>
                  rw [if_neg (by decide), if_neg (by decide), if_neg (by decide), if_pos rfl, Prod.mk.injEq] at hstp
                  obtain ⟨rfl, rfl⟩ := hstp
                  go_wp2_with fail
                  go_quiet (fail)
                  go_wp2_with fail
                  go_quiet (fail)
                  by_cases hd : ed ≤ n
                  · have HD := Lib.hid hd
                    go_wp2_with fail
                    go_roundg (L.length - (k + 1))
                    case measure => omega
                    case rel => exact ⟨k + 1, hlt2, by first | rfl | go_num | (congr 1; omega), Nat.le_refl _, by rw [HQ1.out], by rw [HQ1.out], by rw [HUP.out, if_pos (by have := HD.out; omega)], by rw [HUP.out, if_pos (by have := HD.out; omega)], Lib.hid (by first | exact below_drewN (below_drewN (HBI.out.new _) _) _ | exact below_drewN (HBI.out.new _) _)⟩
                  · have HD := Lib.hid hd
                    go_wp2_with fail
                    go_roundg (L.length - (k + 1))
                    case measure => omega
                    case rel => exact ⟨k + 1, hlt2, by first | rfl | go_num | (congr 1; omega), Nat.le_refl _, by rw [HQ1.out], by rw [HQ1.out], by rw [HUP.out, if_neg (by have := HD.out; omega)], by rw [HUP.out, if_neg (by have := HD.out; omega)], Lib.hid (by first | exact below_drewN (below_drewN (HBI.out.new _) _) _ | exact below_drewN (HBI.out.new _) _)⟩
              · as_aux_lemma =>
                  rw [if_neg (by decide), if_neg (by decide), if_neg (by decide), if_neg (by decide), Prod.mk.injEq] at hstp
                  obtain ⟨rfl, rfl⟩ := hstp
                  go_wp2_with fail
                  go_quiet (fail)
                  go_wp2_with fail
                  go_quiet (fail)
                  by_cases hd : ed ≤ n
                  · have HD := Lib.hid hd
                    go_wp2_with fail
                    go_roundg (L.length - (k + 1))
                    case measure => omega
                    case rel => exact ⟨k + 1, hlt2, by first | rfl | go_num | (congr 1; omega), Nat.le_refl _, by rw [HQ1.out], by rw [HQ1.out], by rw [HUP.out, if_pos (by have := HD.out; omega)], by rw [HUP.out, if_pos (by have := HD.out; omega)], Lib.hid (by first | exact below_drewN (below_drewN (HBI.out.new _) _) _ | exact below_drewN (HBI.out.new _) _)⟩
                  · have HD := Lib.hid hd
                    go_wp2_with fail
                    go_roundg (L.length - (k + 1))
                    case measure => omega
                    case rel => exact ⟨k + 1, hlt2, by first | rfl | go_num | (congr 1; omega), Nat.le_refl _, by rw [HQ1.out], by rw [HQ1.out], by rw [HUP.out, if_neg (by have := HD.out; omega)], by rw [HUP.out, if_neg (by have := HD.out; omega)], Lib.hid (by first | exact below_drewN (below_drewN (HBI.out.new _) _) _ | exact below_drewN (HBI.out.new _) _)⟩
            · have hkd : decide (0 < k) = true := decide_eq_true (by omega)
              have hkz : (k : Int) > 0 := by omega
              obtain ⟨e0, hpc, hc0⟩ := HCM.out (by omega)
              have HCP := Lib.hid (fun W => compareE_any e0 ⟨ei, es, ek, eq, ep, eo, ed⟩ W)
              have hpw := hpc wr HBI.out
              have hk1 : (k : Int) - 1 = ((k - 1 : Nat) : Int) := by omega
              have hk1l : ((k - 1 : Nat) : Int) < (L.length : Int) := by omega
              generalize cfE e0 ⟨ei, es, ek, eq, ep, eo, ed⟩ = z at hc0 HCP
              have hzd : decide (0 ≤ z) = false := decide_eq_false (by omega)
              have hzz : ¬ z ≥ 0 := by omega
              obtain ⟨i0, s0, k0', q0', p0', o0', d0'⟩ := e0
              have r0 := hpw 0 _ (by omega) rfl
              have r1 := hpw 1 _ (by omega) rfl
              have r2 := hpw 2 _ (by omega) rfl
              have r3 := hpw 3 _ (by omega) rfl
              have r4 := hpw 4 _ (by omega) rfl
              have r5 := hpw 5 _ (by omega) rfl
              have r6 := hpw 6 _ (by omega) rfl
              rw [Nat.add_zero] at r0
              simp only [Evt.agg] at HCP r0 r1 r2 r3 r4 r5 r6
              clear HCM hk0 hpc hpw hc0
              rcases hkb with ⟨rfl, h2, h3, -⟩ | ⟨rfl, -⟩ | ⟨rfl, h2, h3, -⟩ | ⟨rfl, rfl, h2, h3⟩ | ⟨rfl, rfl, h2, h3⟩
              · as_aux_lemma =>
                  rw [if_pos rfl, Prod.mk.injEq] at hstp
                  obtain ⟨rfl, rfl⟩ := hstp
                  go_wp2_with fail
                  go_quiet (fail)
                  go_wp2_with fail
                  have hcs := fun W2 (p : Since W2) b o h => Since.cells p b o h
                  refine wp_region_since (by kernel_rfl) (by kernel_rfl) ?_
                  iterate 26 (go_big_quiet_step (first | (with_reducible exact Calls.since_of (HCP.out _))))
                  refine wpQuiet_nil ?_
                  intro w12 hw12
                  obtain ⟨pp, hp12⟩ := hw12
                  have hb12 := pp.h
                  rw [← hp12] at hb12
                  have n6 : w12.cell? ⟨wr.heap.size, 6, none⟩ = some (.int .i64 ed) := (hb12.cell (p := ⟨wr.heap.size, 6, none⟩) (by simp)).trans (by simp)
                  have HBE : Hid (Below w9.heap.size w9 w12) := Lib.hid (by first | exact (below_drewN (HBI.out.new _) _).step hb12 | exact (HBI.out.new _).step hb12)
                  have nl : wr.heap.size < w12.heap.size := cell_lt n6
                  clear hp12 pp hcs hb12
                  by_cases hd : ed ≤ n
                  · have HD := Lib.hid hd
                    go_wp2_with fail
                    go_roundg (L.length - (k + 1))
                    case measure => omega
                    case rel => exact ⟨k + 1, hlt2, by first | rfl | go_num | (congr 1; omega), Nat.le_refl _, by rw [HQ1.out], by rw [HQ1.out], by rw [HUP.out, if_pos (by have := HD.out; omega)], by rw [HUP.out, if_pos (by have := HD.out; omega)], HBE⟩
                  · have HD := Lib.hid hd
                    go_wp2_with fail
                    go_roundg (L.length - (k + 1))
                    case measure => omega
                    case rel => exact ⟨k + 1, hlt2, by first | rfl | go_num | (congr 1; omega), Nat.le_refl _, by rw [HQ1.out], by rw [HQ1.out], by rw [HUP.out, if_neg (by have := HD.out; omega)], by rw [HUP.out, if_neg (by have := HD.out; omega)], HBE⟩
              · as_aux_lemma =>
                  rw [if_neg (by decide), if_pos rfl, Prod.mk.injEq] at hstp
                  obtain ⟨rfl, rfl⟩ := hstp
                  go_wp2_with fail
                  have hcs := fun W2 (p : Since W2) b o h => Since.cells p b o h
                  refine wp_region_since (by kernel_rfl) (by kernel_rfl) ?_
                  iterate 26 (go_big_quiet_step (first | (with_reducible exact Calls.since_of (HCP.out _))))
                  refine wpQuiet_nil ?_
                  intro w12 hw12
                  obtain ⟨pp, hp12⟩ := hw12
                  have hb12 := pp.h
                  rw [← hp12] at hb12
                  have n6 : w12.cell? ⟨wr.heap.size, 6, none⟩ = some (.int .i64 ed) := (hb12.cell (p := ⟨wr.heap.size, 6, none⟩) (by simp)).trans (by simp)
                  have HBE : Hid (Below w9.heap.size w9 w12) := Lib.hid (by first | exact (below_drewN (HBI.out.new _) _).step hb12 | exact (HBI.out.new _).step hb12)
                  have nl : wr.heap.size < w12.heap.size := cell_lt n6
                  clear hp12 pp hcs hb12
                  by_cases hd : ed ≤ n
                  · have HD := Lib.hid hd
                    go_wp2_with fail
                    go_roundg (L.length - (k + 1))
                    case measure => omega
                    case rel => exact ⟨k + 1, hlt2, by first | rfl | go_num | (congr 1; omega), Nat.le_refl _, by rw [HQ1.out], by rw [HQ1.out], by rw [HUP.out, if_pos (by have := HD.out; omega)], by rw [HUP.out, if_pos (by have := HD.out; omega)], HBE⟩
                  · have HD := Lib.hid hd
                    go_wp2_with fail
                    go_roundg (L.length - (k + 1))
                    case measure => omega
                    case rel => exact ⟨k + 1, hlt2, by first | rfl | go_num | (congr 1; omega), Nat.le_refl _, by rw [HQ1.out], by rw [HQ1.out], by rw [HUP.out, if_neg (by have := HD.out; omega)], by rw [HUP.out, if_neg (by have := HD.out; omega)], HBE⟩
              · as_aux_lemma =>
                  rw [if_neg (by decide), if_neg (by decide), if_pos rfl, Prod.mk.injEq] at hstp
                  obtain ⟨rfl, rfl⟩ := hstp
                  go_wp2_with fail
                  go_quiet (fail)
                  go_wp2_with fail
                  have hcs := fun W2 (p : Since W2) b o h => Since.cells p b o h
                  refine wp_region_since (by kernel_rfl) (by kernel_rfl) ?_
                  iterate 26 (go_big_quiet_step (first | (with_reducible exact Calls.since_of (HCP.out _))))
                  refine wpQuiet_nil ?_
                  intro w12 hw12
                  obtain ⟨pp, hp12⟩ := hw12
                  have hb12 := pp.h
                  rw [← hp12] at hb12
                  have n6 : w12.cell? ⟨wr.heap.size, 6, none⟩ = some (.int .i64 ed) := (hb12.cell (p := ⟨wr.heap.size, 6, none⟩) (by simp)).trans (by simp)
                  have HBE : Hid (Below w9.heap.size w9 w12) := Lib.hid (by first | exact (below_drewN (HBI.out.new _) _).step hb12 | exact (HBI.out.new _).step hb12)
                  have nl : wr.heap.size < w12.heap.size := cell_lt n6
                  clear hp12 pp hcs hb12
                  by_cases hd : ed ≤ n
                  · have HD := Lib.hid hd
                    go_wp2_with fail
                    go_roundg (L.length - (k + 1))
                    case measure => omega
                    case rel => exact ⟨k + 1, hlt2, by first | rfl | go_num | (congr 1; omega), Nat.le_refl _, by rw [HQ1.out], by rw [HQ1.out], by rw [HUP.out, if_pos (by have := HD.out; omega)], by rw [HUP.out, if_pos (by have := HD.out; omega)], HBE⟩
                  · have HD := Lib.hid hd
                    go_wp2_with fail
                    go_roundg (L.length - (k + 1))
                    case measure => omega
                    case rel => exact ⟨k + 1, hlt2, by first | rfl | go_num | (congr 1; omega), Nat.le_refl _, by rw [HQ1.out], by rw [HQ1.out], by rw [HUP.out, if_neg (by have := HD.out; omega)], by rw [HUP.out, if_neg (by have := HD.out; omega)], HBE⟩
              · as_aux_lemma =>
                  rw [if_neg (by decide), if_neg (by decide), if_neg (by decide), if_pos rfl, Prod.mk.injEq] at hstp
                  obtain ⟨rfl, rfl⟩ := hstp
                  go_wp2_with fail
                  go_quiet (fail)
                  go_wp2_with fail
                  have hcs := fun W2 (p : Since W2) b o h => Since.cells p b o h
                  refine wp_region_since (by kernel_rfl) (by kernel_rfl) ?_
                  iterate 26 (go_big_quiet_step (first | (with_reducible exact Calls.since_of (HCP.out _))))
                  refine wpQuiet_nil ?_
                  intro w12 hw12
                  obtain ⟨pp, hp12⟩ := hw12
                  have hb12 := pp.h
                  rw [← hp12] at hb12
                  have n6 : w12.cell? ⟨wr.heap.size, 6, none⟩ = some (.int .i64 ed) := (hb12.cell (p := ⟨wr.heap.size, 6, none⟩) (by simp)).trans (by simp)
                  have HBE : Hid (Below w9.heap.size w9 w12) := Lib.hid (by first | exact (below_drewN (HBI.out.new _) _).step hb12 | exact (HBI.out.new _).step hb12)
                  have nl : wr.heap.size < w12.heap.size := cell_lt n6
                  clear hp12 pp hcs hb12
                  by_cases hd : ed ≤ n
                  · have HD := Lib.hid hd
                    go_wp2_with fail
                    go_roundg (L.length - (k + 1))
                    case measure => omega
                    case rel => exact ⟨k + 1, hlt2, by first | rfl | go_num | (congr 1; omega), Nat.le_refl _, by rw [HQ1.out], by rw [HQ1.out], by rw [HUP.out, if_pos (by have := HD.out; omega)], by rw [HUP.out, if_pos (by have := HD.out; omega)], HBE⟩
                  · have HD := Lib.hid hd
                    go_wp2_with fail
                    go_roundg (L.length - (k + 1))
                    case measure => omega
                    case rel => exact ⟨k + 1, hlt2, by first | rfl | go_num | (congr 1; omega), Nat.le_refl _, by rw [HQ1.out], by rw [HQ1.out], by rw [HUP.out, if_neg (by have := HD.out; omega)], by rw [HUP.out, if_neg (by have := HD.out; omega)], HBE⟩
              · as_aux_lemma =>
                  rw [if_neg (by decide), if_neg (by decide), if_neg (by decide), if_neg (by decide), Prod.mk.injEq] at hstp
                  obtain ⟨rfl, rfl⟩ := hstp
                  go_wp2_with fail
                  go_quiet (fail)
                  go_wp2_with fail
                  have hcs := fun W2 (p : Since W2) b o h => Since.cells p b o h
                  refine wp_region_since (by kernel_rfl) (by kernel_rfl) ?_
                  iterate 26 (go_big_quiet_step (first | (with_reducible exact Calls.since_of (HCP.out _))))
                  refine wpQuiet_nil ?_
                  intro w12 hw12
                  obtain ⟨pp, hp12⟩ := hw12
                  have hb12 := pp.h
                  rw [← hp12] at hb12
                  have n6 : w12.cell? ⟨wr.heap.size, 6, none⟩ = some (.int .i64 ed) := (hb12.cell (p := ⟨wr.heap.size, 6, none⟩) (by simp)).trans (by simp)
                  have HBE : Hid (Below w9.heap.size w9 w12) := Lib.hid (by first | exact (below_drewN (HBI.out.new _) _).step hb12 | exact (HBI.out.new _).step hb12)
                  have nl : wr.heap.size < w12.heap.size := cell_lt n6
                  clear hp12 pp hcs hb12
                  by_cases hd : ed ≤ n
                  · have HD := Lib.hid hd
                    go_wp2_with fail
                    go_roundg (L.length - (k + 1))
                    case measure => omega
                    case rel => exact ⟨k + 1, hlt2, by first | rfl | go_num | (congr 1; omega), Nat.le_refl _, by rw [HQ1.out], by rw [HQ1.out], by rw [HUP.out, if_pos (by have := HD.out; omega)], by rw [HUP.out, if_pos (by have := HD.out; omega)], HBE⟩
                  · have HD := Lib.hid hd
                    go_wp2_with fail
                    go_roundg (L.length - (k + 1))
                    case measure => omega
                    case rel => exact ⟨k + 1, hlt2, by first | rfl | go_num | (congr 1; omega), Nat.le_refl _, by rw [HQ1.out], by rw [HQ1.out], by rw [HUP.out, if_neg (by have := HD.out; omega)], by rw [HUP.out, if_neg (by have := HD.out; omega)], HBE⟩
          · have hlt2z : ¬ (k : Int) < (L.length : Int) := by omega
            have hke : L.take k = L := List.take_of_length_le (by omega)
            rw [hke]
            have hbd := what_bd (upTo n L) s.data.toList
            have hul : (upTo n L).length ≤ 120 := Nat.le_trans (List.length_filter_le _ _) hLl
            have x9' : wr.cell? ⟨X, 0, none⟩ = some (.int .i64 i) := (HBI.out.cell (p := ⟨X, 0, none⟩) hX9).trans x9
            have f9' : wr.frozen? ⟨X, 0, none⟩ = false := (HBI.out.frozen (p := ⟨X, 0, none⟩) hX9).trans f9
            have HBJ := Lib.hid (HB9.out.step HBI.out)
            have hA8 := (HBJ.out.block A hA7).trans HX7.out
            have a0 : wr.cell? ⟨A, 0, none⟩ = some (.slice (some ⟨g5, 0, none⟩) all.length c5) := by simp only [World.cell?, hA8]; rfl
            have hcj : wr.cell? ⟨g5, i, none⟩ = some (.string s) := (HBJ.out.cell (p := ⟨g5, i, none⟩) hg5l).trans HCS.out
            have HIX := Lib.hid (indexH_any 34 #[.pointer (some ⟨A, 0, none⟩), .pointer (some ⟨X, 0, none⟩)] (fun x => decide (x = s.data.toList)) _ _ (upTo n M) ks wr (own_below HH7.out HBJ.out) (by omega) (enters_of Tryz.func34 (by kernel_rfl) rfl) (fun x hx W hW => moveIs_any x _ _ A X g5 0 all.length c5 i s W ((hW.cell (p := ⟨A, 0, none⟩) (cell_lt a0)).trans a0) ((hW.cell (p := ⟨X, 0, none⟩) (cell_lt x9')).trans x9') hlt (by rw [Nat.zero_add]; exact (hW.cell (p := ⟨g5, i, none⟩) (cell_lt hcj)).trans hcj)))
            rw [HWS.out] at hbd ⊢
            have HNO : Hid ((whatQ (upTo n M) s.data.toList).1 = 0 ↔ s.data.toList ∉ ks) := Lib.hid (by rw [what_none, HHP.out.mem]; exact ⟨fun h h2 => h2 h, fun h => Classical.byContradiction h⟩)
            have HDQ := Lib.hid (rfl : whatQ (upTo n M) s.data.toList = whatQ (upTo n M) s.data.toList)
            generalize hdq : whatQ (upTo n M) s.data.toList = d at hbd HNO HDQ ⊢
            have HDE := Lib.hid hdq
            obtain ⟨dq, dv⟩ := d
            simp only at hbd HNO
            have hXw : X < wr.heap.size := cell_lt x9'
            clear hdq HDQ hA8 a0 hcj hke
            go_wp2_with fail
            refine HIX.out.mono ?_
            rintro e w13 ⟨z, rfl, hz, hb13⟩
            have HB13 := Lib.hid (HBJ.out.step hb13)
            have x13 : w13.cell? ⟨X, 0, none⟩ = some (.int .i64 i) := (hb13.cell (p := ⟨X, 0, none⟩) hXw).trans x9'
            have hX13 : X < w13.heap.size := cell_lt x13
            have HO13 := own_below HH7.out HB13.out
            rcases hz with ⟨rfl, hz⟩ | ⟨j, hj, rfl, hz⟩
            · have h0 : dq = 0 := HNO.out.2 (fun h => by have := hz _ h; simp at this)
              subst h0
              clear hb13 HIX HO13 x9' f9' x9 f9
              go_wp2_with fail
              go_roundg (all.length - (i + 1))
              case measure => omega
              case rel => exact ⟨i + 1, w13.heap.size, hlt, rfl, Nat.le_refl _, by simp, by simp, HB13.out.size, Lib.hid (HB13.out.new _)⟩
            · have hjs : ks[j] = s.data.toList := of_decide_eq_true hz
              have h0 : dq ≠ 0 := fun h => (HNO.out.1 h) (by rw [← hjs]; exact List.getElem_mem hj)
              obtain ⟨g7, c7', e7, -, y0, y1, y2⟩ := ho_at HO13 rfl j hj
              injection e7 with e1 e2 e3
              subst e1 e3
              rw [hjs, HDE.out] at y1 y2
              simp only at y1 y2
              have hjl : (j : Int) < (ks.length : Int) := by omega
              have hdz : (dq == 0) = false := by simpa using h0
              have hj0 : ¬ (j : Int) < 0 := by omega
              have hjg : (j : Int) ≥ 0 := by omega
              clear hb13 HIX HO13 x9' f9' x9 f9 h0 hz y0 hjs
              go_wp2_with fail
              go_roundg (all.length - (i + 1))
              case measure => omega
              case rel => exact ⟨i + 1, w13.heap.size, hlt, rfl, Nat.le_refl _, by simp, by simp, HB13.out.size, Lib.hid (HB13.out.new _)⟩
      · have hltz : ¬ (i : Int) < (all.length : Int) := by omega
        go_wp2_with fail
        go_ret
        exact ⟨rfl, HB7.out.step HBR.out⟩
  · rw [Bool.not_eq_true] at hsm
    rw [hsm] at HS
    clear hsm
    go_enter Tryz.func6, Tryz.ntmps6
    go_wp2_with fail
    refine HS.out.mono ?_
    rintro x w1 ⟨rfl, hb1⟩
    go_wp2_with fail
    go_ret
    exact ⟨rfl, hb1⟩
theorem reportMoves_go (hi : Nat) (v : Value) (l : List ActV) (n turn : Int) (w : World) (hr : RdA hi w v l) (hh : hi ≤ w.heap.size) (_ : (Lit.int .i64 n).wf = true) (_ : (Lit.int .i64 turn).wf = true) :
    Calls Tryz.prog 6 #[v, .int .i64 n, .int .i64 turn] w (Gives (.bool true) w) := reportMoves_any hi v l n turn w hr hh
end Go.Proofs.YtpbbbiifeihkaaaGreatDoor
