/- BookPast, walked. -/
import Derived.Test.YtpbbbiifeihkaaaDoorBkZ
import Derived.Test.YtpbbbiifeihkaaaDoorBkB
namespace Go.Proofs.YtpbbbiifeihkaaaDoor
open Go.RowKit
set_option linter.unusedVariables false

theorem info_evs : (Tryd.prog.info? 37).map (fun i => (i.zero, i.size, i.bytes)) = some (some (.slice none 0 0), 1, 24) := by kernel_rfl
theorem next_act (b : Bk) (x : ActV) : (b.act x).1.next ≤ b.next + 1 := by
  have hp : (b.post x.e).1.next ≤ b.next + 1 := by
    unfold Bk.post
    split
    · split
      · (show b.next ≤ b.next + 1; omega)
      · exact Int.le_refl _
    · (show b.next ≤ b.next + 1; omega)
  have hc : (b.correct x.id x.e).1.next ≤ b.next + 1 := by
    unfold Bk.correct
    split
    · (show b.next ≤ b.next + 1; omega)
    · split
      · split
        · (show b.next ≤ b.next + 1; omega)
        · simp only; omega
      · (show b.next ≤ b.next + 1; omega)
  have hv : (b.void x.id).1.next ≤ b.next + 1 := by
    unfold Bk.void
    split
    · (show b.next ≤ b.next + 1; omega)
    · simp only; omega
  unfold Bk.act
  split
  · exact hp
  · split
    · exact hc
    · split
      · exact hv
      · simp only; omega
theorem past_start (w : World) : PastW (w.alloc (.cells #[.slice none 0 0] 37)) w.heap.size (.slice (some ⟨w.heap.size, 0, none⟩) 1 1) (told bk0) := by
  rw [told_zero]
  refine ⟨[.slice none 0 0], rfl, ⟨rfl, .inr ⟨w.heap.size, 1, _, rfl, Nat.le_refl _, World.alloc_heap_new w _, Nat.le_refl _, by unfold maxLen; omega, rfl, rfl⟩⟩, fun k hk hk2 => ?_⟩
  have : k = 0 := by simp at hk; omega
  subst this
  exact World.ownsRow_nil _ _ _ _
set_option maxHeartbeats 4000000 in
set_option maxRecDepth 100000 in
theorem bookPast_any (hi : Nat) (v : Value) (l : List ActV) (w : World) (hw : EW w) (hr : RdA hi w v l) (hh : hi ≤ w.heap.size) :
    Calls Tryd.prog 3 #[v] w (Gives (.bool true) w) := by
  have HS := Lib.hid (small_any hi v l w hr hh)
  have HR := Lib.hid hr
  obtain ⟨a, c, rfl, -⟩ := hr
  by_cases hsm : smallA l = true
  · have HW := Lib.hid hw
    have hs2 := hsm
    simp only [smallA, Bool.and_eq_true, decide_eq_true_eq, List.all_eq_true] at hs2
    obtain ⟨hlen, hit⟩ := hs2
    have HIT := Lib.hid hit
    rw [hsm] at HS
    clear hsm hit hw
    go_enter Tryd.func3, Tryd.ntmps3
    go_wp2_with fail
    refine HS.out.mono ?_
    rintro x w1 ⟨rfl, hb1⟩
    have HB1 := Lib.hid hb1
    clear hb1
    go_wp2_with fail
    refine (booked_any _ (HW.out.below HB1.out)).mono ?_
    rintro x w2 ⟨rfl, hb2⟩
    have HB2 := Lib.hid (HB1.out.step hb2)
    clear hb2
    go_wp2_with fail
    have HK0 := Lib.hid ((bkW_new w2).below ((Below.refl _ (w2.alloc bookOb)).new (.cells #[.slice none 0 0] 37)))
    have HP0 := Lib.hid (past_start (w2.alloc bookOb))
    have HB3 := Lib.hid ((HB2.out.new bookOb).new (.cells #[.slice none 0 0] 37))
    simp only [World.size_alloc] at HP0
    generalize ((w2.alloc bookOb).alloc (.cells #[.slice none 0 0] 37)) = W3 at HK0 HP0 HB3 ⊢
    have hB : w.heap.size ≤ w2.heap.size := HB2.out.size
    generalize w2.heap.size = B at HK0 HP0 hB ⊢
    go_loopg [4, 5] l.length (fun kx v4 i wr => ∃ (k : Nat) (b : Bk), k ≤ l.length ∧ i = .int .i64 k ∧ l.length - k ≤ kx ∧ Hid (BkI b) ∧ b.turn ≤ k ∧ b.next ≤ k ∧ Hid (BkW wr B b) ∧ Hid (PastW wr (B + 1) v4 (told b)) ∧ Hid (Below w.heap.size w wr))
    case atStart => exact ⟨0, bk0, by omega, rfl, by omega, Lib.hid bkI0, by decide, by decide, HK0, HP0, HB3⟩
    case round =>
      obtain ⟨k, b, hk, rfl, hkx, HI, ht, hn, HK, HP, HBR⟩ := hrel
      by_cases hlt : k < l.length
      · have hltz : (k : Int) < (l.length : Int) := by omega
        obtain ⟨a', c', ea, hcell⟩ := HR.out
        injection ea with ea1 ea2 ea3
        subst ea1 ea3
        obtain ⟨g, off, rfl, hgl, hc⟩ := hcell k hlt
        clear hcell
        have hcw := fun j u hu => (HBR.out.cell (p := ⟨g, off + k * 9 + j, none⟩) (by show g < w.heap.size; omega)).trans (hc j u hu)
        have c0 := hcw 0 _ rfl
        have c1 := hcw 1 _ rfl
        have c2 := hcw 2 _ rfl
        have c3 := hcw 3 _ rfl
        have c4 := hcw 4 _ rfl
        have c5 := hcw 5 _ rfl
        have c6 := hcw 6 _ rfl
        have c7 := hcw 7 _ rfl
        have c8 := hcw 8 _ rfl
        rw [Nat.add_zero] at c0
        have hgw : g < wr.heap.size := cell_lt c0
        have hits := HIT.out l[k] (List.getElem_mem hlt)
        clear hcw hc
        obtain ⟨x, hx⟩ : ∃ x, x = l[k] := ⟨_, rfl⟩
        rw [← hx] at c0 c1 c2 c3 c4 c5 c6 c7 c8 hits
        clear hx
        have HACT := Lib.hid (act_any B b x wr HK.out HI.out (by omega) (by omega) (by omega))
        have HT := Lib.hid (told_act b x HI.out)
        have HAT := Lib.hid (act_turn b x)
        have HI2 := Lib.hid (HI.out.act x)
        have hb2n : (b.act x).1.next ≤ k + 1 := by have := next_act b x; omega
        have hb2t : (b.act x).1.turn ≤ k + 1 := by
          rcases act_turn b x with ⟨-, h⟩ | ⟨-, h⟩
          · omega
          · rw [h]; omega
        obtain ⟨b', hb'⟩ : ∃ b', b' = (b.act x).1 := ⟨_, rfl⟩
        obtain ⟨o, ho⟩ : ∃ o, o = (b.act x).2 := ⟨_, rfl⟩
        rw [← hb'] at HACT HT HAT HI2 hb2n hb2t
        rw [← ho] at HACT HT HAT
        clear hb' ho
        simp only [ActV.agg] at HACT
        have HPN := Lib.hid (told_len b)
        have hPb : (told b).length ≤ 41 := by have := HI.out.turn0; have := HPN.out; omega
        rcases o with _ | z
        case' none =>
          simp only [errB] at HACT
          go_wp2_with fail
          refine HACT.out.mono ?_
          rintro e w4 ⟨rfl, hk4, hc4⟩
          go_wp2_with fail
          have hP4 := HP.out.ch hc4 (by omega)
          have hbel4 := chBelow hc4 HBR.out hB
          have HK4 := Lib.hid hk4
          clear hc4 hk4
          refine (as_any B b' (-1) w4 HK4.out HI2.out).mono ?_
          rintro e w5 ⟨v5, rfl, ho5, hb5⟩
          have hP5 := hP4.below hb5
          have HK5 := Lib.hid (HK4.out.below hb5)
          obtain ⟨xa5, xc5, rfl⟩ := own_slice ho5
          obtain ⟨vs, hvs, hov, hin⟩ := hP5
          obtain ⟨pa, pc, rfl⟩ := own_slice hov
          have HO5 := Lib.hid ho5
          have HIN := Lib.hid hin
          have HBL5 := Lib.hid (hbel4.step hb5)
          have HB5 := Lib.hid ((hb5).size)
          have hBw : B + 1 ≤ w5.heap.size := by have := HK5.out.lt; omega
          clear ho5 hin hP4 hb5 hbel4
          obtain ⟨i0, hinf, hiz, his, hib⟩ := info_parts info_evs
          obtain ⟨m, hm⟩ : ∃ m, m = (told b).length := ⟨_, rfl⟩
          have HM := Lib.hid hm
          rw [← hm] at hov hPb hvs ⊢
          clear hm
          have HVS := Lib.hid hvs
          clear hvs
          go_wp2_with (at_builtin; go_loud (refine wpList_append_own _ rfl (.tmp 30) (.tmp 32) 28 rfl (B + 1) 37 i0 (.slice none 0 0) 1 24 Tryd.underlying28 hinf hiz his hib rfl (by decide) _ m vs rfl (hov.alloc _) ⟨w5.heap.size, 0, none⟩ 1 1 [.slice xa5 (b'.as (-1)).length xc5] rfl rfl ?cells (by intro u hu; rw [List.mem_singleton.1 hu]; rfl) (by unfold maxLen; omega) (by omega) (by simp; omega) ?app))
          case cells =>
            intro j u hj
            have hj0 : j = 0 := by
              have := (List.getElem?_eq_some_iff.1 hj).1
              simp at this; omega
            subst hj0
            simp only [List.getElem?_cons_zero, Option.some.injEq] at hj
            subst hj
            simp [Addr.add]
          intro v6 w6 ho6 hg6 _
          have hB4 := HK5.out.lt
          have hB44 := HK4.out.lt
          have HK6 : Hid (BkW w6 B b') := Lib.hid (bkW_gb (HK5.out.below ((Below.refl _ w5).new _)) (hov.alloc _) hg6 (by omega) (by decide))
          have HB6 : Hid (Below w.heap.size w w6) := Lib.hid (below_own (HBL5.out.new _) (hov.alloc _) hg6 (by omega) (by have := HBL5.out.size; simp; omega))
          have HP6 : Hid (PastW w6 (B + 1) v6 (told b')) := Lib.hid (by rw [HT.out, if_pos trivial]; exact past_snoc HVS.out HM.out hov HIN.out HO5.out rfl (by omega) ho6 hg6)
          clear ho6 hg6 hov HK4 HK5 HBL5 HO5 HIN HVS HM hB4 hB44 HB5 hBw hPb HK HP HBR HPN HT HAT HACT hinf hiz his hib
          go_wp2_with fail
        case' some =>
          simp only [errB] at HACT
          go_wp2_with fail
          refine HACT.out.mono ?_
          rintro e w6 ⟨rfl, hk4, hc4⟩
          have HK6 := Lib.hid hk4
          have HB6 : Hid (Below w.heap.size w w6) := Lib.hid (chBelow hc4 HBR.out hB)
          have HP6 : Hid (PastW w6 (B + 1) u4 (told b')) := Lib.hid (by rw [HT.out, if_neg (by simp)]; exact HP.out.ch hc4 (by omega))
          obtain ⟨v6, hv6⟩ : ∃ v6, v6 = u4 := ⟨_, rfl⟩
          subst hv6
          clear hk4 hc4 hPb HK HP HBR HPN HT HAT HACT
          go_wp2_with fail
        all_goals
          have HLn := Lib.hid (told_len b')
          have hb0' := HI2.out.turn0
          obtain ⟨m, hm⟩ : ∃ m, m = (told b').length := ⟨_, rfl⟩
          have hmT : (m : Int) = b'.turn + 1 := by have := HLn.out; omega
          have hmP : 0 < m ∧ m ≤ 41 := by omega
          obtain ⟨pg, pc, hv6⟩ : ∃ pg pc, v6 = .slice (some ⟨pg, 0, none⟩) m pc := by
            obtain ⟨g, cap, a, c, e, -⟩ := past_cell HP6.out 0 (by omega)
            exact ⟨g, cap, by rw [e, hm]⟩
          subst hv6
          have HM := Lib.hid hm
          have hne : (b'.turn != (m : Int) - 1) = false := by simp; omega
          have HMT := Lib.hid hmT
          clear hm HLn hmT hb0'
          refine (turn_any B b' w6 HK6.out).mono ?_
          rintro e w7 ⟨rfl, rfl⟩
          go_wp2_with fail
          go_loopg [7] m (fun kx i wi => ∃ q : Nat, q ≤ m ∧ i = .int .i64 q ∧ m - q ≤ kx ∧ Hid (Below w7.heap.size w7 wi))
          case atStart => exact ⟨0, by omega, rfl, by omega, Lib.hid (Below.refl _ _)⟩
          case round =>
            obtain ⟨q, hq, rfl, hkq, HBI⟩ := hrel
            by_cases hql : q < m
            · have hqlz : (q : Int) < (m : Int) := by omega
              obtain ⟨g', cap', a', c', e', -, hcell, hrd⟩ := past_cell HP6.out q (by rw [← HM.out]; exact hql)
              injection e' with e1 e2 e3
              injection e1 with e1
              injection e1 with e1
              subst e1
              clear e2 e3
              rw [told_get] at hcell hrd
              have hL : (b'.as (q : Int)).length ≤ 1000 := by have := as_le HI2.out (q : Int); omega
              have HKq : Hid (∀ W, Below w7.heap.size w7 W → BkW W B b') := Lib.hid (fun W hW => HK6.out.below hW)
              have HCq : Hid (∀ W, Below w7.heap.size w7 W → W.cell? ⟨pg, q, none⟩ = some (.slice a' (b'.as (q : Int)).length c')) := Lib.hid (fun W hW => (hW.cell (p := ⟨pg, q, none⟩) (cell_lt hcell)).trans hcell)
              have HRq : Hid (∀ W, Below w7.heap.size w7 W → RdE w7.heap.size W (.slice a' (b'.as (q : Int)).length c') (b'.as (q : Int))) := Lib.hid (fun W hW => hrd.below hW)
              have hbx := HBI.out
              have hcq := HCq.out wr hbx
              clear hcell hrd
              go_wp2_with fail
              refine wp_region_any (by kernel_rfl) ?_
              refine wpAny_take (i := 0) (v := ?_) rfl (by kernel_rfl) (by kernel_rfl) (by kernel_rfl) (fun _ _ _ h => h) (Or.inl ⟨by rfl, ?_⟩) ?_
              rotate_left
              · intro _; go_simp; try (with_reducible rfl)
              refine wpAny_take (i := 2) (v := ?_) rfl (by kernel_rfl) (by kernel_rfl) (by kernel_rfl) (fun _ _ _ h => h) (Or.inl ⟨by rfl, ?_⟩) ?_
              rotate_left
              · intro _; go_simp; try (with_reducible rfl)
              refine wpAny_take (i := 3) (v := ?_) rfl (by kernel_rfl) (by kernel_rfl) (by kernel_rfl) (fun _ _ _ h => h) (Or.inl ⟨by rfl, ?_⟩) ?_
              rotate_left
              · intro _; go_simp; try (with_reducible rfl)
              refine wpAny_take (i := 4) (v := ?_) rfl (by kernel_rfl) (by kernel_rfl) (by kernel_rfl) (fun _ _ _ h => h) (Or.inl ⟨by rfl, ?_⟩) ?_
              rotate_left
              · intro _; go_simp; try (with_reducible rfl)
              refine wpAny_ready (rs := [1, 5]) (by kernel_rfl) (by simp) (AllReady.cons rfl (fun K hK => ?_) (AllReady.cons rfl (fun K hK => ?_) AllReady.nil))
              · go_simp
                refine (as_any B b' q _ (HKq.out _ (below_drewN hbx 1)) HI2.out).mono ?_
                rintro e w8 ⟨v8, rfl, ho8, hb8⟩
                replace hb8 := below_un hb8
                have hr8 := Lib.hid (rdE_of_own ho8 rfl)
                obtain ⟨xa8, xc8, rfl⟩ := own_slice ho8
                clear ho8
                have hbx8 := hbx.step hb8
                have hc8 := HCq.out w8 hbx8
                refine hK _ _ ?_
                clear hK K
                refine wpAny_ready (rs := [5]) (by kernel_rfl) (by simp) (AllReady.cons rfl (fun K hK => ?_) AllReady.nil)
                go_simp
                refine hK _ _ ?_
                clear hK K
                refine wpAny_ready (rs := [6]) (by kernel_rfl) (by simp) (AllReady.cons rfl (fun K hK => ?_) AllReady.nil)
                go_simp
                refine (equalE_same w8.heap.size w7.heap.size _ _ _ _ _ w8 hL (Nat.le_refl _) hbx8.size hr8.out (HRq.out _ hbx8)).mono ?_
                rintro e w9 ⟨rfl, hb9⟩
                have hbx9 := hbx8.step hb9
                clear hbx8 hc8
                refine hK _ _ ?_
                clear hK K
                refine wpAny_ready (rs := [7]) (by kernel_rfl) (by simp) (AllReady.cons rfl (fun K hK => ?_) AllReady.nil)
                go_simp
                refine hK _ _ ?_
                clear hK K
                refine wpAny_done (by kernel_rfl) ?_ _
                go_wp2
                go_roundg (m - (q + 1))
                case measure => omega
                case rel => exact ⟨q + 1, hql, by first | rfl | go_num | (congr 1; omega), Nat.le_refl _, Lib.hid hbx9⟩
              · go_simp
                refine hK _ _ ?_
                clear hK K
                refine wpAny_ready (rs := [1]) (by kernel_rfl) (by simp) (AllReady.cons rfl (fun K hK => ?_) AllReady.nil)
                go_simp
                refine (as_any B b' q _ (HKq.out _ (below_drewN hbx 1)) HI2.out).mono ?_
                rintro e w8 ⟨v8, rfl, ho8, hb8⟩
                replace hb8 := below_un hb8
                have hr8 := Lib.hid (rdE_of_own ho8 rfl)
                obtain ⟨xa8, xc8, rfl⟩ := own_slice ho8
                clear ho8
                have hbx8 := hbx.step hb8
                have hc8 := HCq.out w8 hbx8
                refine hK _ _ ?_
                clear hK K
                refine wpAny_ready (rs := [6]) (by kernel_rfl) (by simp) (AllReady.cons rfl (fun K hK => ?_) AllReady.nil)
                go_simp
                refine (equalE_same w8.heap.size w7.heap.size _ _ _ _ _ w8 hL (Nat.le_refl _) hbx8.size hr8.out (HRq.out _ hbx8)).mono ?_
                rintro e w9 ⟨rfl, hb9⟩
                have hbx9 := hbx8.step hb9
                clear hbx8 hc8
                refine hK _ _ ?_
                clear hK K
                refine wpAny_ready (rs := [7]) (by kernel_rfl) (by simp) (AllReady.cons rfl (fun K hK => ?_) AllReady.nil)
                go_simp
                refine hK _ _ ?_
                clear hK K
                refine wpAny_done (by kernel_rfl) ?_ _
                go_wp2
                go_roundg (m - (q + 1))
                case measure => omega
                case rel => exact ⟨q + 1, hql, by first | rfl | go_num | (congr 1; omega), Nat.le_refl _, Lib.hid hbx9⟩
            · have hqlz : ¬ (q : Int) < (m : Int) := by omega
              have hmm := @run_makeMap Tryd.prog
              obtain ⟨g', cap', a', c', e', -, hcell, hrd⟩ := past_cell HP6.out (m - 1) (by rw [← HM.out]; omega)
              injection e' with e1 e2 e3
              injection e1 with e1
              injection e1 with e1
              subst e1
              clear e2 e3
              rw [told_get] at hcell hrd
              obtain ⟨es, hes⟩ : ∃ es, es = b'.as ((m - 1 : Nat) : Int) := ⟨_, rfl⟩
              rw [← hes] at hcell hrd
              have hLe : es.length ≤ 120 := by rw [hes]; exact as_le HI2.out _
              have HOK := Lib.hid (as_ok HI2.out ((m - 1 : Nat) : Int))
              rw [← hes] at HOK
              clear hes
              have HCq : Hid (∀ W, Below w7.heap.size w7 W → W.cell? ⟨pg, m - 1, none⟩ = some (.slice a' es.length c')) := Lib.hid (fun W hW => (hW.cell (p := ⟨pg, m - 1, none⟩) (cell_lt hcell)).trans hcell)
              have HRq : Hid (∀ W, Below w7.heap.size w7 W → RdE w7.heap.size W (.slice a' es.length c') es) := Lib.hid (fun W hW => hrd.below hW)
              clear hcell hrd
              have HBA : Hid (Below w7.heap.size w7 (wr.alloc (.map #[] 0))) := Lib.hid (HBI.out.new _)
              have HMV : Hid (MV Tryd.prog 3 (.bool false) (wr.alloc (.map #[] 0)) wr.heap.size [] (fun _ => .bool false)) := Lib.hid (MV.made _ _ _ _)
              have hwr7 : w7.heap.size ≤ wr.heap.size := HBI.out.size
              have hmz : (m : Int) - 1 = ((m - 1 : Nat) : Int) := by omega
              have hml : m - 1 < m := by omega
              go_wp2
              generalize wr.alloc (.map #[] 0) = W8 at HBA HMV ⊢
              clear HBI hmm
              generalize wr.heap.size = bm at HMV hwr7 ⊢
              go_loopg [9] es.length (fun kx i wi => ∃ (q : Nat) (ks : List Lit) (f : Lit → Value), q ≤ es.length ∧ i = .int .i64 q ∧ es.length - q ≤ kx ∧ ks.length ≤ q ∧ Hid (MV Tryd.prog 3 (.bool false) wi bm ks f) ∧ Hid (∀ x ∈ ks, ∃ (j : Nat) (hj : j < q) (hj2 : j < es.length), x = litI es[j].id) ∧ Hid (Below w7.heap.size w7 wi))
              case atStart => exact ⟨0, [], _, by omega, rfl, by omega, Nat.le_refl _, HMV, Lib.hid (fun x hx => by cases hx), HBA⟩
              case round =>
                obtain ⟨q, ks, f, hq, rfl, hkq, hksl, HMQ, HKS, HBQ⟩ := hrel
                have hcq := HCq.out wr HBQ.out
                by_cases hql : q < es.length
                · have hqlz : (q : Int) < (es.length : Int) := by omega
                  obtain ⟨gb, ob, rfl, hgb, pc7⟩ := (HRq.out _ (Below.refl _ _)).seven q hql
                  obtain ⟨p0, p1, p2, p3, p4, p5, p6⟩ := pc7 wr HBQ.out
                  obtain ⟨x0, hx0⟩ : ∃ x0, x0 = es[q] := ⟨_, rfl⟩
                  rw [← hx0] at p0 p1 p2 p3 p4 p5 p6
                  have hok := HOK.out.1 _ (List.getElem_mem hql)
                  rw [← hx0] at hok
                  obtain ⟨ok1, ok2, ok3⟩ := hok
                  have hnk : litI x0.id ∉ ks := by
                    intro hx
                    obtain ⟨j, hj, hj2, e⟩ := HKS.out _ hx
                    injection e with _ e
                    exact (List.pairwise_iff_getElem.1 HOK.out.2 j q hj2 hql hj) (by rw [← hx0]; exact e.symm)
                  have HF := Lib.hid (HMQ.out.zero _ hnk)
                  have HKY := Lib.hid (key_int x0.id (by omega))
                  have HX0 := Lib.hid hx0
                  have HRT : Hid (∀ W, Calls Tryd.prog 11 #[.agg #[.int .i64 x0.id, .string x0.item, .int .i64 x0.kind, .int .i64 x0.qty, .int .i64 x0.price, .int .i64 x0.ofn, .int .i64 x0.day]] W (Gives (.bool true) W)) := Lib.hid (fun W => by
                    have h := right_any x0.id x0.item x0.kind x0.qty x0.price x0.ofn x0.day W (by have := (right_bd ok3).1; omega)
                    rw [show Ev.rightB x0.item.data.toList x0.kind x0.qty x0.price x0.ofn x0.day = true from ok3] at h
                    exact h)
                  have hid1 : ¬ x0.id < 1 := by omega
                  clear hx0 hnk ok3 pc7 ok2
                  go_wp2_with (at_lookup; refine wpList_lookup_mv (MV.alloc HMQ.out _) rfl _ _ 41 rfl 4 (Go.Maps.int_keyed Tryd.underlying3) Tryd.underlying41 (zero_bool _) rfl _ (litI x0.id) rfl HKY.out ?_; rw [HF.out])
                  refine (HRT.out _).mono ?_
                  rintro e w9 ⟨rfl, hb9⟩
                  have hbx9 : w9.cell? ⟨wr.heap.size, 0, none⟩ = some (.int .i64 x0.id) := (hb9.cell (p := ⟨wr.heap.size, 0, none⟩) (by simp)).trans (by simp)
                  have hm9 := (MV.alloc HMQ.out _).below hb9
                  have HB9 := Lib.hid ((HBQ.out.new _).step hb9)
                  clear hb9
                  go_wp2_with (at_mapUpdate; refine wpList_update_mv hm9 rfl _ _ _ 41 rfl 4 (Go.Maps.int_keyed Tryd.underlying3) Tryd.underlying41 (by unfold maxLen; omega) rfl _ (litI x0.id) rfl _ rfl HKY.out ?_; intro w10 hm10 hg10)
                  go_roundg (es.length - (q + 1))
                  case measure => omega
                  case rel =>
                    refine ⟨q + 1, _, _, hql, by first | rfl | go_num | (congr 1; omega), Nat.le_refl _, Nat.le_trans (addK_len _ _) (by omega), Lib.hid hm10, (show Hid _ from fun y hy => ?_), Lib.hid (below_gb HB9.out hg10 hwr7 HB9.out.size)⟩
                    rcases (mem_addK _ _ _).1 hy with hy | hy
                    · obtain ⟨j, hj, hj2, e⟩ := HKS.out y hy
                      exact ⟨j, by omega, hj2, e⟩
                    · exact ⟨q, by omega, hql, by rw [hy, ← HX0.out]⟩
                · have hqlz : ¬ (q : Int) < (es.length : Int) := by omega
                  have HBY : Hid (Below w.heap.size w wr) := Lib.hid (HB6.out.step HBQ.out)
                  go_wp2
                  go_roundg (l.length - (k + 1))
                  case measure => omega
                  case rel => exact ⟨k + 1, b', hlt, by first | rfl | go_num | (congr 1; omega), Nat.le_refl _, HI2, by omega, by omega, Lib.hid (HK6.out.below HBQ.out), Lib.hid (HP6.out.below HBQ.out), HBY⟩
      · have hltz : ¬ (k : Int) < (l.length : Int) := by omega
        go_wp2_with fail
        go_ret
        exact ⟨rfl, HBR.out⟩
  · rw [Bool.not_eq_true] at hsm
    rw [hsm] at HS
    clear hsm
    go_enter Tryd.func3, Tryd.ntmps3
    go_wp2_with fail
    refine HS.out.mono ?_
    rintro x w1 ⟨rfl, hb1⟩
    go_wp2_with fail
    go_ret
    exact ⟨rfl, hb1⟩
end Go.Proofs.YtpbbbiifeihkaaaDoor
