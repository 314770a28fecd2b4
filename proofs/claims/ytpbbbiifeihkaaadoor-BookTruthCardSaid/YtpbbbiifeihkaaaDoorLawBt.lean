/- BookTruth, walked. -/
import Derived.Test.YtpbbbiifeihkaaaDoorBtW
namespace Go.Proofs.YtpbbbiifeihkaaaDoor
open Go.RowKit
open Go.Maps (Keyed)
set_option linter.unusedVariables false

theorem zero_evt (w : World) : (zeroValue 34).run Tryd.prog w = .ok evZ.agg w := by kernel_rfl
theorem next_actB (b : Bk) (x : ActV) (h : (b.act x).2 = none) (hI : BkI b) : (b.act x).1.next ≤ b.next + 1 := by
  rcases act_cases hI h (fun _ => evZ) with ⟨-, h, -⟩ | ⟨-, h, -⟩ | ⟨-, h, -⟩ <;> omega
set_option maxHeartbeats 4000000 in
set_option maxRecDepth 100000 in
theorem bookTruth_any (hi : Nat) (v : Value) (l : List ActV) (w : World) (hw : EW w) (hr : RdA hi w v l) (hh : hi ≤ w.heap.size) :
    Calls Tryd.prog 4 #[v] w (Gives (.bool true) w) := by
  have HS := Lib.hid (small_any hi v l w hr hh)
  have HR := Lib.hid hr
  obtain ⟨a, c, rfl, -⟩ := hr
  by_cases hsm : smallA l = true
  · have HW := Lib.hid hw
    have hs2 := hsm
    simp only [smallA, Bool.and_eq_true, decide_eq_true_eq, List.all_eq_true] at hs2
    obtain ⟨hlen, hit⟩ := hs2
    have HIT := Lib.hid hit
    rw [hsm] at HS
    clear hsm hit hw
    go_enter Tryd.func4, Tryd.ntmps4
    go_wp2_with fail
    refine HS.out.mono ?_
    rintro x w1 ⟨rfl, hb1⟩
    have HB1 := Lib.hid hb1
    clear hb1
    go_wp2_with fail
    refine (booked_any _ (HW.out.below HB1.out)).mono ?_
    rintro x w2 ⟨rfl, hb2⟩
    have HB2 := Lib.hid (HB1.out.step hb2)
    clear hb2
    have hmm := @run_makeMap Tryd.prog
    go_wp2_with fail
    have HK0 := Lib.hid ((bkW_new w2).below ((Below.refl _ (w2.alloc bookOb)).new (.map #[] 0)))
    have HL0 := Lib.hid (LastW.start (w2.alloc bookOb) (fun _ => evZ))
    have HB3 := Lib.hid ((HB2.out.new bookOb).new (.map #[] 0))
    simp only [World.size_alloc] at HL0
    clear hmm
    generalize ((w2.alloc bookOb).alloc (.map #[] 0)) = W3 at HK0 HL0 HB3 ⊢
    have hB : w.heap.size ≤ w2.heap.size := HB2.out.size
    generalize w2.heap.size = B at HK0 HL0 hB ⊢
    go_loopg [5] l.length (fun kx i wr => ∃ (k : Nat) (b : Bk) (g : Int → Evt), k ≤ l.length ∧ i = .int .i64 k ∧ l.length - k ≤ kx ∧ Hid (BkI b) ∧ Hid (TruI b g) ∧ b.turn ≤ k ∧ b.next ≤ k ∧ Hid (BkW wr B b) ∧ Hid (LastW wr (B + 1) b.next g k) ∧ Hid (Below w.heap.size w wr))
    case atStart => exact ⟨0, bk0, _, by omega, rfl, by omega, Lib.hid bkI0, Lib.hid (truI0 _), by decide, by decide, HK0, HL0, HB3⟩
    case round =>
      obtain ⟨k, b, gm, hk, rfl, hkx, HI, HTR, ht, hn, HK, HL, HBR⟩ := hrel
      by_cases hlt : k < l.length
      · have hltz : (k : Int) < (l.length : Int) := by omega
        obtain ⟨a', c', ea, hcell⟩ := HR.out
        injection ea with ea1 ea2 ea3
        subst ea1 ea3
        obtain ⟨g, off, rfl, hgl, hc⟩ := hcell k hlt
        clear hcell
        have hcw := fun j u hu => (HBR.out.cell (p := ⟨g, off + k * 9 + j, none⟩) (by show g < w.heap.size; omega)).trans (hc j u hu)
        have c0 := hcw 0 _ rfl
        have c1 := hcw 1 _ rfl
        have c2 := hcw 2 _ rfl
        have c3 := hcw 3 _ rfl
        have c4 := hcw 4 _ rfl
        have c5 := hcw 5 _ rfl
        have c6 := hcw 6 _ rfl
        have c7 := hcw 7 _ rfl
        have c8 := hcw 8 _ rfl
        rw [Nat.add_zero] at c0
        have hgw : g < wr.heap.size := cell_lt c0
        have hits := HIT.out l[k] (List.getElem_mem hlt)
        clear hcw hc
        obtain ⟨x, hx⟩ : ∃ x, x = l[k] := ⟨_, rfl⟩
        rw [← hx] at c0 c1 c2 c3 c4 c5 c6 c7 c8 hits
        clear hx
        have hBl := HK.out.lt
        have HACT := Lib.hid (fun W (hb : Below wr.heap.size wr W) => act_any B b x W (HK.out.below hb) HI.out (by omega) (by omega) (by omega))
        have HI2 := Lib.hid (HI.out.act x)
        have HI3 := Lib.hid HI.out
        have HTR2 := Lib.hid (HTR.out.act HI.out x)
        have HCS := Lib.hid (fun h => act_cases HI.out (x := x) h gm)
        have HLN := Lib.hid (fun z h => last_none (b := b) (x := x) (z := z) h gm)
        have hb2t : (b.act x).1.turn ≤ k + 1 := by
          rcases act_turn b x with ⟨-, h⟩ | ⟨-, h⟩
          · omega
          · rw [h]; omega
        obtain ⟨g2, hg2⟩ : ∃ g2, g2 = lastE b gm x := ⟨_, rfl⟩
        obtain ⟨b', hb'⟩ : ∃ b', b' = (b.act x).1 := ⟨_, rfl⟩
        obtain ⟨o, ho⟩ : ∃ o, o = (b.act x).2 := ⟨_, rfl⟩
        rw [← hb'] at HACT HI2 HTR2 HCS HLN hb2t
        rw [← ho] at HACT HCS HLN
        rw [← hg2] at HTR2 HCS HLN
        clear hb' ho hg2
        obtain ⟨wh, xid, ⟨ei, es, ek, eq, ep, eo, ed⟩⟩ := x
        simp only [ActV.agg] at HACT c0 c1 c2 c3 c4 c5 c6 c7 c8 HCS hits
        go_wp2_with fail
        refine (HACT.out _ ((Below.refl _ wr).new _)).mono ?_
        rintro e w4 ⟨rfl, hk4, hc4⟩
        have HB4 : Hid (Below w.heap.size w w4) := Lib.hid (chBelow hc4 (HBR.out.new _) hB)
        have HL4 := Lib.hid ((HL.out.below ((Below.refl _ wr).new _)).ch hc4 (by omega))
        have HK4 := Lib.hid hk4
        have hX := hc4.block wr.heap.size _ (World.alloc_heap_new wr _) (by omega) (fun cur fz e => by injection e with _ e; exact absurd e (by decide))
        have x0 : w4.cell? ⟨wr.heap.size, 0, none⟩ = some (.int .i64 wh) := by simp [World.cell?, hX]
        have x1 : w4.cell? ⟨wr.heap.size, 1, none⟩ = some (.int .i64 xid) := by simp [World.cell?, hX]
        have x2 : w4.cell? ⟨wr.heap.size, 2, none⟩ = some (.int .i64 ei) := by simp [World.cell?, hX]
        have x3 : w4.cell? ⟨wr.heap.size, 3, none⟩ = some (.string es) := by simp [World.cell?, hX]
        have x4 : w4.cell? ⟨wr.heap.size, 4, none⟩ = some (.int .i64 ek) := by simp [World.cell?, hX]
        have x5 : w4.cell? ⟨wr.heap.size, 5, none⟩ = some (.int .i64 eq) := by simp [World.cell?, hX]
        have x6 : w4.cell? ⟨wr.heap.size, 6, none⟩ = some (.int .i64 ep) := by simp [World.cell?, hX]
        have x7 : w4.cell? ⟨wr.heap.size, 7, none⟩ = some (.int .i64 eo) := by simp [World.cell?, hX]
        have x8 : w4.cell? ⟨wr.heap.size, 8, none⟩ = some (.int .i64 ed) := by simp [World.cell?, hX]
        have hXl : wr.heap.size < w4.heap.size := cell_lt x0
        have hgx : g ≠ wr.heap.size := by omega
        generalize wr.heap.size = X at x0 x1 x2 x3 x4 x5 x6 x7 x8 hXl ⊢
        clear hX hc4 hk4 HK HL HBR HACT hgw hBl c0 c1 c2 c3 c4 c5 c6 c7 c8 hgx HTR HI
        cases o with
        | some z =>
          obtain ⟨rfl, rfl⟩ := HLN.out z rfl
          simp only [errB]
          go_wp2_with fail
          go_roundg (l.length - (k + 1))
          case measure => omega
          case rel => exact ⟨k + 1, b', g2, hlt, by first | rfl | go_num | (congr 1; omega), Nat.le_refl _, HI2, HTR2, by omega, by omega, HK4, Lib.hid (HL4.out.up (by omega)), HB4⟩
        | none =>
          simp only [errB]
          clear HLN
          rcases HCS.out rfl with ⟨rfl, hn2, hg2⟩ | ⟨rfl, hn2, hi1, hi2, hg2⟩ | ⟨rfl, hn2, hi1, hi2, hg2⟩
          · go_wp2_with fail
            have HB5 := Lib.hid (HB4.out.new (.cells #[.int .i64 ei, .string es, .int .i64 ek, .int .i64 eq, .int .i64 ep, .int .i64 eo, .int .i64 ed] 34))
            have HK5 := Lib.hid (HK4.out.below ((Below.refl _ w4).new (.cells #[.int .i64 ei, .string es, .int .i64 ek, .int .i64 eq, .int .i64 ep, .int .i64 eo, .int .i64 ed] 34)))
            have HL5 := Lib.hid (HL4.out.below ((Below.refl _ w4).new (.cells #[.int .i64 ei, .string es, .int .i64 ek, .int .i64 eq, .int .i64 ep, .int .i64 eo, .int .i64 ed] 34)))
            have HX7 := Lib.hid (World.alloc_heap_new w4 (.cells #[.int .i64 ei, .string es, .int .i64 ek, .int .i64 eq, .int .i64 ep, .int .i64 eo, .int .i64 ed] 34))
            have hX7l : w4.heap.size < (w4.alloc (.cells #[.int .i64 ei, .string es, .int .i64 ek, .int .i64 eq, .int .i64 ep, .int .i64 eo, .int .i64 ed] 34)).heap.size := by simp
            have hBX : B + 1 < w4.heap.size := by
              obtain ⟨ks, f, hmv, -⟩ := HL4.out
              exact hmv.lt
            have hwX : w.heap.size ≤ w4.heap.size := HB4.out.size
            clear HK4 HL4 HB4 x0 x1 x2 x3 x4 x5 x6 x7 x8 hXl
            generalize (w4.alloc (.cells #[.int .i64 ei, .string es, .int .i64 ek, .int .i64 eq, .int .i64 ep, .int .i64 eo, .int .i64 ed] 34)) = w5 at HB5 HK5 HL5 HX7 hX7l ⊢
            generalize w4.heap.size = X7 at HX7 hX7l hBX hwX ⊢
            obtain ⟨ks, f, hmv, hks, hfg, hkl⟩ := HL5.out
            have HKS := Lib.hid hks
            have HFG := Lib.hid hfg
            have HMV := Lib.hid hmv
            clear hks hfg HL5 hmv
            have hbn0 := HI3.out.next0
            go_loopg [8] ((b.next + 1).toNat) (fun kx i wi => ∃ q : Nat, 1 ≤ q ∧ (q : Int) ≤ b.next + 1 ∧ i = .int .i64 q ∧ (b.next + 1 - q).toNat ≤ kx ∧ Hid (Below w5.heap.size w5 wi))
            case atStart => exact ⟨1, by omega, by omega, rfl, by omega, Lib.hid (Below.refl _ _)⟩
            case round =>
              obtain ⟨q, hq1, hq, rfl, hkq, HBQ⟩ := hrel
              have hmq := HMV.out.below HBQ.out
              have HKY := Lib.hid (key_int (q : Int) (by omega))
              by_cases hqn : (q : Int) ≤ b.next
              · have hin : decide (litI (q : Int) ∈ ks) = true := decide_eq_true ((HKS.out _).2 ⟨q, by omega, hqn, rfl⟩)
                have hfq := HFG.out (q : Int) (by omega) hqn
                generalize gm (q : Int) = y at hfq
                obtain ⟨yi, ys, yk, yq, yp, yo, yd⟩ := y
                simp only [Evt.agg] at hfq
                go_wp2_with (at_lookup; refine wpList_lookok_mv hmq rfl _ _ 43 rfl 34 (Go.Maps.int_keyed Tryd.underlying3) Tryd.underlying43 (zero_evt _) rfl _ (litI (q : Int)) rfl HKY.out ?_; rw [hfq, hin])
                go_roundg ((b.next + 1 - (q + 1 : Nat)).toNat)
                case measure => omega
                case rel => exact ⟨q + 1, by omega, by omega, by first | rfl | go_num | (congr 1; omega), Nat.le_refl _, Lib.hid (HBQ.out.new _)⟩
              · have hqe : (q : Int) = b.next + 1 := by omega
                have hnk : litI (q : Int) ∉ ks := fun h => by
                  obtain ⟨j, h1, h2, e⟩ := (HKS.out _).1 h
                  injection e with _ e
                  omega
                have hin : decide (litI (q : Int) ∈ ks) = false := decide_eq_false hnk
                have hfq := HMV.out.zero _ hnk
                simp only [Evt.agg, evZ] at hfq
                have HQE := Lib.hid hqe
                clear hqe
                have hX := (HBQ.out.block X7 hX7l).trans HX7.out
                have y0 : wr.cell? ⟨X7, 0, none⟩ = some (.int .i64 ei) := by simp [World.cell?, hX]
                have y1 : wr.cell? ⟨X7, 1, none⟩ = some (.string es) := by simp [World.cell?, hX]
                have y2 : wr.cell? ⟨X7, 2, none⟩ = some (.int .i64 ek) := by simp [World.cell?, hX]
                have y3 : wr.cell? ⟨X7, 3, none⟩ = some (.int .i64 eq) := by simp [World.cell?, hX]
                have y4 : wr.cell? ⟨X7, 4, none⟩ = some (.int .i64 ep) := by simp [World.cell?, hX]
                have y5 : wr.cell? ⟨X7, 5, none⟩ = some (.int .i64 eo) := by simp [World.cell?, hX]
                have y6 : wr.cell? ⟨X7, 6, none⟩ = some (.int .i64 ed) := by simp [World.cell?, hX]
                have yf : wr.frozen? ⟨X7, 0, none⟩ = false := by simp [World.frozen?, hX]
                have yl : X7 < wr.heap.size := cell_lt y0
                have HXW := Lib.hid hX
                clear hX
                go_wp2_with (first
                  | (at_lookup; refine wpList_lookok_mv hmq rfl _ _ 43 rfl 34 (Go.Maps.int_keyed Tryd.underlying3) Tryd.underlying43 (zero_evt _) rfl _ (litI (q : Int)) rfl HKY.out ?_; rw [hfq, hin])
                  | (at_mapUpdate; refine wpList_update_mv (MV.alloc (MV.setCell hmq (by show B + 1 ≠ X7; omega) _) _) rfl _ _ _ 43 rfl 34 (Go.Maps.int_keyed Tryd.underlying3) Tryd.underlying43 (by unfold maxLen; omega) rfl _ (litI (q : Int)) rfl _ rfl HKY.out ?_; intro w10 hm10 hg10))
                go_roundg (l.length - (k + 1))
                case measure => omega
                case rel =>
                  have hbW := ((HB5.out.step HBQ.out).setCell (p := ⟨X7, 0, none⟩) hwX (.int .i64 (q : Int))).new (.cells #[.int .i64 0, .string ⟨#[]⟩, .int .i64 0, .int .i64 0, .int .i64 0, .int .i64 0, .int .i64 0] 34)
                  have hkW := (BkW.setOther (j := 0) (.int .i64 (q : Int)) (HK5.out.below HBQ.out) (by omega) ⟨_, _, _, HXW.out, by decide⟩).below ((Below.refl _ _).new (.cells #[.int .i64 0, .string ⟨#[]⟩, .int .i64 0, .int .i64 0, .int .i64 0, .int .i64 0, .int .i64 0] 34))
                  refine ⟨k + 1, b', g2, hlt, by first | rfl | go_num | (congr 1; omega), Nat.le_refl _, HI2, HTR2, by omega, by omega, Lib.hid (bkW_map hkW (MV.isMap (MV.alloc (MV.setCell hmq (by show B + 1 ≠ X7; omega) _) _)) hg10), Lib.hid ?_, Lib.hid (below_gb hbW hg10 (by omega) hbW.size)⟩
                  rw [hg2, ← HQE.out]
                  exact last_set (n := b.next) hm10 rfl HKS.out HFG.out hkl (by omega) (.inl ⟨HQE.out, hn2⟩)
          · obtain ⟨ks, f, hmv, hks, hfg, hkl⟩ := HL4.out
            have HKS := Lib.hid hks
            have HFG := Lib.hid hfg
            have HKY := Lib.hid (key_int xid (by omega))
            clear hks hfg HL4
            have HB5 := Lib.hid (fun o => HB4.out.new o)
            have HK5 := Lib.hid (fun o => HK4.out.below ((Below.refl _ w4).new o))
            go_wp2_with (at_mapUpdate; refine wpList_update_mv (MV.alloc hmv _) rfl _ _ _ 43 rfl 34 (Go.Maps.int_keyed Tryd.underlying3) Tryd.underlying43 (by unfold maxLen; omega) rfl _ (litI xid) rfl _ rfl HKY.out ?_; intro w10 hm10 hg10)
            go_roundg (l.length - (k + 1))
            case measure => omega
            case rel =>
              refine ⟨k + 1, b', g2, hlt, by first | rfl | go_num | (congr 1; omega), Nat.le_refl _, HI2, HTR2, by omega, by omega, Lib.hid (bkW_map (HK5.out _) (MV.isMap (MV.alloc hmv _)) hg10), Lib.hid ?_, Lib.hid (below_gb (HB5.out _) hg10 (by omega) (HB5.out _).size)⟩
              rw [hg2]
              exact last_set (n := b.next) hm10 rfl HKS.out HFG.out hkl hi1 (.inr ⟨hi2, hn2⟩)
          · obtain ⟨ks, f, hmv, hks, hfg, hkl⟩ := HL4.out
            have HKS := Lib.hid hks
            have HFG := Lib.hid hfg
            have HKY := Lib.hid (key_int xid (by omega))
            clear hks hfg HL4
            have HB5 := Lib.hid (fun o => HB4.out.new o)
            have HK5 := Lib.hid (fun o => HK4.out.below ((Below.refl _ w4).new o))
            go_wp2_with (at_mapUpdate; refine wpList_update_mv (MV.alloc hmv _) rfl _ _ _ 43 rfl 34 (Go.Maps.int_keyed Tryd.underlying3) Tryd.underlying43 (by unfold maxLen; omega) rfl _ (litI xid) rfl _ rfl HKY.out ?_; intro w10 hm10 hg10)
            go_roundg (l.length - (k + 1))
            case measure => omega
            case rel =>
              refine ⟨k + 1, b', g2, hlt, by first | rfl | go_num | (congr 1; omega), Nat.le_refl _, HI2, HTR2, by omega, by omega, Lib.hid (bkW_map (HK5.out _) (MV.isMap (MV.alloc hmv _)) hg10), Lib.hid ?_, Lib.hid (below_gb (HB5.out _) hg10 (by omega) (HB5.out _).size)⟩
              rw [hg2]
              exact last_set (n := b.next) hm10 rfl HKS.out HFG.out hkl hi1 (.inr ⟨hi2, hn2⟩)
      · have hltz : ¬ (k : Int) < (l.length : Int) := by omega
        obtain ⟨wB, hwB⟩ : ∃ wB, wB = wr := ⟨_, rfl⟩
        subst hwB
        obtain ⟨ks, f, hmv, hks, hfg, hkl⟩ := HL.out
        have HND := Lib.hid hmv.nd
        have hBl := hmv.lt
        have HKS := Lib.hid hks
        have HFG := Lib.hid hfg
        obtain ⟨w20, hrng, hr1, hb20, hz20⟩ := MV.range hmv (Go.Maps.int_keyed Tryd.underlying3) Tryd.underlying43
        have HR1 := Lib.hid hr1
        have HB20 := Lib.hid hb20
        have hLn : ks.length ≤ 41 := by omega
        obtain ⟨i0, hinf, hiz, his, hib⟩ := info_parts info_evt
        clear hks hfg hmv hr1 hz20 HL hb20 hkl
        go_wp2_with fail
        go_loopw [11] (fun v11 wr2 => ∃ (done : List Int) (rest : List Lit) (out : List Evt), Hid (out = (done.map gm).filter fun e => decide (0 < e.id)) ∧ Hid ((done.map litI ++ rest).Perm ks) ∧ Hid (MR Tryd.prog 3 evZ.agg wr2 (B + 1) wB.heap.size ks f rest) ∧ out.length ≤ done.length ∧ wr2.ownsRow (wB.heap.size + 1) 34 7 v11 out.length (flE out) ∧ Hid (Below wB.heap.size wB wr2)) (fun _ wr2 => wr2.rangeLeft (B + 1) wB.heap.size)
        case atStart => exact ⟨[], ks, [], rfl, Lib.hid (List.Perm.refl _), HR1, Nat.le_refl _, World.ownsRow_nil _ _ _ _, HB20⟩
        case round =>
          obtain ⟨done, rest, out, HOUT, HPM, HMR, hod, ho, HBW⟩ := hrel
          have hdl : done.length + rest.length = ks.length := by have := HPM.out.length_eq; simpa using this
          have hbw := HBW.out.size
          have hr := HMR.out
          rcases hr.next (Go.Maps.int_keyed Tryd.underlying3) 0 with ⟨hr0, hnx⟩ | ⟨key, kl, w21, hkey, hkl, hnx, hr3, hg3, hz3, hlt3, hen⟩
          · subst hr0
            have HPM2 := Lib.hid (keys_perm HND.out HKS.out (by have := HPM.out; rw [List.append_nil] at this; exact this))
            obtain ⟨hT1, hT2⟩ := truth_last HI.out HTR.out done HPM2.out
            rw [← HOUT.out] at hT1 hT2
            have HT1 := Lib.hid hT1
            have HO := Lib.hid ho
            have hsz := hr.lt
            have HSF := Lib.hid (sortE_any (wB.heap.size + 1) u11 out wr (by omega) hT2 ho (by omega))
            clear hT1 hT2 hr ho HMR
            go_wp2_with fail
            refine HSF.out.mono ?_
            rintro e w22 ⟨rfl, hb22, ho22⟩
            have hb22b : Below wB.heap.size wB w22 := HBW.out.trans (hb22.mono (by omega))
            have HAS := Lib.hid (as_any B b (-1) w22 (HK.out.below hb22b) HI.out)
            clear hb22
            go_wp2_with fail
            refine HAS.out.mono ?_
            rintro e w23 ⟨v23, rfl, ho23, hb23⟩
            have hr23 := rdE_of_own ho23 rfl
            obtain ⟨xa, xc, rfl⟩ := own_slice ho23
            have hou := own_below ho22 hb23
            have hru := rdE_of_own hou (by rw [(isort_perm _).length_eq])
            obtain ⟨ya, yc, e⟩ := own_slice ho22
            subst e
            rw [HT1.out] at hru
            have hll : out.length = (b.as (-1)).length := by rw [← HT1.out, (isort_perm _).length_eq]
            rw [hll] at hru ⊢
            go_wp2_with fail
            refine (equalE_same w23.heap.size w23.heap.size _ _ _ _ _ w23 (by have := as_le HI.out (-1); omega) (Nat.le_refl _) (Nat.le_refl _) hr23 hru).mono ?_
            rintro e w24 ⟨rfl, hb24⟩
            go_wp2_with fail
            go_ret
            exact ⟨rfl, HBR.out.step ((hb22b.step hb23).step hb24)⟩
          · obtain ⟨kz, hk1, hk2, rfl⟩ := (HKS.out _).1 (hr.sub _ hkl)
            have hfk := HFG.out kz hk1 hk2
            have hb21 : Below wB.heap.size wB w21 := HBW.out.grown hg3 hbw (fun j e => by cases e; exact Nat.le_refl _)
            have ho21 := own_gb ho hg3 (by omega)
            have HPM3 : Hid (((done ++ [kz]).map litI ++ rest.erase (litI kz)).Perm ks) := Lib.hid (by
              rw [List.map_append, List.append_assoc]
              exact ((List.perm_cons_erase hkl).symm.append_left _).trans HPM.out)
            obtain ⟨y, hy⟩ : ∃ y, y = gm kz := ⟨_, rfl⟩
            rw [← hy] at hfk
            have HO3 : Hid (out ++ (if 0 < y.id then [y] else []) = ((done ++ [kz]).map gm).filter fun e => decide (0 < e.id)) := Lib.hid (by
              rw [List.map_append, List.filter_append, ← HOUT.out, List.map_cons, List.map_nil, ← hy, List.filter_cons, List.filter_nil]
              by_cases h0 : 0 < y.id
              · rw [if_pos h0, if_pos (by simpa using h0)]
              · rw [if_neg h0, if_neg (by simpa using h0)])
            obtain ⟨yi, ys, yk, yq, yp, yo, yd⟩ := y
            simp only [Evt.agg] at hfk
            rw [hfk] at hnx hen
            have HR3 := Lib.hid hr3
            have HLT := Lib.hid hlt3
            have HB21 := Lib.hid hb21
            have hrl := hr3.lt
            simp only at HO3
            clear hy hfk hr3 hlt3 hb21 hr hg3 ho HMR HPM HOUT hkey hkl hz3 HBW
            by_cases h0 : 0 < yi
            · have h0z : yi > 0 := h0
              rw [if_pos h0] at HO3
              obtain ⟨m, hm⟩ : ∃ m, m = out.length := ⟨_, rfl⟩
              have HM := Lib.hid hm
              rw [← hm] at ho21 hod
              clear hm
              go_wp2_with (at_builtin; refine wpList_append_own _ rfl (.tmp 79) (.tmp 81) 37 rfl (wB.heap.size + 1) 34 i0 (.agg #[.int .i64 0, .string ⟨#[]⟩, .int .i64 0, .int .i64 0, .int .i64 0, .int .i64 0, .int .i64 0]) 7 64 Tryd.underlying37 hinf hiz his hib rfl (by decide) _ m (flE out) rfl ((ho21.alloc _).alloc _) ⟨w21.heap.size + 1, 0, none⟩ 1 1 (Evt.cells ⟨yi, ys, yk, yq, yp, yo, yd⟩) rfl rfl ?cells (one_evt _) (by unfold maxLen; omega) (by omega) (by simp; omega) ?app)
              case cells =>
                have hh : (((w21.alloc (.cells #[.int .i64 yi, .string ys, .int .i64 yk, .int .i64 yq, .int .i64 yp, .int .i64 yo, .int .i64 yd] 34)).alloc (.cells #[.int .i64 yi, .string ys, .int .i64 yk, .int .i64 yq, .int .i64 yp, .int .i64 yo, .int .i64 yd] 34)).heap[w21.heap.size + 1]? = some (.cells (Evt.cells ⟨yi, ys, yk, yq, yp, yo, yd⟩).toArray 34 (0, 0))) := by
                  have h1 := World.alloc_heap_new (w21.alloc (.cells #[.int .i64 yi, .string ys, .int .i64 yk, .int .i64 yq, .int .i64 yp, .int .i64 yo, .int .i64 yd] 34)) (.cells #[.int .i64 yi, .string ys, .int .i64 yk, .int .i64 yq, .int .i64 yp, .int .i64 yo, .int .i64 yd] 34)
                  rw [World.size_alloc] at h1
                  exact h1
                exact cells_at hh
              case app =>
                intro v6 w6 ho6 hg6 _
                have ho21b := (ho21.alloc (.cells #[.int .i64 yi, .string ys, .int .i64 yk, .int .i64 yq, .int .i64 yp, .int .i64 yo, .int .i64 yd] 34)).alloc (.cells #[.int .i64 yi, .string ys, .int .i64 yk, .int .i64 yq, .int .i64 yp, .int .i64 yo, .int .i64 yd] 34)
                have hbb := ((Below.refl w21.heap.size w21).new (.cells #[.int .i64 yi, .string ys, .int .i64 yk, .int .i64 yq, .int .i64 yp, .int .i64 yo, .int .i64 yd] 34)).new (.cells #[.int .i64 yi, .string ys, .int .i64 yk, .int .i64 yq, .int .i64 yp, .int .i64 yo, .int .i64 yd] 34)
                have e1 := own_ne ho21b (k := B + 1) (by omega)
                have e2 := own_ne ho21b (k := wB.heap.size) (by omega)
                have HMR6 := Lib.hid ((HR3.out.below hbb).kept hg6 e1 e2)
                have hsz6 := hbb.size
                have HLF := Lib.hid (left_blk ((hg6.block (B + 1) (by omega) e1).trans (hbb.block (B + 1) (by omega))) ((hg6.block wB.heap.size (by omega) e2).trans (hbb.block wB.heap.size (by omega))))
                have HB6 := Lib.hid (below_own (HB21.out.step hbb) ho21b hg6 (by omega) (by omega))
                have HO6 := Lib.hid ho6
                obtain ⟨xa6, xc6, rfl⟩ := own_slice ho6
                clear ho6 hg6 ho21b hbb e1 e2 ho21
                go_wp2_with fail
                go_roundw
                case rel =>
                  refine ⟨done ++ [kz], _, _, HO3, HPM3, HMR6, ?_, ?_, HB6⟩
                  · rw [List.length_append, List.length_append, ← HM.out]; simp; omega
                  · rw [flE_snoc, List.length_append, ← HM.out]; exact HO6.out
                case measure => rw [HLF.out]; exact HLT.out
            · have h0z : ¬ yi > 0 := h0
              rw [if_neg h0, List.append_nil] at HO3
              have hbb := (Below.refl w21.heap.size w21).new (.cells #[.int .i64 yi, .string ys, .int .i64 yk, .int .i64 yq, .int .i64 yp, .int .i64 yo, .int .i64 yd] 34)
              have HMR6 := Lib.hid (HR3.out.below hbb)
              have HLF := Lib.hid (left_blk (hbb.block (B + 1) (by omega)) (hbb.block wB.heap.size (by omega)))
              have HB6 := Lib.hid (HB21.out.step hbb)
              have HO6 := Lib.hid (own_below ho21 hbb)
              clear hbb ho21
              go_wp2_with fail
              go_roundw
              case rel =>
                refine ⟨done ++ [kz], _, _, HO3, HPM3, HMR6, ?_, HO6.out, HB6⟩
                rw [List.length_append]; omega
              case measure => rw [HLF.out]; exact HLT.out
  · rw [Bool.not_eq_true] at hsm
    rw [hsm] at HS
    clear hsm
    go_enter Tryd.func4, Tryd.ntmps4
    go_wp2_with fail
    refine HS.out.mono ?_
    rintro x w1 ⟨rfl, hb1⟩
    go_wp2_with fail
    go_ret
    exact ⟨rfl, hb1⟩
end Go.Proofs.YtpbbbiifeihkaaaDoor
