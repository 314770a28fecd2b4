/- PeriodWhole: the law's own walk. -/
import Derived.Test.YtackpcohmmlkeaaGreatDoorPdS
import Derived.Test.YtackpcohmmlkeaaGreatDoorPwE
import Derived.Test.YtackpcohmmlkeaaGreatDoorBkL
import Derived.Test.YtackpcohmmlkeaaGreatDoorBkQ
import Derived.Test.YtackpcohmmlkeaaGreatDoorOpenAs
import Derived.Deep.RegionHeld
namespace Go.Proofs.YtackpcohmmlkeaaGreatDoor
open Go.RowKit
set_option linter.unusedVariables false
set_option linter.unusedSimpArgs false

theorem next_actP (b : Bk) (x : ActV) : (b.act x).1.next ≤ b.next + 1 := by
  have hp : (b.post x.e).1.next ≤ b.next + 1 := by
    unfold Bk.post
    split
    · split
      · (show b.next ≤ b.next + 1; omega)
      · exact Int.le_refl _
    · (show b.next ≤ b.next + 1; omega)
  have hc : (b.correct x.id x.e).1.next ≤ b.next + 1 := by
    unfold Bk.correct
    split
    · (show b.next ≤ b.next + 1; omega)
    · split
      · split
        · (show b.next ≤ b.next + 1; omega)
        · simp only; omega
      · (show b.next ≤ b.next + 1; omega)
  have hv : (b.void x.id).1.next ≤ b.next + 1 := by
    unfold Bk.void
    split
    · (show b.next ≤ b.next + 1; omega)
    · simp only; omega
  unfold Bk.act
  split
  · exact hp
  · split
    · exact hc
    · split
      · exact hv
      · simp only; omega
theorem Cp.own {B O base e size n : Nat} {w w' : World} {v : Value} {xs : List Value} (h : w.ownsRow base e size v n xs) (hc : Cp B O w w') (hB : B < base) : w'.ownsRow base e size v n xs := by
  refine ⟨h.1, ?_⟩
  rcases h.2 with h0 | ⟨g, cap, cur, e1, h2, h3, h4⟩
  · exact .inl h0
  · exact .inr ⟨g, cap, cur, e1, h2, (hc.block g (Array.getElem?_eq_some_iff.1 h3).1 (by omega)).trans h3, h4⟩
theorem own_someP {w : World} {base e size n c : Nat} {a : Option Addr} {xs : List Value} (h : w.ownsRow base e size (.slice a n c) n xs) (hn : n ≠ 0) : a ≠ none := by
  rintro rfl
  rcases h.2 with ⟨-, h0⟩ | ⟨g, cap, cur, e1, -⟩
  · exact hn h0
  · cases e1
set_option maxHeartbeats 8000000 in
set_option maxRecDepth 100000 in
theorem periodWhole_any (hi : Nat) (v : Value) (l : List ActV) (ca : Option Addr) (cc : Nat) (cs : List Int) (w : World) (hw : EW w) (hd : DW w) (hr : RdA hi w v l) (hh : hi ≤ w.heap.size) (hrc : Rd w ca (cs.map (Value.int .i64))) (hcl : cs.length ≤ maxLen) :
    Calls Tryz.prog 4 #[v, .slice ca cs.length cc] w (Gives (.bool true) w) := by
  have HS := Lib.hid (small_any hi v l w hr hh)
  have HR := Lib.hid hr
  have HRC := Lib.hid hrc
  have HEW := Lib.hid hw
  have HDW := Lib.hid hd
  obtain ⟨a, c, rfl, -⟩ := hr
  clear hrc hw hd
  by_cases hsm : smallA l = true
  case neg =>
    rw [Bool.not_eq_true] at hsm
    rw [hsm] at HS
    go_enter Tryz.func4, Tryz.ntmps4
    go_wp2_with fail
    refine HS.out.mono ?_
    rintro e w1 ⟨rfl, hb1⟩
    go_wp2_with fail
    go_ret
    exact ⟨rfl, hb1⟩
  rw [hsm] at HS
  by_cases hc40 : 40 < cs.length
  case pos =>
    have hcz : (40 : Int) < (cs.length : Int) := by omega
    go_enter Tryz.func4, Tryz.ntmps4
    go_wp2_with fail
    refine HS.out.mono ?_
    rintro e w1 ⟨rfl, hb1⟩
    go_wp2_with fail
    go_ret
    exact ⟨rfl, hb1⟩
  have hcz : ¬ (40 : Int) < (cs.length : Int) := by omega
  have hs2 := hsm
  simp only [smallA, Bool.and_eq_true, decide_eq_true_eq, List.all_eq_true] at hs2
  obtain ⟨hlen, hit⟩ := hs2
  have HIT := Lib.hid hit
  clear hsm hit
  go_enter Tryz.func4, Tryz.ntmps4
  go_wp2_with fail
  refine HS.out.mono ?_
  rintro x w1 ⟨rfl, hb1⟩
  have HB1 := Lib.hid hb1
  clear hb1
  go_wp2_with fail
  refine (shut_any _ (HEW.out.below HB1.out) (HDW.out.below HB1.out)).mono ?_
  rintro x w2 ⟨rfl, hb2⟩
  have HB2 := Lib.hid (HB1.out.step hb2)
  clear hb2
  go_wp2_with fail
  have HK0 := Lib.hid ((bkW_new w2).below ((Below.refl _ (w2.alloc bookOb)).new pdOb))
  have HP0 := Lib.hid (pdW_new (w2.alloc bookOb))
  have HB3 := Lib.hid ((HB2.out.new bookOb).new pdOb)
  simp only [World.size_alloc] at HP0
  generalize ((w2.alloc bookOb).alloc pdOb) = W3 at HK0 HP0 HB3 ⊢
  have hB : w.heap.size ≤ w2.heap.size := HB2.out.size
  generalize w2.heap.size = B at HK0 HP0 hB ⊢
  clear HB2 HB1 HS
  obtain ⟨n, hnmx⟩ : ∃ n, n = max l.length cs.length := ⟨_, rfl⟩
  have hmx : max (l.length : Int) (cs.length : Int) = (n : Int) := by omega
  have hn40 : n ≤ 40 := by omega
  go_loopg [7, 8] n (fun kx v7 i wr => ∃ (k : Nat) (b : Bk) (p : Pd), k ≤ n ∧ i = .int .i64 k ∧ n - k ≤ kx ∧ Hid (BkI b) ∧ b.turn ≤ k ∧ b.next ≤ k ∧ Hid (BkW wr B b) ∧ Hid (PW wr (B + 1) 0 p) ∧ Hid (PdI b p) ∧ Hid (wr.ownsRow (B + 2) 57 7 v7 p.l.length (flC p.l)) ∧ Hid (Below w.heap.size w wr))
  case atStart => exact ⟨0, bk0, pd0, by omega, rfl, by omega, Lib.hid bkI0, by decide, by decide, HK0, HP0, Lib.hid (pdI0 _), Lib.hid (World.ownsRow_nil _ _ _ _), HB3⟩
  case round =>
    obtain ⟨k, b, p, hk, rfl, hkx, HI, ht, hn, HK, HP, HJ, HO, HBR⟩ := hrel
    by_cases hlt : k < n
    · have hltz : (k : Int) < (n : Int) := by omega
      by_cases hkc : k < cs.length
      · have hkcz : (k : Int) < (cs.length : Int) := by omega
        by_cases hkl : k < l.length
        case' pos =>
          have hklz : (k : Int) < (l.length : Int) := by omega
          obtain ⟨a', c', ea, hcell⟩ := HR.out
          injection ea with ea1 ea2 ea3
          subst ea1 ea3
          obtain ⟨g, off, rfl, hgl, hc⟩ := hcell k hkl
          clear hcell
          have hcw := fun j u hu => (HBR.out.cell (p := ⟨g, off + k * 9 + j, none⟩) (by show g < w.heap.size; omega)).trans (hc j u hu)
          have c0 := hcw 0 _ rfl
          have c1 := hcw 1 _ rfl
          have c2 := hcw 2 _ rfl
          have c3 := hcw 3 _ rfl
          have c4 := hcw 4 _ rfl
          have c5 := hcw 5 _ rfl
          have c6 := hcw 6 _ rfl
          have c7 := hcw 7 _ rfl
          have c8 := hcw 8 _ rfl
          rw [Nat.add_zero] at c0
          have hgw : g < wr.heap.size := cell_lt c0
          have hits := HIT.out l[k] (List.getElem_mem hkl)
          clear hcw hc
          obtain ⟨x, hx⟩ : ∃ x, x = l[k] := ⟨_, rfl⟩
          rw [← hx] at c0 c1 c2 c3 c4 c5 c6 c7 c8 hits
          clear hx
          have HACT := Lib.hid (act_any B b x wr HK.out HI.out (by omega) (by omega) (by omega))
          have HAT := Lib.hid (act_turn b x)
          have HI2 := Lib.hid (HI.out.act x)
          have HJ2 := Lib.hid (HJ.out.act x)
          have hb2n : (b.act x).1.next ≤ k + 1 := by have := next_actP b x; omega
          have hb2t : (b.act x).1.turn ≤ k + 1 := by
            rcases act_turn b x with ⟨-, h⟩ | ⟨-, h⟩
            · omega
            · rw [h]; omega
          generalize (b.act x).1 = b2 at HACT HI2 HJ2 hb2n hb2t
          generalize errB (b.act x).2 = ev at HACT
          simp only [ActV.agg] at HACT
          clear HAT
          go_wp2_with fail
          refine HACT.out.mono ?_
          rintro e w4 ⟨rfl, hk4, hc4⟩
          have HK2 := Lib.hid hk4
          have HP2 := Lib.hid (HP.out.ch hc4 (by omega))
          have HO2 := Lib.hid (Ch.own HO.out hc4 (by omega) (by decide))
          have HBR2 := Lib.hid (chBelow hc4 HBR.out hB)
          clear hk4 hc4 HACT c0 c1 c2 c3 c4 c5 c6 c7 c8 HK HP HO HBR HI HJ
          go_wp2_with fail
        case' neg =>
          have hklz : ¬ (k : Int) < (l.length : Int) := by omega
          go_wp2_with fail
          obtain ⟨b2, rfl⟩ : ∃ b2, b2 = b := ⟨_, rfl⟩
          obtain ⟨w4, rfl⟩ : ∃ w4, w4 = wr := ⟨_, rfl⟩
          have HK2 := HK
          have HP2 := HP
          have HO2 := HO
          have HBR2 := HBR
          have HI2 := HI
          have HJ2 := HJ
          have hb2n : b2.next ≤ k + 1 := by omega
          have hb2t : b2.turn ≤ k + 1 := by omega
          clear HK HP HO HBR HI HJ ht hn
        all_goals
          obtain ⟨g2, off2, hca, hc2⟩ := HRC.out k (by simpa using hkc)
          subst hca
          have hz : w.cell? ⟨g2, off2 + k, none⟩ = some (.int .i64 cs[k]) := by rw [hc2]; simp [hkc]
          have z0 := (HBR2.out.cell (p := ⟨g2, off2 + k, none⟩) (cell_lt hz)).trans hz
          have hg2 : g2 < w4.heap.size := cell_lt z0
          generalize cs[k] = m at z0
          clear hz hc2
          have HCL := Lib.hid (pclose_any (B + 1) 0 B b2 p m w4 HK2.out HP2.out HI2.out HJ2.out (HDW.out.below HBR2.out))
          have HJ5 := Lib.hid (HJ2.out.close HI2.out m)
          obtain ⟨t, ht5⟩ := close_ext p b2 m
          generalize p.close b2 m = q at HCL HJ5 ht5
          obtain ⟨p2, f, o⟩ := q
          simp only at HCL HJ5 ht5
          generalize errB o = ev at HCL
          go_simp
          go_wp2_with fail
          refine HCL.out.mono ?_
          rintro e w5 ⟨rfl, hp5, hc5⟩
          have HK5 := Lib.hid (HK2.out.cp hc5 HP2.out.nt (by omega))
          have HP5 := Lib.hid hp5
          have HO5 := Lib.hid (Cp.own HO2.out hc5 (by omega))
          have HBR5 := Lib.hid (cpBelow hc5 HBR2.out (by omega) HBR2.out.size)
          clear hp5 hc5 HCL z0 hg2 HK2 HP2 HO2 HBR2 HJ2
          go_wp2_with fail
        all_goals
          have hl2 := HJ5.out.len
          refine (closed_any (B + 1) 0 p2 w5 HP5.out (by omega)).mono ?_
          rintro e w6 ⟨v6, rfl, ho6, hb6⟩
          obtain ⟨xa6, xc6, rfl⟩ := own_slice ho6
          obtain ⟨xa7, xc7, e7⟩ := own_slice HO5.out
          subst e7
          have ho7 := own_below HO5.out hb6
          have hpl : p.l.length ≤ p2.l.length := by rw [ht5]; simp
          have hplz : ¬ ((p2.l.length : Int) < (p.l.length : Int)) := by omega
          have hxc6 : p2.l.length ≤ xc6 := own_capV ho6
          have HEQ := Lib.hid (fun W (hW : Below w6.heap.size w6 W) => equalC_same p.l t xa6 xa7 xc6 xc7 W (by omega) (by rw [← ht5]; exact (rdC_of_own ho6).below hW) (by rw [List.append_nil]; exact (rdC_of_own ho7).below hW) (fun h => own_someP ho6 (by intro h0; apply h; exact List.length_eq_zero_iff.1 (by omega))) (fun h => own_someP ho7 (by intro h0; apply h; exact List.length_eq_zero_iff.1 (by omega))))
          have HK6 := Lib.hid (HK5.out.below hb6)
          have HP6 := Lib.hid (HP5.out.below hb6)
          have HO6 := Lib.hid (own_base_cK ho6 (show B + 2 ≤ w5.heap.size by have := HP5.out.lt; omega))
          have HBR6 := Lib.hid (HBR5.out.step hb6)
          have hsl := fun W => slice_preC xa6 p2.l.length xc6 p.l.length (by omega) W
          clear ho6 ho7 hb6 HK5 HP5 HO5 HBR5 ht5
          go_wp2_with fail
          refine (HEQ.out _ (Below.refl _ _)).mono ?_
          rintro e w7 ⟨rfl, hb7⟩
          go_wp2_with fail
          go_roundg (n - (k + 1))
          case measure => omega
          case rel => exact ⟨k + 1, b2, p2, hlt, by first | rfl | go_num | (congr 1; omega), Nat.le_refl _, HI2, by omega, by omega, Lib.hid (HK6.out.below hb7), Lib.hid (HP6.out.below hb7), HJ5, Lib.hid (own_below HO6.out hb7), Lib.hid (HBR6.out.step hb7)⟩
      · have hkcz : ¬ (k : Int) < (cs.length : Int) := by omega
        by_cases hkl : k < l.length
        case' pos =>
          have hklz : (k : Int) < (l.length : Int) := by omega
          obtain ⟨a', c', ea, hcell⟩ := HR.out
          injection ea with ea1 ea2 ea3
          subst ea1 ea3
          obtain ⟨g, off, rfl, hgl, hc⟩ := hcell k hkl
          clear hcell
          have hcw := fun j u hu => (HBR.out.cell (p := ⟨g, off + k * 9 + j, none⟩) (by show g < w.heap.size; omega)).trans (hc j u hu)
          have c0 := hcw 0 _ rfl
          have c1 := hcw 1 _ rfl
          have c2 := hcw 2 _ rfl
          have c3 := hcw 3 _ rfl
          have c4 := hcw 4 _ rfl
          have c5 := hcw 5 _ rfl
          have c6 := hcw 6 _ rfl
          have c7 := hcw 7 _ rfl
          have c8 := hcw 8 _ rfl
          rw [Nat.add_zero] at c0
          have hgw : g < wr.heap.size := cell_lt c0
          have hits := HIT.out l[k] (List.getElem_mem hkl)
          clear hcw hc
          obtain ⟨x, hx⟩ : ∃ x, x = l[k] := ⟨_, rfl⟩
          rw [← hx] at c0 c1 c2 c3 c4 c5 c6 c7 c8 hits
          clear hx
          have HACT := Lib.hid (act_any B b x wr HK.out HI.out (by omega) (by omega) (by omega))
          have HAT := Lib.hid (act_turn b x)
          have HI2 := Lib.hid (HI.out.act x)
          have HJ2 := Lib.hid (HJ.out.act x)
          have hb2n : (b.act x).1.next ≤ k + 1 := by have := next_actP b x; omega
          have hb2t : (b.act x).1.turn ≤ k + 1 := by
            rcases act_turn b x with ⟨-, h⟩ | ⟨-, h⟩
            · omega
            · rw [h]; omega
          generalize (b.act x).1 = b2 at HACT HI2 HJ2 hb2n hb2t
          generalize errB (b.act x).2 = ev at HACT
          simp only [ActV.agg] at HACT
          clear HAT
          go_wp2_with fail
          refine HACT.out.mono ?_
          rintro e w4 ⟨rfl, hk4, hc4⟩
          have HK2 := Lib.hid hk4
          have HP2 := Lib.hid (HP.out.ch hc4 (by omega))
          have HO2 := Lib.hid (Ch.own HO.out hc4 (by omega) (by decide))
          have HBR2 := Lib.hid (chBelow hc4 HBR.out hB)
          clear hk4 hc4 HACT c0 c1 c2 c3 c4 c5 c6 c7 c8 HK HP HO HBR HI HJ
          go_wp2_with fail
        case neg => exfalso; omega
        all_goals
          obtain ⟨p2, hp2⟩ : ∃ p2, p2 = p := ⟨_, rfl⟩
          obtain ⟨w5, rfl⟩ : ∃ w5, w5 = w4 := ⟨_, rfl⟩
          have HK5 := HK2
          have HP5 : Hid (PW w5 (B + 1) 0 p2) := by rw [hp2]; exact HP2
          have HO5 := HO2
          have HBR5 := HBR2
          have HJ5 : Hid (PdI b2 p2) := by rw [hp2]; exact HJ2
          obtain ⟨t, ht5⟩ : ∃ t, p2.l = p.l ++ t := ⟨[], by rw [hp2]; simp⟩
          clear HK2 HP2 HO2 HBR2 HJ2 hp2
        all_goals
          have hl2 := HJ5.out.len
          refine (closed_any (B + 1) 0 p2 w5 HP5.out (by omega)).mono ?_
          rintro e w6 ⟨v6, rfl, ho6, hb6⟩
          obtain ⟨xa6, xc6, rfl⟩ := own_slice ho6
          obtain ⟨xa7, xc7, e7⟩ := own_slice HO5.out
          subst e7
          have ho7 := own_below HO5.out hb6
          have hpl : p.l.length ≤ p2.l.length := by rw [ht5]; simp
          have hplz : ¬ ((p2.l.length : Int) < (p.l.length : Int)) := by omega
          have hxc6 : p2.l.length ≤ xc6 := own_capV ho6
          have HEQ := Lib.hid (fun W (hW : Below w6.heap.size w6 W) => equalC_same p.l t xa6 xa7 xc6 xc7 W (by omega) (by rw [← ht5]; exact (rdC_of_own ho6).below hW) (by rw [List.append_nil]; exact (rdC_of_own ho7).below hW) (fun h => own_someP ho6 (by intro h0; apply h; exact List.length_eq_zero_iff.1 (by omega))) (fun h => own_someP ho7 (by intro h0; apply h; exact List.length_eq_zero_iff.1 (by omega))))
          have HK6 := Lib.hid (HK5.out.below hb6)
          have HP6 := Lib.hid (HP5.out.below hb6)
          have HO6 := Lib.hid (own_base_cK ho6 (show B + 2 ≤ w5.heap.size by have := HP5.out.lt; omega))
          have HBR6 := Lib.hid (HBR5.out.step hb6)
          have hsl := fun W => slice_preC xa6 p2.l.length xc6 p.l.length (by omega) W
          clear ho6 ho7 hb6 HK5 HP5 HO5 HBR5 ht5
          go_wp2_with fail
          refine (HEQ.out _ (Below.refl _ _)).mono ?_
          rintro e w7 ⟨rfl, hb7⟩
          go_wp2_with fail
          go_roundg (n - (k + 1))
          case measure => omega
          case rel => exact ⟨k + 1, b2, p2, hlt, by first | rfl | go_num | (congr 1; omega), Nat.le_refl _, HI2, by omega, by omega, Lib.hid (HK6.out.below hb7), Lib.hid (HP6.out.below hb7), HJ5, Lib.hid (own_below HO6.out hb7), Lib.hid (HBR6.out.step hb7)⟩
    · have hltz : ¬ (k : Int) < (n : Int) := by omega
      obtain ⟨wb, rfl⟩ : ∃ wb, wb = wr := ⟨_, rfl⟩
      have HOPEN := Lib.hid (popen_any (B + 1) 0 B b p wb HK.out HP.out HI.out HJ.out (HDW.out.below HBR.out))
      obtain ⟨xa7, xc7, e7⟩ := own_slice HO.out
      subst e7
      have hle := fun t => as_le HI.out t
      have hok := fun t => as_ok HI.out t
      have HU : Hid (∀ t m a c W, Below wb.heap.size wb W → RdE W.heap.size W (.slice a (b.as t).length c) (b.as t) → Calls Tryz.prog 12 #[.slice a (b.as t).length c, .int .i64 m] W (Gives (allF (b.as t) m).agg W)) := Lib.hid fun t m a c W hW hr => until_any a _ c _ m W hr ((HDW.out.below HBR.out).below hW) (by have := hle t; omega) (fun e he => ((hok t).1 e he).2.2) (fun e he => day_bd ((hok t).1 e he).2.2) (hok t).2
      have HKW : Hid (∀ W, Below wb.heap.size wb W → BkW W B b) := Lib.hid fun W hW => HK.out.below hW
      have hopn := HJ.out.opn_le HI.out
      have HSL := Lib.hid (fun k => HJ.out.sum_le HI.out k)
      have HPO := Lib.hid (fun k hk => HJ.out.posted_le HI.out k hk)
      have HORD := Lib.hid HJ.out.ord
      have HPRE := Lib.hid HJ.out.pre
      have HMEM := Lib.hid HJ.out.mem
      have HALL : Hid ((p.opn b).plus (sumC p.l) = allF (b.as (-1)) 3300) := Lib.hid (by unfold Pd.opn; rw [HJ.out.sum]; exact Fg.sub_add _ _)
      have hL60 := HJ.out.len
      clear hle hok HJ HP HK
      generalize p.opn b = fo at HOPEN hopn HALL
      generalize p.l = L at HO HSL HPO HORD HPRE HMEM HALL hL60 ⊢
      have HC : Hid (∀ k (hk : k < L.length), ∃ g, xa7 = some ⟨g, 0, none⟩ ∧ g < wb.heap.size ∧ ∀ W, Below wb.heap.size wb W → W.cell? ⟨g, k * 7, none⟩ = some (.int .i64 L[k].mo) ∧ W.cell? ⟨g, k * 7 + 1, none⟩ = some (.int .i64 L[k].turn) ∧ W.cell? ⟨g, k * 7 + 2, none⟩ = some (.int .i64 L[k].f.i) ∧ W.cell? ⟨g, k * 7 + 3, none⟩ = some (.int .i64 L[k].f.o) ∧ W.cell? ⟨g, k * 7 + 4, none⟩ = some (.int .i64 L[k].f.l) ∧ W.cell? ⟨g, k * 7 + 5, none⟩ = some (.int .i64 L[k].f.g) ∧ W.cell? ⟨g, k * 7 + 6, none⟩ = some (.int .i64 L[k].f.t)) := Lib.hid (fun k hk => by
        obtain ⟨g, h1, -, h3, h4⟩ := own_cl HO.out k hk
        exact ⟨g, h1, h3, h4⟩)
      clear HO
      go_wp2_with fail
      refine HOPEN.out.mono ?_
      rintro e w4 ⟨rfl, hb4⟩
      clear HOPEN
      go_wp2_with fail
      have h10 : (w4.alloc fo.ob).heap[w4.heap.size]? = some fo.ob := World.alloc_heap_new w4 fo.ob
      have HB5 := Lib.hid (hb4.new fo.ob)
      have hX10 : wb.heap.size ≤ w4.heap.size := hb4.size
      obtain ⟨X10, hX⟩ : ∃ X10, X10 = w4.heap.size := ⟨_, rfl⟩
      rw [← hX] at h10 hX10 ⊢
      clear hX hb4
      generalize w4.alloc fo.ob = W5 at h10 HB5 ⊢
      go_loopg [11] L.length (fun kx i wi => ∃ k : Nat, k ≤ L.length ∧ i = .int .i64 k ∧ L.length - k ≤ kx ∧ wi.heap[X10]? = some (fo.plus (sumC (L.take k))).ob ∧ Hid (Below wb.heap.size wb wi))
      case atStart => exact ⟨0, by omega, rfl, by omega, by rw [List.take_zero, show sumC [] = fg0 from rfl, Fg.zero_plus]; exact h10, HB5⟩
      case round =>
        obtain ⟨k, hk, rfl, hkx, h10, HBI⟩ := hrel
        have H10 := Lib.hid h10
        have hX10l : X10 < wr.heap.size := (Array.getElem?_eq_some_iff.1 h10).1
        by_cases hlt : k < L.length
        · have hltz : (k : Int) < (L.length : Int) := by omega
          obtain ⟨g, hxa, hgl, hc7⟩ := HC.out k hlt
          subst hxa
          have hS : Hid (fo.plus (sumC (L.take (k + 1))) = (fo.plus (sumC (L.take k))).plus L[k].f) := Lib.hid (by rw [sumC_take L k hlt, Fg.assoc])
          have hf := Fg.le_plus hopn (HSL.out k)
          have hq := HPO.out k hlt
          have HPREV : Hid (∀ j (hj : j + 1 = k), ∃ q : Cl, (∀ W, Below wb.heap.size wb W → W.cell? ⟨g, j * 7, none⟩ = some (.int .i64 q.mo) ∧ W.cell? ⟨g, j * 7 + 1, none⟩ = some (.int .i64 q.turn)) ∧ q.mo < L[k].mo ∧ q.turn ≤ L[k].turn) := Lib.hid (fun j hj => by
            obtain ⟨g', hg1', -, hgc'⟩ := HC.out j (by omega)
            injection hg1' with e1
            injection e1 with e1
            subst e1
            exact ⟨L[j], fun W hW => ⟨(hgc' W hW).1, (hgc' W hW).2.1⟩, List.pairwise_iff_getElem.1 HORD.out j k (by omega) hlt (by omega)⟩)
          generalize L[k] = q at hc7 hS hq HPREV
          generalize fo.plus (sumC (L.take k)) = f at H10 hS hf h10
          have HC7 := Lib.hid hc7
          obtain ⟨g0, g1, g2, g3, g4, g5, g6⟩ := hc7 wr HBI.out
          obtain ⟨c0, c1, c2, c3, c4⟩ := fig_cells h10
          have hgr : g < wr.heap.size := cell_lt g0
          have HPL : Hid (∀ W, Calls Tryz.prog 11 #[f.agg, q.f.agg] W fun r w' => r = .returned (f.plus q.f).agg ∧ Below W.heap.size W w') := Lib.hid (fun W => fplus_any f q.f W (Fg.le_mono hf (by omega)) (Fg.le_mono hq (by omega)))
          clear hc7 h10 hf hq
          go_wp2_with fail
          have hcs := fun (p : Since wr) b o h => Since.cells p b o h
          refine wp_region_since_tail 7 (by kernel_rfl) (by kernel_rfl) ?_
          simp only [List.take_succ_cons, List.take_zero, List.drop_succ_cons, List.drop_zero]
          iterate 7 (go_big_quiet_step (with_reducible exact Calls.since_of (HPL.out _)))
          refine wpQuiet_nil ?_
          intro w8 hw8
          obtain ⟨pp, hp8⟩ := hw8
          have hb8 : Below wr.heap.size wr w8 := by rw [hp8]; exact pp.h
          clear hp8 pp hcs c0 c1 c2 c3 c4 g0 g1 g2 g3 g4 g5 g6
          generalize f.plus q.f = f2 at hS ⊢
          have h18 := (hb8.block X10 hX10l).trans H10.out
          have HT : w8.there X10 0 f2.cells.toArray.size := fig_there h18 rfl
          have HG := setCells_gb X10 f2.cells 0 w8
          have hz0 := fig_set h18 rfl f2
          have hbz := below_gbP (HBI.out.step hb8) HG hX10 (HBI.out.step hb8).size
          obtain ⟨m0, m1, -⟩ := HC7.out _ hbz
          clear HG h18 hb8 H10 HBI
          obtain ⟨KK, hKK⟩ : ∃ KK, KK = k := ⟨_, rfl⟩
          have hord : (k = 0 ∧ True) ∨ ∃ j, j + 1 = k := by
            rcases k with _ | j
            · exact .inl ⟨rfl, trivial⟩
            · exact .inr ⟨j, rfl⟩
          rcases hord with ⟨rfl, -⟩ | ⟨j, rfl⟩
          case' inl =>
            have hgd : decide ((0 : Int) < ((0 : Nat) : Int)) = false := by decide
            go_wp2_with (show Go.wpList _ _ _ ({ op := Go.Op.store _ _ _, .. } :: _) _ _; refine wpList_store_mid rfl 29 (.tmp 10) (.tmp 80) rfl X10 0 f2.cells.toArray rfl rfl HT (by kernel_rfl) (all_oneCell_toArray (one_fg f2)) ?_; show Go.wpList _ _ _ _ ⟨_, _⟩ (w8.setCells X10 0 f2.cells); generalize w8.setCells X10 0 f2.cells = wz at hz0 hbz m0 m1 ⊢; clear HT)
            go_quiet (fail)
          case' inr =>
            have hgd : decide ((0 : Int) < ((j + 1 : Nat) : Int)) = true := decide_eq_true (by omega)
            have hj1 : ((j + 1 : Nat) : Int) - 1 = (j : Int) := by omega
            have hjl : (j : Int) < (L.length : Int) := by omega
            obtain ⟨q', hq', hlt', hle'⟩ := HPREV.out j rfl
            obtain ⟨p0, p1⟩ := hq' _ hbz
            have hge : decide (q.mo ≤ q'.mo) = false := decide_eq_false (by omega)
            have hgt : decide (q.turn < q'.turn) = false := decide_eq_false (by omega)
            clear hq'
            go_wp2_with (show Go.wpList _ _ _ ({ op := Go.Op.store _ _ _, .. } :: _) _ _; refine wpList_store_mid rfl 29 (.tmp 10) (.tmp 80) rfl X10 0 f2.cells.toArray rfl rfl HT (by kernel_rfl) (all_oneCell_toArray (one_fg f2)) ?_; show Go.wpList _ _ _ _ ⟨_, _⟩ (w8.setCells X10 0 f2.cells); generalize w8.setCells X10 0 f2.cells = wz at hz0 hbz m0 m1 p0 p1 ⊢; clear HT)
            go_quiet (fail)
          all_goals
            go_wp2_with fail
            go_roundg (L.length - (KK + 1))
            case measure => omega
            case rel =>
              subst hKK
              refine ⟨_ + 1, hlt, by first | rfl | go_num | (congr 1; omega), Nat.le_refl _, ?_, Lib.hid (hbz.step (below_drewN (Below.refl _ _) _))⟩
              rw [hS.out]
              exact hz0
        · have hltz : ¬ (k : Int) < (L.length : Int) := by omega
          have hke : L.take k = L := List.take_of_length_le (by omega)
          rw [hke, HALL.out] at h10
          have HU1 := Lib.hid (HU.out (-1) 3300)
          generalize allF (b.as (-1)) 3300 = fa at h10 HU1
          obtain ⟨wc, rfl⟩ : ∃ wc, wc = wr := ⟨_, rfl⟩
          obtain ⟨c0, c1, c2, c3, c4⟩ := fig_cells h10
          clear h10 H10
          go_wp2_with fail
          refine wp_region_held_drew (S := fun W => Below wc.heap.size wc W) (by kernel_rfl) (below_drewN (Below.refl _ _) 1) (fun hHeld => ?_)
          obtain ⟨W8, hW8⟩ : ∃ W8, W8 = wc.drew := ⟨_, rfl⟩
          rw [← hW8] at hHeld ⊢
          clear hW8
          refine wpAnyH_take (i := 0) (v := ?_) rfl (by kernel_rfl) (by kernel_rfl) (by kernel_rfl) (fun _ _ _ h => h) (Or.inl ⟨by rfl, ?_⟩) hHeld ?_
          rotate_left
          · intro W hSw; have c0 := (hSw.cell (p := ⟨X10, 0, none⟩) hX10l).trans c0; have c1 := (hSw.cell (p := ⟨X10, 1, none⟩) hX10l).trans c1; have c2 := (hSw.cell (p := ⟨X10, 2, none⟩) hX10l).trans c2; have c3 := (hSw.cell (p := ⟨X10, 3, none⟩) hX10l).trans c3; have c4 := (hSw.cell (p := ⟨X10, 4, none⟩) hX10l).trans c4; go_simp; try (with_reducible rfl)
          refine wpAnyH_ready (rs := [1]) (by kernel_rfl) (by simp) (AllReadyH.cons rfl (fun K hK => ?_) AllReadyH.nil)
          go_simp
          refine (as_any B b (-1) _ (HKW.out _ (HBI.out.step hHeld)) HI.out).mono ?_
          rintro e w2 ⟨v2, rfl, ho2, hb2⟩
          obtain ⟨xa2, xc2, rfl⟩ := own_slice ho2
          have hr2 := Lib.hid (rdE_of_own ho2 rfl)
          refine hK.out _ _ (hHeld.step hb2) (fun hHeld => ?_)
          clear ho2 hb2
          clear hK K
          refine wpAnyH_ready (rs := [2]) (by kernel_rfl) (by simp) (AllReadyH.cons rfl (fun K hK => ?_) AllReadyH.nil)
          go_simp
          refine (HU1.out xa2 xc2 w2 (HBI.out.step hHeld) hr2.out).mono ?_
          rintro e w3 ⟨rfl, hb3⟩
          refine hK.out _ _ (hHeld.step hb3) (fun hHeld => ?_)
          clear hb3 hr2
          clear hK K
          refine wpAnyH_ready (rs := [3]) (by kernel_rfl) (by simp) (AllReadyH.cons rfl (fun K hK => ?_) AllReadyH.nil)
          go_simp
          refine hK.out _ _ hHeld (fun hHeld => ?_)
          clear hK K
          refine wpAnyH_done (by kernel_rfl) ?_ _
          have HB9 := Lib.hid (HBI.out.step hHeld)
          clear hHeld c0 c1 c2 c3 c4 HU1 HBI
          go_wp2_with fail
          have h12 : (w3.alloc (.cells #[.int .i64 0, .int .i64 0, .int .i64 0, .int .i64 0, .int .i64 0] 29)).heap[w3.heap.size]? = some fg0.ob := World.alloc_heap_new w3 _
          have HB6 := Lib.hid (HB9.out.new (.cells #[.int .i64 0, .int .i64 0, .int .i64 0, .int .i64 0, .int .i64 0] 29))
          have hX12 : wb.heap.size ≤ w3.heap.size := HB9.out.size
          obtain ⟨X12, hX⟩ : ∃ X12, X12 = w3.heap.size := ⟨_, rfl⟩
          rw [← hX] at h12 hX12 ⊢
          clear hX HB9
          generalize w3.alloc (.cells #[.int .i64 0, .int .i64 0, .int .i64 0, .int .i64 0, .int .i64 0] 29) = W6 at h12 HB6 ⊢
          go_loopg [13] L.length (fun kx i wi => ∃ k : Nat, k ≤ L.length ∧ i = .int .i64 k ∧ L.length - k ≤ kx ∧ wi.heap[X12]? = some (sumC (L.take k)).ob ∧ Hid (Below wb.heap.size wb wi))
          case atStart => exact ⟨0, by omega, rfl, by omega, by rw [List.take_zero]; exact h12, HB6⟩
          case round =>
            obtain ⟨k, hk, rfl, hkx, h12, HBI⟩ := hrel
            have H12 := Lib.hid h12
            have hX12l : X12 < wr.heap.size := (Array.getElem?_eq_some_iff.1 h12).1
            by_cases hlt : k < L.length
            · have hltz : (k : Int) < (L.length : Int) := by omega
              obtain ⟨g, hxa, hgl, hc7⟩ := HC.out k hlt
              subst hxa
              have hS : Hid (sumC (L.take (k + 1)) = (sumC (L.take k)).plus L[k].f) := Lib.hid (sumC_take L k hlt)
              have hf := HSL.out k
              have hq := HPO.out k hlt
              have hpre := HPRE.out k hlt
              rw [hS.out] at hpre
              generalize L[k] = q at hc7 hS hq hpre
              generalize sumC (L.take k) = f at H12 hS hf h12 hpre
              have HUQ := Lib.hid (HU.out q.turn q.mo)
              rw [← hpre] at HUQ
              have HC7 := Lib.hid hc7
              obtain ⟨g0, g1, g2, g3, g4, g5, g6⟩ := hc7 wr HBI.out
              obtain ⟨c0, c1, c2, c3, c4⟩ := fig_cells h12
              have hgr : g < wr.heap.size := cell_lt g0
              have HPL : Hid (∀ W, Calls Tryz.prog 11 #[f.agg, q.f.agg] W fun r w' => r = .returned (f.plus q.f).agg ∧ Below W.heap.size W w') := Lib.hid (fun W => fplus_any f q.f W (Fg.le_mono hf (by omega)) (Fg.le_mono hq (by omega)))
              clear hc7 h12 hf hq hpre
              go_wp2_with fail
              have hcs := fun (p : Since wr) b o h => Since.cells p b o h
              refine wp_region_since_tail 7 (by kernel_rfl) (by kernel_rfl) ?_
              simp only [List.take_succ_cons, List.take_zero, List.drop_succ_cons, List.drop_zero]
              iterate 7 (go_big_quiet_step (with_reducible exact Calls.since_of (HPL.out _)))
              refine wpQuiet_nil ?_
              intro w8 hw8
              obtain ⟨pp, hp8⟩ := hw8
              have hb8 : Below wr.heap.size wr w8 := by rw [hp8]; exact pp.h
              clear hp8 pp hcs c0 c1 c2 c3 c4 g0 g1 g2 g3 g4 g5 g6
              generalize f.plus q.f = f2 at hS HUQ ⊢
              have h18 := (hb8.block X12 hX12l).trans H12.out
              have HT : w8.there X12 0 f2.cells.toArray.size := fig_there h18 rfl
              have HG := setCells_gb X12 f2.cells 0 w8
              have hz0 := fig_set h18 rfl f2
              have hbz := below_gbP (HBI.out.step hb8) HG hX12 (HBI.out.step hb8).size
              clear HG h18 hb8 H12 HBI
              go_wp2_with (show Go.wpList _ _ _ ({ op := Go.Op.store _ _ _, .. } :: _) _ _; refine wpList_store_mid rfl 29 (.tmp 12) (.tmp 128) rfl X12 0 f2.cells.toArray rfl rfl HT (by kernel_rfl) (all_oneCell_toArray (one_fg f2)) ?_; show Go.wpList _ _ _ _ ⟨_, _⟩ (w8.setCells X12 0 f2.cells); generalize w8.setCells X12 0 f2.cells = wz at hz0 hbz ⊢; clear HT)
              have HBI := Lib.hid hbz
              obtain ⟨m0, m1, -⟩ := HC7.out _ hbz
              obtain ⟨c0, c1, c2, c3, c4⟩ := fig_cells hz0
              have hX12z : X12 < wz.heap.size := cell_lt c0
              have hgz : g < wz.heap.size := cell_lt m0
              clear hbz
              refine wp_region_held_drew (S := fun W => Below wz.heap.size wz W) (by kernel_rfl) (below_drewN (Below.refl _ _) 1) (fun hHeld => ?_)
              obtain ⟨W8, hW8⟩ : ∃ W8, W8 = wz.drew := ⟨_, rfl⟩
              rw [← hW8] at hHeld ⊢
              clear hW8
              refine wpAnyH_take (i := 0) (v := ?_) rfl (by kernel_rfl) (by kernel_rfl) (by kernel_rfl) (fun _ _ _ h => h) (Or.inl ⟨by rfl, ?_⟩) hHeld ?_
              rotate_left
              · intro W hSw; have c0 := (hSw.cell (p := ⟨X12, 0, none⟩) hX12z).trans c0; have c1 := (hSw.cell (p := ⟨X12, 1, none⟩) hX12z).trans c1; have c2 := (hSw.cell (p := ⟨X12, 2, none⟩) hX12z).trans c2; have c3 := (hSw.cell (p := ⟨X12, 3, none⟩) hX12z).trans c3; have c4 := (hSw.cell (p := ⟨X12, 4, none⟩) hX12z).trans c4; go_simp; try (with_reducible rfl)
              refine wpAnyH_take (i := 1) (v := ?_) rfl (by kernel_rfl) (by kernel_rfl) (by kernel_rfl) (fun _ _ _ h => h) (Or.inl ⟨by rfl, ?_⟩) hHeld ?_
              rotate_left
              · intro W hSw; go_simp; try (with_reducible rfl)
              refine wpAnyH_take (i := 2) (v := ?_) rfl (by kernel_rfl) (by kernel_rfl) (by kernel_rfl) (fun _ _ _ h => h) (Or.inl ⟨by rfl, ?_⟩) hHeld ?_
              rotate_left
              · intro W hSw; go_simp; try (with_reducible rfl)
              refine wpAnyH_take (i := 3) (v := ?_) rfl (by kernel_rfl) (by kernel_rfl) (by kernel_rfl) (fun _ _ _ h => h) (Or.inl ⟨by rfl, ?_⟩) hHeld ?_
              rotate_left
              · intro W hSw; go_simp; try (with_reducible rfl)
              refine wpAnyH_take (i := 4) (v := ?_) rfl (by kernel_rfl) (by kernel_rfl) (by kernel_rfl) (fun _ _ _ h => h) (Or.inl ⟨by rfl, ?_⟩) hHeld ?_
              rotate_left
              · intro W hSw; go_simp; try (with_reducible rfl)
              refine wpAnyH_take (i := 5) (v := ?_) rfl (by kernel_rfl) (by kernel_rfl) (by kernel_rfl) (fun _ _ _ h => h) (Or.inl ⟨by rfl, ?_⟩) hHeld ?_
              rotate_left
              · intro W hSw; have m1 := (hSw.cell (p := ⟨g, k * 7 + 1, none⟩) hgz).trans m1; go_simp; try (with_reducible rfl)
              refine wpAnyH_take (i := 7) (v := ?_) rfl (by kernel_rfl) (by kernel_rfl) (by kernel_rfl) (fun _ _ _ h => h) (Or.inl ⟨by rfl, ?_⟩) hHeld ?_
              rotate_left
              · intro W hSw; go_simp; try (with_reducible rfl)
              refine wpAnyH_take (i := 8) (v := ?_) rfl (by kernel_rfl) (by kernel_rfl) (by kernel_rfl) (fun _ _ _ h => h) (Or.inl ⟨by rfl, ?_⟩) hHeld ?_
              rotate_left
              · intro W hSw; go_simp; try (with_reducible rfl)
              refine wpAnyH_take (i := 9) (v := ?_) rfl (by kernel_rfl) (by kernel_rfl) (by kernel_rfl) (fun _ _ _ h => h) (Or.inl ⟨by rfl, ?_⟩) hHeld ?_
              rotate_left
              · intro W hSw; go_simp; try (with_reducible rfl)
              refine wpAnyH_take (i := 10) (v := ?_) rfl (by kernel_rfl) (by kernel_rfl) (by kernel_rfl) (fun _ _ _ h => h) (Or.inl ⟨by rfl, ?_⟩) hHeld ?_
              rotate_left
              · intro W hSw; go_simp; try (with_reducible rfl)
              refine wpAnyH_take (i := 11) (v := ?_) rfl (by kernel_rfl) (by kernel_rfl) (by kernel_rfl) (fun _ _ _ h => h) (Or.inl ⟨by rfl, ?_⟩) hHeld ?_
              rotate_left
              · intro W hSw; have m0 := (hSw.cell (p := ⟨g, k * 7, none⟩) hgz).trans m0; go_simp; try (with_reducible rfl)
              refine wpAnyH_ready (rs := [6]) (by kernel_rfl) (by simp) (AllReadyH.cons rfl (fun K hK => ?_) AllReadyH.nil)
              go_simp
              refine (as_any B b q.turn _ (HKW.out _ (HBI.out.step hHeld)) HI.out).mono ?_
              rintro e w2 ⟨v2, rfl, ho2, hb2⟩
              obtain ⟨xa2, xc2, rfl⟩ := own_slice ho2
              have hr2 := Lib.hid (rdE_of_own ho2 rfl)
              refine hK.out _ _ (hHeld.step hb2) (fun hHeld => ?_)
              clear ho2 hb2
              clear hK K
              refine wpAnyH_ready (rs := [12]) (by kernel_rfl) (by simp) (AllReadyH.cons rfl (fun K hK => ?_) AllReadyH.nil)
              go_simp
              refine (HUQ.out xa2 xc2 w2 (HBI.out.step hHeld) hr2.out).mono ?_
              rintro e w3 ⟨rfl, hb3⟩
              refine hK.out _ _ (hHeld.step hb3) (fun hHeld => ?_)
              clear hb3 hr2
              clear hK K
              refine wpAnyH_ready (rs := [13]) (by kernel_rfl) (by simp) (AllReadyH.cons rfl (fun K hK => ?_) AllReadyH.nil)
              go_simp
              refine hK.out _ _ hHeld (fun hHeld => ?_)
              clear hK K
              refine wpAnyH_done (by kernel_rfl) ?_ _
              have HB9 := Lib.hid (HBI.out.step hHeld)
              have HZ9 := (hHeld.block X12 hX12z).trans hz0
              clear hHeld c0 c1 c2 c3 c4 m0 m1 HUQ hz0
              go_wp2_with fail
              go_roundg (L.length - (k + 1))
              case measure => omega
              case rel =>
                refine ⟨k + 1, hlt, by first | rfl | go_num | (congr 1; omega), Nat.le_refl _, ?_, HB9⟩
                rw [hS.out]
                exact HZ9
            · have hltz : ¬ (k : Int) < (L.length : Int) := by omega
              go_wp2_with fail
              go_ret
              exact ⟨rfl, HBR.out.step HBI.out⟩
theorem periodWhole_all (hi : Nat) (v : Value) (l : List ActV) (ca : Option Addr) (cc : Nat) (cs : List Int) (w : World) (h : EW w ∧ DW w) (hr : RdA hi w v l) (hh : hi ≤ w.heap.size) (hrc : Rd w ca (cs.map (Value.int .i64))) (_ : ∀ n ∈ cs, (Lit.int .i64 n).wf = true) (hcl : cs.length ≤ maxLen) :
    Calls Tryz.prog 4 #[v, .slice ca cs.length cc] w (Gives (.bool true) w) := periodWhole_any hi v l ca cc cs w h.1 h.2 hr hh hrc hcl
end Go.Proofs.YtackpcohmmlkeaaGreatDoor
