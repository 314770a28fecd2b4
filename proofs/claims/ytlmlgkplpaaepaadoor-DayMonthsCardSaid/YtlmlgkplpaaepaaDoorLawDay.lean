/- tallymankeep.DayBack, DayMonths: the walks. -/
import Derived.Test.YtlmlgkplpaaepaaDoorDayQ
import Derived.Test.YtlmlgkplpaaepaaDoorPick
namespace Go.Proofs.YtlmlgkplpaaepaaDoor
open Go.RowKit

set_option maxHeartbeats 1000000 in
theorem months_walk (month a b : Int) (w : World) (hw : DW w) :
    Calls Tryd.prog 5 #[.int .i64 month, .int .i64 a, .int .i64 b] w (Gives (.bool true) w) := by
  go_enter Tryd.func5, Tryd.ntmps5
  go_wp2_with fail
  refine (dated_any _ hw).mono ?_
  rintro e w1 ⟨rfl, hb1⟩
  have hw1 := hw.below hb1
  go_wp2_with fail
  refine (pick_any month 3285 _ (by omega) (by omega)).mono ?_
  rintro e w' ⟨T, hT0, hT1, rfl, rfl⟩
  obtain ⟨y, hy⟩ : ∃ y, y = 1900 + T / 12 := ⟨_, rfl⟩
  obtain ⟨m, hm⟩ : ∃ m : Nat, m = (T % 12).toNat + 1 := ⟨_, rfl⟩
  have hT : T = Dy.mo y m := by unfold Dy.mo; omega
  have y1 : 1900 ≤ y := by omega
  have m1 : 1 ≤ m := by omega
  have m2 : m ≤ 12 := by omega
  have y2 : y ≤ 2173 := by omega
  clear hy hm
  have hl := Dy.len_pos y m m1 m2
  have htop := Dy.month_top y m y1 m1 m2 (by rw [← hT]; exact hT1)
  have hiL : Dy.Is (Dy.num y m 1 + Dy.len y m - 1) y m (Dy.len y m) := by
    refine ⟨⟨y1, by omega, by omega, by omega, by omega, by simp⟩, ?_⟩
    unfold Dy.num
    simp
    omega
  have hn0 := Dy.num_bd hiL.1
  rw [hiL.2] at hn0
  have hnext : ∃ (y' d' : Int) (m' : Nat), Dy.Is (Dy.num y m 1 + Dy.len y m - 1 + 1) y' m' d' ∧ Dy.mo y' m' = T + 1 := by
    by_cases h12 : m = 12
    · subst h12
      exact ⟨_, _, _, Dy.is_year hiL rfl (by omega), by rw [hT]; unfold Dy.mo; omega⟩
    · exact ⟨_, _, _, Dy.is_first hiL rfl (by omega), by rw [hT]; unfold Dy.mo; omega⟩
  obtain ⟨y', d', m', hi', hmo'⟩ := hnext
  obtain ⟨L, hL⟩ : ∃ L, L = Dy.num y m 1 + Dy.len y m - 1 := ⟨_, rfl⟩
  have hL1 : L ≤ 99984 := by omega
  rw [← hL] at hiL hn0 hi'
  have HiL := Lib.hid hiL
  have Hi' := Lib.hid hi'
  have HA : Hid (∀ w1, DW w1 → Calls Tryd.prog 20 #[.int .i64 T] w1 (Gives (.tuple #[.int .i64 L, .nilIface]) w1)) := Lib.hid (fun w1 hw1 => by
    rw [hT, hL]; exact last_is y m w1 hw1 y1 m1 m2 (by rw [← hT]; exact hT1))
  have HB : Hid (∀ w1, DW w1 → Calls Tryd.prog 21 #[.int .i64 L] w1 (Gives (.tuple #[.int .i64 T, .nilIface]) w1)) := Lib.hid (fun w1 hw1 => by
    rw [hT]; exact month_is L y _ m w1 hw1 hn0 (by omega) HiL.out)
  have HC : Hid (∀ w1, DW w1 → Calls Tryd.prog 21 #[.int .i64 (L + 1)] w1 (Gives (.tuple #[.int .i64 (T + 1), .nilIface]) w1)) := Lib.hid (fun w1 hw1 => by
    rw [← hmo']; exact month_is (L + 1) y' d' m' w1 hw1 (by omega) (by omega) Hi'.out)
  clear hiL hi' hmo' hT hL htop hl y1 m1 m2 y2
  go_wp2_with fail
  refine (HA.out _ hw1).mono ?_
  rintro e w2 ⟨rfl, hb2⟩
  have hw2 := hw1.below hb2
  go_wp2_with fail
  refine (HB.out _ hw2).mono ?_
  rintro e w3 ⟨rfl, hb3⟩
  have hw3 := hw2.below hb3
  go_wp2_with fail
  refine (HC.out _ hw3).mono ?_
  rintro e w4 ⟨rfl, hb4⟩
  have hw4 := hw3.below hb4
  have hb14 : Below w.heap.size w w4 := ((hb1.step hb2).step hb3).step hb4
  go_wp2_with fail
  refine (pick_any a 100000 _ (by omega) (by omega)).mono ?_
  rintro e w' ⟨A, hA0, hA1, rfl, rfl⟩
  go_wp2_with fail
  refine (pick_any b 100000 _ (by omega) (by omega)).mono ?_
  rintro e w' ⟨B, hB0, hB1, rfl, rfl⟩
  have fin : ∀ C D : Int, 0 ≤ C → D < 100000 → C ≤ D → min A B = C → max A B = D → Calls Tryd.prog 21 #[.int .i64 C] w4 (fun e w5 => ∃ x y : Int, x ≤ y ∧ e = .returned (.tuple #[.int .i64 x, .nilIface]) ∧ Below w4.heap.size w4 w5 ∧ ∀ w6, DW w6 → Calls Tryd.prog 21 #[.int .i64 D] w6 (Gives (.tuple #[.int .i64 y, .nilIface]) w6)) := by
    intro C D c0 d1 hcd _ _
    obtain ⟨y1, d1, m1, i1⟩ := Dy.parts_ex C c0 (by omega)
    obtain ⟨y2, d2, m2, i2⟩ := Dy.parts_ex D (by omega) (by omega)
    refine (month_is C y1 d1 m1 w4 hw4 c0 (by omega) i1).mono ?_
    rintro e w5 ⟨rfl, hb⟩
    exact ⟨_, _, Dy.mo_mono i1 i2 hcd, rfl, hb, fun w6 hw6 => month_is D y2 d2 m2 w6 hw6 (by omega) (by omega) i2⟩
  obtain ⟨C, hC⟩ : ∃ C, min A B = C := ⟨_, rfl⟩
  obtain ⟨D, hD⟩ : ∃ D, max A B = D := ⟨_, rfl⟩
  have fin' := Lib.hid (fin C D (by omega) (by omega) (by omega) hC hD)
  clear fin
  go_wp2_with fail
  refine fin'.out.mono ?_
  rintro e w5 ⟨x, y, hxy, rfl, hb5, HD⟩
  have HD' := Lib.hid HD
  clear HD
  go_wp2_with fail
  refine (HD'.out _ (hw4.below hb5)).mono ?_
  rintro e w6 ⟨rfl, hb6⟩
  go_wp2_with fail
  go_ret
  exact ⟨rfl, (hb14.step hb5).step hb6⟩

theorem parts_is (n y d : Int) (m : Nat) (w : World) (hw : DW w) (h0 : 0 ≤ n) (h1 : n ≤ 99999) (hi : Dy.Is n y m d) :
    Calls Tryd.prog 18 #[.int .i64 n] w (Gives (.tuple #[.int .i64 y, .int .i64 m, .int .i64 d, .nilIface]) w) := by
  refine (parts_ok n w hw h0 h1).mono ?_
  rintro e w' ⟨y', d', m', hi', rfl, q, rfl⟩
  obtain ⟨rfl, e2, rfl⟩ := Dy.is_uniq hi' hi
  obtain rfl : m' = m := by omega
  exact ⟨rfl, below_drewN (Below.refl _ _) q⟩
theorem of_is (n y d : Int) (m : Nat) (w : World) (hw : DW w) (h1 : n ≤ 99999) (hi : Dy.Is n y m d) :
    Calls Tryd.prog 19 #[.int .i64 y, .int .i64 m, .int .i64 d] w (Gives (.tuple #[.int .i64 n, .nilIface]) w) := by
  have := of_any y m d w hw
  rw [Dy.ofN_is hi h1] at this
  refine this.mono ?_
  rintro e w' ⟨rfl, q, rfl⟩
  exact ⟨rfl, below_drewN (Below.refl _ _) q⟩
theorem parts_isZ (n y m d : Int) (w : World) (hw : DW w) (h0 : 0 ≤ n) (h1 : n ≤ 99999) (hi : Dy.Is n y m d) :
    Calls Tryd.prog 18 #[.int .i64 n] w (Gives (.tuple #[.int .i64 y, .int .i64 m, .int .i64 d, .nilIface]) w) := by
  obtain ⟨M, rfl⟩ : ∃ M : Nat, m = M := ⟨m.toNat, by have := hi.1.2.2.1; omega⟩
  exact parts_is n y d M w hw h0 h1 hi
theorem of_isZ (n y m d : Int) (w : World) (hw : DW w) (h1 : n ≤ 99999) (hi : Dy.Is n y m d) :
    Calls Tryd.prog 19 #[.int .i64 y, .int .i64 m, .int .i64 d] w (Gives (.tuple #[.int .i64 n, .nilIface]) w) := by
  obtain ⟨M, rfl⟩ : ∃ M : Nat, m = M := ⟨m.toNat, by have := hi.1.2.2.1; omega⟩
  exact of_is n y d M w hw h1 hi
theorem day_print_is (n : Int) (s : ByteArray) (w : World) (hw : DW w) (h0 : 0 ≤ n) (h1 : n ≤ 99999) (hT : Dy.Text n s.data.toList) :
    Calls Tryd.prog 16 #[.int .i64 n] w (Gives (.tuple #[.string s, .nilIface]) w) := by
  refine (day_print_ok n w hw h0 h1).mono ?_
  rintro e w' ⟨l, hl, rfl, hb⟩
  rw [Dy.text_uniq hl hT]
  exact ⟨rfl, hb⟩
theorem text_size {n : Int} {s : ByteArray} (h : Dy.Text n s.data.toList) : s.size = 10 := by
  obtain ⟨y, d, m, -, e⟩ := h
  have : s.data.toList.length = 10 := by rw [e]; rfl
  simpa using this

set_option maxHeartbeats 1000000 in
set_option maxRecDepth 100000 in
theorem dayback_walk (n : Int) (s : ByteArray) (w : World) (hw : DW w) (hs : s.size ≤ maxLen) :
    Calls Tryd.prog 4 #[.int .i64 n, .string s] w (Gives (.bool true) w) := by
  unfold maxLen at hs
  by_cases h100 : 100 < s.size
  · go_enter Tryd.func4, Tryd.ntmps4
    go_wp2
    go_ret
    exact ⟨rfl, Below.refl _ _⟩
  · go_enter Tryd.func4, Tryd.ntmps4
    go_wp2_with fail
    refine (dated_any _ hw).mono ?_
    rintro e w1 ⟨rfl, hb1⟩
    have hw1 := hw.below hb1
    by_cases hT : ∃ k, 0 ≤ k ∧ k ≤ 99999 ∧ Dy.Text k s.data.toList
    · obtain ⟨k, k0, k1, kt⟩ := hT
      have KT := Lib.hid kt
      have K0 := Lib.hid k0
      have K1 := Lib.hid k1
      clear kt k0 k1
      go_wp2_with fail
      refine (day_parse_yes k s _ hw1 K0.out K1.out KT.out).mono ?_
      rintro e w2 ⟨rfl, hb2⟩
      have hw2 := hw1.below hb2
      go_wp2_with fail
      refine (day_print_is k s _ hw2 K0.out K1.out KT.out).mono ?_
      rintro e w3 ⟨rfl, hb3⟩
      have hw3 := hw2.below hb3
      have hb13 := (hb1.step hb2).step hb3
      clear hw1 hw2 hb1 hb2 hb3
      go_wp2_with fail
      refine (pick_any n 99999 _ (by omega) (by omega)).mono ?_
      rintro e w' ⟨T, hT0, hT1, rfl, rfl⟩
      obtain ⟨y, d, m, hi⟩ := Dy.parts_ex T hT0 (by omega)
      obtain ⟨-, -, g1, g2, -, -⟩ := hi.1
      have gl := Dy.len_pos y m (by omega) (by omega)
      have HI : Hid (Dy.Is T y m d) := Lib.hid hi
      obtain ⟨M, hM⟩ : ∃ M : Int, M = m := ⟨_, rfl⟩
      obtain ⟨y', d', M', hi', hc⟩ : ∃ (y' d' M' : Int), Dy.Is (T + 1) y' M' d' ∧ ((y' = y ∧ M' = M ∧ d' = d + 1) ∨ (d' = 1 ∧ (¬ d < 28 ∧ ((1 : Int) == d + 1) = false ∧ (y + 1 == y) = false) ∧ ((M < 12 ∧ M % 12 = M ∧ M' = M + 1 ∧ y' = y) ∨ (M = 12 ∧ M' = 1 ∧ y' = y + 1)))) := by
        rcases Dy.next_cases hi (by omega) with ⟨-, h1⟩ | ⟨h2, h3, h1⟩ | ⟨h2, h3, h1⟩
        · exact ⟨_, _, _, h1, Or.inl ⟨rfl, hM.symm, rfl⟩⟩
        · exact ⟨_, _, _, h1, Or.inr ⟨rfl, ⟨by omega, by simp; omega, by simp; omega⟩, Or.inl ⟨by omega, by omega, by omega, rfl⟩⟩⟩
        · exact ⟨_, _, _, h1, Or.inr ⟨rfl, ⟨by omega, by simp; omega, by simp; omega⟩, Or.inr ⟨by omega, by omega, rfl⟩⟩⟩
      rw [← hM] at HI
      have HI' := Lib.hid hi'
      obtain ⟨l, hl⟩ : ∃ l : ByteArray, Dy.Text T l.data.toList := ⟨⟨(Dy.txt y.toNat m d.toNat).toArray⟩, y, d, m, hi, rfl⟩
      have hls := text_size hl
      have HL := Lib.hid hl
      have y0 := hi.1.1
      have dd : 1 ≤ d ∧ d ≤ 31 := ⟨hi.1.2.2.2.2.1, by have := hi.1.2.2.2.2.2; simp only [Int.toNat_natCast] at this; omega⟩
      obtain ⟨d0, d1⟩ := dd
      have M0 : 1 ≤ M := by omega
      have M1 : M ≤ 12 := by omega
      have y2 := Dy.is_y hi (by omega)
      clear hl hi hi' hM gl g1 g2
      rcases hc with ⟨rfl, rfl, rfl⟩ | ⟨rfl, ⟨hd, hne, hyy⟩, ⟨hm, hmod, rfl, rfl⟩ | ⟨rfl, rfl, rfl⟩⟩
      all_goals
        go_wp2_with fail
        refine (parts_isZ T _ _ _ _ hw3 hT0 (by omega) HI.out).mono ?_
        rintro e w4 ⟨rfl, hb4⟩
        have hw4 := hw3.below hb4
        go_wp2_with fail
        refine (parts_isZ (T + 1) _ _ _ _ hw4 (by omega) (by omega) HI'.out).mono ?_
        rintro e w5 ⟨rfl, hb5⟩
        have hw5 := hw4.below hb5
        go_wp2_with fail
        refine (of_isZ T _ _ _ _ hw5 (by omega) HI.out).mono ?_
        rintro e w6 ⟨rfl, hb6⟩
        have hw6 := hw5.below hb6
        go_wp2_with fail
        refine (day_print_is T l _ hw6 hT0 (by omega) HL.out).mono ?_
        rintro e w7 ⟨rfl, hb7⟩
        have hw7 := hw6.below hb7
        go_wp2_with fail
        refine (day_parse_yes T l _ hw7 hT0 (by omega) HL.out).mono ?_
        rintro e w8 ⟨rfl, hb8⟩
        have hb18 : Below w.heap.size w w8 := ((((hb13.step hb4).step hb5).step hb6).step hb7).step hb8
        go_wp2_with fail
        all_goals go_ret
        all_goals first
          | exact ⟨rfl, hb18⟩
          | exact ⟨congrArg (fun b => Ending.returned (Value.bool b)) (decide_eq_true (by omega) : decide (y + 1 - y ≤ 1) = true), hb18⟩
    · have HT : Hid (∀ k, 0 ≤ k → k ≤ 99999 → ¬ Dy.Text k s.data.toList) := Lib.hid (fun k k0 k1 kt => hT ⟨k, k0, k1, kt⟩)
      clear hT
      go_wp2_with fail
      refine (day_parse_no s _ hw1 HT.out).mono ?_
      rintro e w3 ⟨rfl, hb2⟩
      have hw3 := hw1.below hb2
      have hb13 := hb1.step hb2
      clear hw1 hb1 hb2
      go_wp2_with fail
      refine (pick_any n 99999 _ (by omega) (by omega)).mono ?_
      rintro e w' ⟨T, hT0, hT1, rfl, rfl⟩
      obtain ⟨y, d, m, hi⟩ := Dy.parts_ex T hT0 (by omega)
      obtain ⟨-, -, g1, g2, -, -⟩ := hi.1
      have gl := Dy.len_pos y m (by omega) (by omega)
      have HI : Hid (Dy.Is T y m d) := Lib.hid hi
      obtain ⟨M, hM⟩ : ∃ M : Int, M = m := ⟨_, rfl⟩
      obtain ⟨y', d', M', hi', hc⟩ : ∃ (y' d' M' : Int), Dy.Is (T + 1) y' M' d' ∧ ((y' = y ∧ M' = M ∧ d' = d + 1) ∨ (d' = 1 ∧ (¬ d < 28 ∧ ((1 : Int) == d + 1) = false ∧ (y + 1 == y) = false) ∧ ((M < 12 ∧ M % 12 = M ∧ M' = M + 1 ∧ y' = y) ∨ (M = 12 ∧ M' = 1 ∧ y' = y + 1)))) := by
        rcases Dy.next_cases hi (by omega) with ⟨-, h1⟩ | ⟨h2, h3, h1⟩ | ⟨h2, h3, h1⟩
        · exact ⟨_, _, _, h1, Or.inl ⟨rfl, hM.symm, rfl⟩⟩
        · exact ⟨_, _, _, h1, Or.inr ⟨rfl, ⟨by omega, by simp; omega, by simp; omega⟩, Or.inl ⟨by omega, by omega, by omega, rfl⟩⟩⟩
        · exact ⟨_, _, _, h1, Or.inr ⟨rfl, ⟨by omega, by simp; omega, by simp; omega⟩, Or.inr ⟨by omega, by omega, rfl⟩⟩⟩
      rw [← hM] at HI
      have HI' := Lib.hid hi'
      obtain ⟨l, hl⟩ : ∃ l : ByteArray, Dy.Text T l.data.toList := ⟨⟨(Dy.txt y.toNat m d.toNat).toArray⟩, y, d, m, hi, rfl⟩
      have hls := text_size hl
      have HL := Lib.hid hl
      have y0 := hi.1.1
      have dd : 1 ≤ d ∧ d ≤ 31 := ⟨hi.1.2.2.2.2.1, by have := hi.1.2.2.2.2.2; simp only [Int.toNat_natCast] at this; omega⟩
      obtain ⟨d0, d1⟩ := dd
      have M0 : 1 ≤ M := by omega
      have M1 : M ≤ 12 := by omega
      have y2 := Dy.is_y hi (by omega)
      clear hl hi hi' hM gl g1 g2
      rcases hc with ⟨rfl, rfl, rfl⟩ | ⟨rfl, ⟨hd, hne, hyy⟩, ⟨hm, hmod, rfl, rfl⟩ | ⟨rfl, rfl, rfl⟩⟩
      all_goals
        go_wp2_with fail
        refine (parts_isZ T _ _ _ _ hw3 hT0 (by omega) HI.out).mono ?_
        rintro e w4 ⟨rfl, hb4⟩
        have hw4 := hw3.below hb4
        go_wp2_with fail
        refine (parts_isZ (T + 1) _ _ _ _ hw4 (by omega) (by omega) HI'.out).mono ?_
        rintro e w5 ⟨rfl, hb5⟩
        have hw5 := hw4.below hb5
        go_wp2_with fail
        refine (of_isZ T _ _ _ _ hw5 (by omega) HI.out).mono ?_
        rintro e w6 ⟨rfl, hb6⟩
        have hw6 := hw5.below hb6
        go_wp2_with fail
        refine (day_print_is T l _ hw6 hT0 (by omega) HL.out).mono ?_
        rintro e w7 ⟨rfl, hb7⟩
        have hw7 := hw6.below hb7
        go_wp2_with fail
        refine (day_parse_yes T l _ hw7 hT0 (by omega) HL.out).mono ?_
        rintro e w8 ⟨rfl, hb8⟩
        have hb18 : Below w.heap.size w w8 := ((((hb13.step hb4).step hb5).step hb6).step hb7).step hb8
        go_wp2_with fail
        all_goals go_ret
        all_goals first
          | exact ⟨rfl, hb18⟩
          | exact ⟨congrArg (fun b => Ending.returned (Value.bool b)) (decide_eq_true (by omega) : decide (y + 1 - y ≤ 1) = true), hb18⟩
end Go.Proofs.YtlmlgkplpaaepaaDoor
