/- day.Month, day.Last, tallymankeep.dated: what they hand back. -/
import Derived.Test.YtlmlgkplpaaepaaDoorDayR
import Derived.Test.YtlmlgkplpaaepaaDoorDayN
namespace Go.Proofs.YtlmlgkplpaaepaaDoor
open Go.RowKit

set_option maxHeartbeats 400000 in
theorem month_is (n y d : Int) (m : Nat) (w : World) (hw : DW w) (h0 : 0 ≤ n) (h1 : n ≤ 99999) (hi : Dy.Is n y m d) :
    Calls Tryd.prog 21 #[.int .i64 n] w (Gives (.tuple #[.int .i64 (Dy.mo y m), .nilIface]) w) := by
  have b := hi.1
  obtain ⟨b1, b2, b3, b4, -, -⟩ := b
  have HI := Lib.hid hi
  clear hi
  go_enter Tryd.func21, Tryd.ntmps21
  go_wp2_with fail
  refine (parts_ok n _ hw h0 h1).mono ?_
  rintro e w1 ⟨y', d', m', hi', rfl, q, rfl⟩
  obtain ⟨e1, e2, -⟩ := Dy.is_uniq hi' HI.out
  have e2' : m' = m := by omega
  subst e1 e2'
  clear hi'
  go_wp2_with fail
  go_ret2
  exact ⟨by unfold Dy.mo; rfl, below_drewN (Below.refl _ _) q⟩

set_option maxHeartbeats 800000 in
theorem last_is (y : Int) (m : Nat) (w : World) (hw : DW w) (h1 : 1900 ≤ y) (h3 : 1 ≤ m) (h4 : m ≤ 12) (h : Dy.mo y m < 3285) :
    Calls Tryd.prog 20 #[.int .i64 (Dy.mo y m)] w (Gives (.tuple #[.int .i64 (Dy.num y m 1 + Dy.len y m - 1), .nilIface]) w) := by
  have ht := Dy.month_top y m h1 h3 h4 h
  have hl := Dy.len_pos y m h3 h4
  have hok : Dy.Ok y m 1 := ⟨h1, by unfold Dy.mo at h; omega, by omega, by omega, by omega, by simp only [Int.toNat_natCast]; omega⟩
  have hn := Dy.num_bd hok
  have hof : Dy.ofN y m 1 = some (Dy.num y m 1) := Dy.ofN_is ⟨hok, rfl⟩ (by omega)
  obtain ⟨N, hN⟩ : ∃ N, N = Dy.num y m 1 := ⟨_, rfl⟩
  obtain ⟨L, hL⟩ : ∃ L, L = Dy.len y m := ⟨_, rfl⟩
  rw [← hN] at hof ht hn ⊢
  have HO : Hid (∀ w1, DW w1 → Calls Tryd.prog 19 #[.int .i64 y, .int .i64 m, .int .i64 1] w1 (Draws (.tuple #[.int .i64 N, .nilIface]) w1)) := Lib.hid (fun w1 hw1 => by have := of_any y m 1 w1 hw1; rw [hof] at this; exact this)
  have HL : Hid (∀ w1, DW w1 → Calls Tryd.prog 48 #[.int .i64 y, .int .i64 m] w1 (Draws (.int .i64 L) w1)) := Lib.hid (fun w1 hw1 => by rw [hL]; exact length_any y m w1 hw1 (by omega) (by unfold Dy.mo at h; omega) h3 h4)
  rw [← hL] at ht hl ⊢
  obtain ⟨M, hM⟩ : ∃ M, M = Dy.mo y m := ⟨_, rfl⟩
  have hM2 : M = (y - 1900) * 12 + m - 1 := hM
  rw [← hM] at h ⊢
  have q1 : M / 12 = y - 1900 := by omega
  have q2 : M % 12 = m - 1 := by omega
  have q3 : 0 ≤ M := by omega
  clear hN hL hof hok hM hM2
  have hy : 1900 + (y - 1900) = y := by omega
  have hmm : (m : Int) - 1 + 1 = m := by omega
  have c1 : ¬ M < 0 := by omega
  have c2 : ¬ 3600 < M := by omega
  have c3 : min (N + L - 1) 99999 = N + L - 1 := by omega
  go_enter Tryd.func20, Tryd.ntmps20
  go_wp2_with fail
  refine (HO.out _ hw).mono ?_
  rintro e w1 ⟨rfl, k1, rfl⟩
  go_wp2_with fail
  refine (HL.out _ (hw.drew _)).mono ?_
  rintro e w2 ⟨rfl, k2, rfl⟩
  go_wp2_with fail
  go_ret2
  exact ⟨rfl, below_drewN (Below.refl _ _) _⟩

def s2000 : ByteArray := ⟨#[50, 48, 48, 48, 45, 48, 50, 45, 50, 57]⟩
def s1900 : ByteArray := ⟨#[49, 57, 48, 48, 45, 48, 50, 45, 50, 57]⟩
theorem is_36583 : Dy.Is 36583 2000 (2 : Nat) 29 := by
  constructor
  · decide
  · decide
theorem text_2000 : Dy.Text 36583 s2000.data.toList := ⟨2000, 29, 2, is_36583, by decide⟩
theorem text_1900 (n : Int) : ¬ Dy.Text n s1900.data.toList := by
  intro h
  obtain ⟨Y, m, D, hi, e1, e2, e3⟩ := Dy.text_back h
  rw [show Lib.atoi (s1900.data.toList.take 4) = some 1900 from by decide] at e1
  rw [show Lib.atoi ((s1900.data.toList.drop 5).take 2) = some 2 from by decide] at e2
  rw [show Lib.atoi (s1900.data.toList.drop 8) = some 29 from by decide] at e3
  have a1 : (Y : Int) = 1900 := by simpa using e1.symm
  have a2 : m = 2 := by have := Option.some.inj e2; omega
  have a3 : (D : Int) = 29 := by simpa using e3.symm
  have b := hi.1.2.2.2.2.2
  rw [a1, a2, a3] at b
  exact absurd b (by decide)

set_option maxHeartbeats 400000 in
theorem dated_any (w : World) (hw : DW w) : Calls Tryd.prog 14 #[] w (Gives (.bool true) w) := by
  go_enter Tryd.func14, Tryd.ntmps14
  go_wp2_with fail
  refine (day_parse_yes 36583 s2000 _ hw (by omega) (by omega) text_2000).mono ?_
  rintro e w1 ⟨rfl, hb1⟩
  have hw1 := hw.below hb1
  go_wp2_with fail
  refine (day_parse_no s1900 _ hw1 (fun n _ _ => text_1900 n)).mono ?_
  rintro e w2 ⟨rfl, hb2⟩
  have hw2 := hw1.below hb2
  go_wp2_with fail
  refine (month_is 36583 2000 29 2 _ hw2 (by omega) (by omega) is_36583).mono ?_
  rintro e w3 ⟨rfl, hb3⟩
  have hm : Dy.mo 2000 (2 : Nat) = 1201 := by decide
  rw [hm]
  go_wp2_with fail
  go_ret
  exact ⟨rfl, (hb1.step hb2).step hb3⟩
end Go.Proofs.YtlmlgkplpaaepaaDoor
