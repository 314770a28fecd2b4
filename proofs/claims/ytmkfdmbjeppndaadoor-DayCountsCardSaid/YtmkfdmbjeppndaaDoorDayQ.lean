/- day.Month, day.Last: what they hand back. -/
import Derived.Test.YtmkfdmbjeppndaaDoorDayR
import Derived.Test.YtmkfdmbjeppndaaDoorDayN
namespace Go.Proofs.YtmkfdmbjeppndaaDoor
open Go.RowKit

set_option maxHeartbeats 400000 in
theorem month_is (n y d : Int) (m : Nat) (w : World) (hw : DW w) (h0 : 0 ≤ n) (h1 : n ≤ 99999) (hi : Dy.Is n y m d) :
    Calls Tryd.prog 20 #[.int .i64 n] w (Gives (.tuple #[.int .i64 (Dy.mo y m), .nilIface]) w) := by
  have b := hi.1
  obtain ⟨b1, b2, b3, b4, -, -⟩ := b
  have HI := Lib.hid hi
  clear hi
  go_enter Tryd.func20, Tryd.ntmps20
  go_wp2_with fail
  refine (parts_ok n _ hw h0 h1).mono ?_
  rintro e w1 ⟨y', d', m', hi', rfl, q, rfl⟩
  obtain ⟨e1, e2, -⟩ := Dy.is_uniq hi' HI.out
  have e2' : m' = m := by omega
  subst e1 e2'
  clear hi'
  go_wp2_with fail
  go_ret2
  exact ⟨by unfold Dy.mo; rfl, below_drewN (Below.refl _ _) q⟩

set_option maxHeartbeats 800000 in
theorem last_is (y : Int) (m : Nat) (w : World) (hw : DW w) (h1 : 1900 ≤ y) (h3 : 1 ≤ m) (h4 : m ≤ 12) (h : Dy.mo y m < 3285) :
    Calls Tryd.prog 22 #[.int .i64 (Dy.mo y m)] w (Gives (.tuple #[.int .i64 (Dy.num y m 1 + Dy.len y m - 1), .nilIface]) w) := by
  have ht := Dy.month_top y m h1 h3 h4 h
  have hl := Dy.len_pos y m h3 h4
  have hok : Dy.Ok y m 1 := ⟨h1, by unfold Dy.mo at h; omega, by omega, by omega, by omega, by simp only [Int.toNat_natCast]; omega⟩
  have hn := Dy.num_bd hok
  have hof : Dy.ofN y m 1 = some (Dy.num y m 1) := Dy.ofN_is ⟨hok, rfl⟩ (by omega)
  obtain ⟨N, hN⟩ : ∃ N, N = Dy.num y m 1 := ⟨_, rfl⟩
  obtain ⟨L, hL⟩ : ∃ L, L = Dy.len y m := ⟨_, rfl⟩
  rw [← hN] at hof ht hn ⊢
  have HO : Hid (∀ w1, DW w1 → Calls Tryd.prog 16 #[.int .i64 y, .int .i64 m, .int .i64 1] w1 (Draws (.tuple #[.int .i64 N, .nilIface]) w1)) := Lib.hid (fun w1 hw1 => by have := of_any y m 1 w1 hw1; rw [hof] at this; exact this)
  have HL : Hid (∀ w1, DW w1 → Calls Tryd.prog 35 #[.int .i64 y, .int .i64 m] w1 (Draws (.int .i64 L) w1)) := Lib.hid (fun w1 hw1 => by rw [hL]; exact length_any y m w1 hw1 (by omega) (by unfold Dy.mo at h; omega) h3 h4)
  rw [← hL] at ht hl ⊢
  obtain ⟨M, hM⟩ : ∃ M, M = Dy.mo y m := ⟨_, rfl⟩
  have hM2 : M = (y - 1900) * 12 + m - 1 := hM
  rw [← hM] at h ⊢
  have q1 : M / 12 = y - 1900 := by omega
  have q2 : M % 12 = m - 1 := by omega
  have q3 : 0 ≤ M := by omega
  clear hN hL hof hok hM hM2
  have hy : 1900 + (y - 1900) = y := by omega
  have hmm : (m : Int) - 1 + 1 = m := by omega
  have c1 : ¬ M < 0 := by omega
  have c2 : ¬ 3600 < M := by omega
  have c3 : min (N + L - 1) 99999 = N + L - 1 := by omega
  go_enter Tryd.func22, Tryd.ntmps22
  go_wp2_with fail
  refine (HO.out _ hw).mono ?_
  rintro e w1 ⟨rfl, k1, rfl⟩
  go_wp2_with fail
  refine (HL.out _ (hw.drew _)).mono ?_
  rintro e w2 ⟨rfl, k2, rfl⟩
  go_wp2_with fail
  go_ret2
  exact ⟨rfl, below_drewN (Below.refl _ _) _⟩

end Go.Proofs.YtmkfdmbjeppndaaDoor
