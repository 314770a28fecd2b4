/- tallymanref.Parts: what it hands back. -/
import Derived.Test.YtmkfdmbjeppndaaDoorRefO
namespace Go.Proofs.YtmkfdmbjeppndaaDoor
open Go.RowKit

theorem results_tmp4r {fn : Func} {t u v x : Tmp} (h : fn.results = #[.tmp t, .tmp u, .tmp v, .tmp x]) (tmps : Array Value) (P : Program) (w : World) :
    (results fn tmps).run P w = .ok (.tuple #[tmps.getD t undef, tmps.getD u undef, tmps.getD v undef, tmps.getD x undef]) w := by
  simp [results, h]

set_option maxHeartbeats 400000 in
theorem refParts_bad (n : Int) (w : World) (h : n < 0 ∨ 99999 < n) :
    Calls Tryd.prog 17 #[.int .i64 n] w (Same (.tuple #[.int .i64 0, .int .i64 0, .int .i64 0, .int .i64 1]) w) := by
  have H := Lib.hid h
  clear h
  go_enter Tryd.func17, Tryd.ntmps17
  go_wp2_with fail
  refine (in_no n _ _ _ H.out).mono ?_
  rintro e w1 ⟨rfl, rfl⟩
  go_wp2_with fail
  (try simp only [Exit.inBlock, Exit.then]); refine bodyPost_ret (results_tmp4r rfl _ _ _) rfl ?_
  exact ⟨rfl, rfl⟩

theorem Dy.cum_num (j : Nat) (b : Int) : Dy.num (1900 + (j : Int) / 12) (((j % 12 + 1 : Nat) : Int)) (b + 1) = b + Dy.cum j := by
  unfold Dy.num Dy.cum
  rw [Int.toNat_natCast]
  omega

set_option maxHeartbeats 800000 in
theorem refParts_ok (n : Int) (w : World) (h0 : 0 ≤ n) (h1 : n ≤ 99999) :
    Calls Tryd.prog 17 #[.int .i64 n] w (fun e w' => ∃ (y d : Int) (m : Nat), Dy.Is n y m d ∧ e = .returned (.tuple #[.int .i64 y, .int .i64 m, .int .i64 d, .int .i64 0]) ∧ w = w') := by
  have H0 := Lib.hid h0
  have H1 := Lib.hid h1
  go_enter Tryd.func17, Tryd.ntmps17
  go_wp2_with fail
  refine (in_yes n _ _ _ h0 h1).mono ?_
  rintro e w1 ⟨rfl, rfl⟩
  go_wp2_with fail
  go_loop [0, 6] (fun a k => ∃ (j : Nat) (b : Int), j ≤ 3600 ∧ k = .int .i64 j ∧ a = .int .i64 b ∧ 0 ≤ b ∧ b ≤ 99999 ∧ Hid (b + Dy.cum j = n)) (fun a _ => (intOf a).toNat)
  case atStart => exact ⟨0, n, by omega, rfl, rfl, h0, h1, Lib.hid (by rw [Dy.cum_zero]; omega)⟩
  case round =>
    obtain ⟨j, b, hj, rfl, rfl, hb0, hb1, hb⟩ := hrel
    obtain ⟨Y, hY⟩ : ∃ Y, Y = 1900 + (j : Int) / 12 := ⟨_, rfl⟩
    obtain ⟨m, hm⟩ : ∃ m : Nat, m = j % 12 + 1 := ⟨_, rfl⟩
    have hmi : (j : Int) % 12 + 1 = m := by omega
    have hY0 : 0 ≤ Y ∧ Y ≤ 3000 := by omega
    have hm0 : 1 ≤ m ∧ m ≤ 12 := by omega
    have hl2 := Dy.len_pos Y m hm0.1 hm0.2
    have HC : Hid (Dy.cum (j + 1) = Dy.cum j + Dy.len Y m) := Lib.hid (by rw [Dy.cum_succ, hY, hm])
    have hcall : Hid (∀ w1, Calls Tryd.prog 34 #[.int .i64 (1900 + (j : Int) / 12), .int .i64 ((j : Int) % 12 + 1)] w1 (Same (.int .i64 (Dy.len Y m)) w1)) := Lib.hid (fun w1 => by rw [← hY, hmi]; exact days_any Y m w1 hY0.1 hY0.2 hm0.1 hm0.2)
    have hYb : Hid (Dy.ys Y ≤ 99999) := Lib.hid (by
      have a := hb.out
      have c := Dy.ms_le Y m (by omega)
      unfold Dy.cum at a
      rw [← hY, ← hm] at a
      have := H1.out
      omega)
    have hY9 : Y ≤ 2180 := Dy.ys_bd Y (by omega) hYb.out
    have HIS : Hid (b < Dy.len Y m → Dy.Is n Y m (b + 1)) := Lib.hid (fun hlt => by
      refine ⟨⟨by omega, by omega, by omega, by omega, by omega, by rw [Int.toNat_natCast]; omega⟩, ?_⟩
      rw [hY, hm, Dy.cum_num j b]
      exact hb.out)
    have HY := Lib.hid hY
    have HMI := Lib.hid hmi
    generalize Dy.len Y m = L at hl2 HC hcall HIS
    by_cases hlt : b < L
    · clear hY hm hmi hYb
      go_wp2_with fail
      refine (hcall.out _).mono ?_
      rintro e w1 ⟨rfl, rfl⟩
      go_wp2_with fail
      (try simp only [Exit.inBlock, Exit.then]); refine bodyPost_ret (results_tmp4r rfl _ _ _) rfl ?_
      exact ⟨Y, b + 1, m, HIS.out hlt, by rw [HY.out, ← HMI.out]; rfl, rfl⟩
    · have hj2 : j + 1 ≤ 3600 := by omega
      clear hY hm hmi hYb
      go_wp2_with fail
      refine (hcall.out _).mono ?_
      rintro e w1 ⟨rfl, rfl⟩
      go_wp2_with fail
      refine (hcall.out _).mono ?_
      rintro e w1 ⟨rfl, rfl⟩
      go_wp2_with fail
      go_round
      case rel => exact ⟨j + 1, b - L, by omega, by go_num, rfl, by omega, by omega, Lib.hid (by rw [HC.out, ← hb.out]; omega)⟩
      case measure => simp [intOf]; omega
end Go.Proofs.YtmkfdmbjeppndaaDoor
