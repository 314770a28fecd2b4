/- tallymanref.Day: what it hands back. -/
import Derived.Test.YtjmeefmofbpbnaaGreatDoorRefM
namespace Go.Proofs.YtjmeefmofbpbnaaGreatDoor
open Go.RowKit

namespace Dy
/-- The days ahead of a month, counted from 1900-01. -/
def cum (k : Nat) : Int := ys (1900 + (k : Int) / 12) + ms (1900 + (k : Int) / 12) (k % 12 + 1)
theorem cum_zero : cum 0 = 0 := by decide
theorem cum_succ (k : Nat) : cum (k + 1) = cum k + len (1900 + (k : Int) / 12) (k % 12 + 1) := by
  unfold cum
  by_cases h : k % 12 = 11
  · rw [show (((k + 1 : Nat)) : Int) / 12 = (k : Int) / 12 + 1 by omega, show (k + 1) % 12 = 0 by omega, h]
    have a1 := ms_succ (1900 + (k : Int) / 12) 12 (by omega)
    have a2 := ms_13 (1900 + (k : Int) / 12)
    have a3 := ys_succ (1900 + (k : Int) / 12)
    rw [show 12 + 1 = 13 from rfl] at a1
    rw [show 1900 + ((k : Int) / 12 + 1) = 1900 + (k : Int) / 12 + 1 by omega, a3, show 0 + 1 = 1 from rfl, ms_one, show 11 + 1 = 12 from rfl]
    omega
  · rw [show (((k + 1 : Nat)) : Int) / 12 = (k : Int) / 12 by omega, show (k + 1) % 12 = k % 12 + 1 by omega, ms_succ _ (k % 12 + 1) (by omega)]
    omega
theorem cum_is (y : Int) (m k : Nat) (_ : 1900 ≤ y) (h2 : 1 ≤ m) (h3 : m ≤ 12) (hk : (k : Int) = (y - 1900) * 12 + m - 1) : cum k = ys y + ms y m := by
  unfold cum
  rw [show 1900 + (k : Int) / 12 = y by omega, show k % 12 + 1 = m by omega]
theorem cum_bd (k : Nat) : 0 ≤ cum k ∧ cum k ≤ 31 * k := by
  induction k with
  | zero => rw [cum_zero]; omega
  | succ k ih =>
    have := len_pos (1900 + (k : Int) / 12) (k % 12 + 1) (by omega) (by omega)
    rw [cum_succ]
    omega
end Dy

def refV (o : Option Int) : Value := match o with
  | some n => .tuple #[.int .i64 n, .int .i64 0]
  | none => .tuple #[.int .i64 0, .int .i64 1]

set_option maxHeartbeats 400000 in
theorem refDay_bad (y m d : Int) (w : World) (h : ¬ Dy.Ok y m d) :
    Calls Tryz.prog 51 #[.int .i64 y, .int .i64 m, .int .i64 d] w (Same (refV none) w) := by
  by_cases c1 : 1900 ≤ y ∧ y ≤ 2200
  · by_cases c2 : 1 ≤ m ∧ m ≤ 12
    · obtain ⟨M, rfl⟩ : ∃ M : Nat, m = M := ⟨m.toNat, by omega⟩
      have c3 : Hid (d < 1 ∨ Dy.len y M < d) := Lib.hid (by
        apply Classical.byContradiction
        intro hc
        exact h ⟨by omega, by omega, by omega, by omega, by omega, by simp only [Int.toNat_natCast]; omega⟩)
      have hy : Hid (0 ≤ y ∧ y ≤ 3000 ∧ 1 ≤ M ∧ M ≤ 12) := Lib.hid ⟨by omega, by omega, by omega, by omega⟩
      have C1 := Lib.hid c1
      have C2 := Lib.hid c2
      clear h c1 c2
      go_enter Tryz.func51, Tryz.ntmps51
      go_wp2_with fail
      refine (in_yes y _ _ _ C1.out.1 C1.out.2).mono ?_
      rintro e w1 ⟨rfl, rfl⟩
      go_wp2_with fail
      refine (in_yes _ _ _ _ C2.out.1 C2.out.2).mono ?_
      rintro e w1 ⟨rfl, rfl⟩
      go_wp2_with fail
      refine (days_any y M _ hy.out.1 hy.out.2.1 hy.out.2.2.1 hy.out.2.2.2).mono ?_
      rintro e w1 ⟨rfl, rfl⟩
      go_wp2_with fail
      refine (in_no d _ _ _ c3.out).mono ?_
      rintro e w1 ⟨rfl, rfl⟩
      go_wp2_with fail
      go_ret2
      exact ⟨rfl, rfl⟩
    · have C1 := Lib.hid c1
      have C2 : Hid (m < 1 ∨ 12 < m) := Lib.hid (by omega)
      clear h c1 c2
      go_enter Tryz.func51, Tryz.ntmps51
      go_wp2_with fail
      refine (in_yes y _ _ _ C1.out.1 C1.out.2).mono ?_
      rintro e w1 ⟨rfl, rfl⟩
      go_wp2_with fail
      refine (in_no m _ _ _ C2.out).mono ?_
      rintro e w1 ⟨rfl, rfl⟩
      go_wp2_with fail
      go_ret2
      exact ⟨rfl, rfl⟩
  · have C1 : Hid (y < 1900 ∨ 2200 < y) := Lib.hid (by omega)
    clear h c1
    go_enter Tryz.func51, Tryz.ntmps51
    go_wp2_with fail
    refine (in_no y _ _ _ C1.out).mono ?_
    rintro e w1 ⟨rfl, rfl⟩
    go_wp2_with fail
    go_ret2
    exact ⟨rfl, rfl⟩

set_option maxHeartbeats 800000 in
theorem refDay_good (y d : Int) (M : Nat) (w : World) (h : Dy.Ok y M d) :
    Calls Tryz.prog 51 #[.int .i64 y, .int .i64 M, .int .i64 d] w (Same (refV (Dy.ofN y M d)) w) := by
  obtain ⟨v, hv⟩ : ∃ v, v = refV (Dy.ofN y M d) := ⟨_, rfl⟩
  rw [← hv]
  obtain ⟨h1, h2, h3, h4, h5, h6⟩ := h
  rw [Int.toNat_natCast] at h6
  have hok : Dy.Ok y M d := ⟨h1, h2, h3, h4, h5, by rw [Int.toNat_natCast]; exact h6⟩
  have hl := Dy.len_pos y M (by omega) (by omega)
  obtain ⟨K, hK⟩ : ∃ K : Nat, (K : Int) = (y - 1900) * 12 + M - 1 := ⟨((y - 1900) * 12 + M - 1).toNat, by omega⟩
  have hK2 : K ≤ 3700 := by omega
  have hcum := Dy.cum_is y M K h1 (by omega) (by omega) hK
  have HV : Hid (v = refV (if d - 1 + Dy.cum K ≤ 99999 then some (d - 1 + Dy.cum K) else none)) := Lib.hid (by
    have e : Dy.num y M d = d - 1 + Dy.cum K := by rw [hcum]; unfold Dy.num; rw [Int.toNat_natCast]; omega
    rw [hv]; unfold Dy.ofN; rw [e]
    by_cases hc : d - 1 + Dy.cum K ≤ 99999
    · rw [if_pos ⟨hok, hc⟩, if_pos hc]
    · rw [if_neg (fun k => hc k.2), if_neg hc])
  have H6 : Hid (1 ≤ d ∧ d ≤ Dy.len y M) := Lib.hid ⟨h5, h6⟩
  have HY : Hid (1900 ≤ y ∧ y ≤ 2200 ∧ (1 : Int) ≤ M ∧ (M : Int) ≤ 12) := Lib.hid ⟨h1, h2, h3, h4⟩
  have d1 : d ≤ 31 := by omega
  clear hv hcum hok h6
  go_enter Tryz.func51, Tryz.ntmps51
  go_wp2_with fail
  refine (in_yes y _ _ _ HY.out.1 HY.out.2.1).mono ?_
  rintro e w1 ⟨rfl, rfl⟩
  go_wp2_with fail
  refine (in_yes _ _ _ _ HY.out.2.2.1 HY.out.2.2.2).mono ?_
  rintro e w1 ⟨rfl, rfl⟩
  go_wp2_with fail
  refine (days_any y M _ (by omega) (by omega) (by omega) (by omega)).mono ?_
  rintro e w1 ⟨rfl, rfl⟩
  go_wp2_with fail
  refine (in_yes d _ _ _ H6.out.1 H6.out.2).mono ?_
  rintro e w1 ⟨rfl, rfl⟩
  go_wp2_with fail
  go_loop [8, 9] (fun n k => ∃ (j : Nat) (a : Int), j ≤ K ∧ k = .int .i64 j ∧ n = .int .i64 a ∧ 0 ≤ a ∧ a ≤ 40 + 31 * (j : Int) ∧ Hid (a = d - 1 + Dy.cum j)) (fun _ k => K - (intOf k).toNat)
  case atStart => exact ⟨0, d - 1, by omega, rfl, rfl, by omega, by omega, Lib.hid (by rw [Dy.cum_zero]; omega)⟩
  case round =>
    obtain ⟨j, a, hj, rfl, rfl, ha0, ha1, ha⟩ := hrel
    by_cases hlt : j < K
    · have hc : (j : Int) < (y - 1900) * 12 + M - 1 := by omega
      obtain ⟨Y, hY⟩ : ∃ Y, Y = 1900 + (j : Int) / 12 := ⟨_, rfl⟩
      obtain ⟨m, hm⟩ : ∃ m : Nat, m = j % 12 + 1 := ⟨_, rfl⟩
      have hmi : (j : Int) % 12 + 1 = m := by omega
      have hY0 : 0 ≤ Y ∧ Y ≤ 3000 := by omega
      have hm0 : 1 ≤ m ∧ m ≤ 12 := by omega
      have hl2 := Dy.len_pos Y m hm0.1 hm0.2
      have HC : Hid (Dy.cum (j + 1) = Dy.cum j + Dy.len Y m) := Lib.hid (by rw [Dy.cum_succ, hY, hm])
      have hcall : Hid (∀ w1, Calls Tryz.prog 61 #[.int .i64 (1900 + (j : Int) / 12), .int .i64 ((j : Int) % 12 + 1)] w1 (Same (.int .i64 (Dy.len Y m)) w1)) := Lib.hid (fun w1 => by rw [← hY, hmi]; exact days_any Y m w1 hY0.1 hY0.2 hm0.1 hm0.2)
      generalize Dy.len Y m = L at hl2 HC hcall
      clear hY hm hmi hY0 hm0
      go_wp2_with fail
      refine (hcall.out _).mono ?_
      rintro e w1 ⟨rfl, rfl⟩
      go_wp2_with fail
      go_round
      case rel => exact ⟨j + 1, a + L, by omega, by go_num, rfl, by omega, by omega, Lib.hid (by rw [HC.out, ha.out]; omega)⟩
      case measure => simp [intOf]; omega
    · obtain rfl : j = K := by omega
      have hc : ¬ (j : Int) < (y - 1900) * 12 + M - 1 := by omega
      have HA : Hid (v = refV (if a ≤ 99999 then some a else none)) := Lib.hid (by rw [HV.out, ← ha.out])
      by_cases h9 : a ≤ 99999
      · have HG : Hid (v = refV (some a)) := Lib.hid (by rw [HA.out, if_pos h9])
        have h9' : ¬ 99999 < a := by omega
        go_wp2_with fail
        go_ret2
        exact ⟨congrArg Ending.returned HG.out.symm, rfl⟩
      · have HG : Hid (v = refV none) := Lib.hid (by rw [HA.out, if_neg h9])
        have h9' : 99999 < a := by omega
        go_wp2_with fail
        go_ret2
        exact ⟨congrArg Ending.returned HG.out.symm, rfl⟩

theorem refDay_any (y m d : Int) (w : World) :
    Calls Tryz.prog 51 #[.int .i64 y, .int .i64 m, .int .i64 d] w (Same (refV (Dy.ofN y m d)) w) := by
  by_cases h : Dy.Ok y m d
  · obtain ⟨M, rfl⟩ : ∃ M : Nat, m = M := ⟨m.toNat, by have := h.2.2.1; omega⟩
    exact refDay_good y d M w h
  · have e : Dy.ofN y m d = none := by unfold Dy.ofN; rw [if_neg (fun hc => h hc.1)]
    rw [e]
    exact refDay_bad y m d w h
end Go.Proofs.YtjmeefmofbpbnaaGreatDoor
