/- tallymanref.Month, Last: what they hand back. -/
import Derived.Test.YtmkfdmbjeppndaaDoorRefP
namespace Go.Proofs.YtmkfdmbjeppndaaDoor
open Go.RowKit

namespace Dy
/-- The last day of a month, counted from 1900-01, as the document tells. -/
def lastN (month : Int) : Option Int :=
  if 0 ≤ month ∧ month ≤ 3600 then
    match ofN (1900 + month / 12) (month % 12 + 1) 1 with
    | some n => some (min (n + len (1900 + month / 12) (month % 12 + 1).toNat - 1) 99999)
    | none => none
  else none
end Dy

set_option maxHeartbeats 400000 in
theorem refMonth_bad (n : Int) (w : World) (h : n < 0 ∨ 99999 < n) :
    Calls Tryd.prog 19 #[.int .i64 n] w (Same (refV none) w) := by
  have H := Lib.hid h
  clear h
  go_enter Tryd.func19, Tryd.ntmps19
  go_wp2_with fail
  refine (refParts_bad n _ H.out).mono ?_
  rintro e w1 ⟨rfl, rfl⟩
  go_wp2_with fail
  go_ret2
  exact ⟨rfl, rfl⟩

set_option maxHeartbeats 400000 in
theorem refMonth_is (n y d : Int) (m : Nat) (w : World) (h0 : 0 ≤ n) (h1 : n ≤ 99999) (hi : Dy.Is n y m d) :
    Calls Tryd.prog 19 #[.int .i64 n] w (Same (refV (some (Dy.mo y m))) w) := by
  obtain ⟨b1, b2, b3, b4, -, -⟩ := hi.1
  have HI := Lib.hid hi
  clear hi
  obtain ⟨M, hM⟩ : ∃ M, M = Dy.mo y m := ⟨_, rfl⟩
  rw [← hM]
  have hM2 : 12 * y + m - 22800 - 1 = M := by rw [hM]; unfold Dy.mo; omega
  clear hM
  have HM := Lib.hid hM2
  go_enter Tryd.func19, Tryd.ntmps19
  go_wp2_with fail
  refine (refParts_ok n _ h0 h1).mono ?_
  rintro e w1 ⟨y', d', m', hi', rfl, rfl⟩
  obtain ⟨e1, e2, -⟩ := Dy.is_uniq hi' HI.out
  have e2' : m' = m := by omega
  subst e1 e2'
  clear hi'
  go_wp2_with fail
  go_ret2
  first
    | exact ⟨rfl, rfl⟩
    | exact ⟨congrArg (fun x => Ending.returned (refV (some x))) HM.out, rfl⟩

set_option maxHeartbeats 800000 in
theorem refLast_any (M : Int) (w : World) :
    Calls Tryd.prog 21 #[.int .i64 M] w (Same (refV (Dy.lastN M)) w) := by
  by_cases hM : 0 ≤ M ∧ M ≤ 3600
  · obtain ⟨Y, hY⟩ : ∃ Y, Y = 1900 + M / 12 := ⟨_, rfl⟩
    obtain ⟨m, hm⟩ : ∃ m : Nat, (m : Int) = M % 12 + 1 := ⟨(M % 12 + 1).toNat, by omega⟩
    have hY0 : 0 ≤ Y ∧ Y ≤ 3000 := by omega
    have hm0 : 1 ≤ m ∧ m ≤ 12 := by omega
    have hl2 := Dy.len_pos Y m hm0.1 hm0.2
    have HD : Hid (∀ w1, Calls Tryd.prog 34 #[.int .i64 (1900 + M / 12), .int .i64 (M % 12 + 1)] w1 (Same (.int .i64 (Dy.len Y m)) w1)) := Lib.hid (fun w1 => by rw [← hY, ← hm]; exact days_any Y m w1 hY0.1 hY0.2 hm0.1 hm0.2)
    have HO : Hid (∀ w1, Calls Tryd.prog 15 #[.int .i64 (1900 + M / 12), .int .i64 (M % 12 + 1), .int .i64 1] w1 (Same (refV (Dy.ofN Y m 1)) w1)) := Lib.hid (fun w1 => by rw [← hY, ← hm]; exact refDay_any Y m 1 w1)
    have HL : Hid (Dy.lastN M = match Dy.ofN Y m 1 with
      | some n => some (min (n + Dy.len Y m - 1) 99999)
      | none => none) := Lib.hid (by unfold Dy.lastN; rw [if_pos hM, ← hY, ← hm, Int.toNat_natCast])
    have HM := Lib.hid hM
    obtain ⟨m0, m1⟩ := hM
    clear hY hm hY0 hm0
    rcases ho : Dy.ofN Y m 1 with _ | n
    · rw [ho] at HL HO
      rw [HL.out]
      show Calls Tryd.prog 21 #[.int .i64 M] w (Same (.tuple #[.int .i64 0, .int .i64 1]) w)
      clear ho HL
      go_enter Tryd.func21, Tryd.ntmps21
      go_wp2_with fail
      refine (in_yes M _ _ _ HM.out.1 HM.out.2).mono ?_
      rintro e w1 ⟨rfl, rfl⟩
      go_wp2_with fail
      refine (HO.out _).mono ?_
      rintro e w1 ⟨rfl, rfl⟩
      unfold refV
      go_wp2_with fail
      go_ret2
      exact ⟨rfl, rfl⟩
    · obtain ⟨-, n0, n1⟩ := Dy.ofN_some ho
      rw [ho] at HL HO
      have HO2 : Hid (∀ w1, Calls Tryd.prog 15 #[.int .i64 (1900 + M / 12), .int .i64 (M % 12 + 1), .int .i64 1] w1 (Same (.tuple #[.int .i64 n, .int .i64 0]) w1)) := HO
      rw [HL.out]
      show Calls Tryd.prog 21 #[.int .i64 M] w (Same (.tuple #[.int .i64 (min (n + Dy.len Y m - 1) 99999), .int .i64 0]) w)
      clear ho HL HO
      generalize Dy.len Y m = L at hl2 HD ⊢
      by_cases hc : 99999 < n + L - 1
      · rw [show min (n + L - 1) 99999 = 99999 by omega]
        go_enter Tryd.func21, Tryd.ntmps21
        go_wp2_with fail
        refine (in_yes M _ _ _ HM.out.1 HM.out.2).mono ?_
        rintro e w1 ⟨rfl, rfl⟩
        go_wp2_with fail
        refine (HO2.out _).mono ?_
        rintro e w1 ⟨rfl, rfl⟩
        go_wp2_with fail
        refine (HD.out _).mono ?_
        rintro e w1 ⟨rfl, rfl⟩
        go_wp2_with fail
        go_ret2
        exact ⟨rfl, rfl⟩
      · rw [show min (n + L - 1) 99999 = n + (L - 1) by omega]
        go_enter Tryd.func21, Tryd.ntmps21
        go_wp2_with fail
        refine (in_yes M _ _ _ HM.out.1 HM.out.2).mono ?_
        rintro e w1 ⟨rfl, rfl⟩
        go_wp2_with fail
        refine (HO2.out _).mono ?_
        rintro e w1 ⟨rfl, rfl⟩
        go_wp2_with fail
        refine (HD.out _).mono ?_
        rintro e w1 ⟨rfl, rfl⟩
        go_wp2_with fail
        go_ret2
        exact ⟨rfl, rfl⟩
  · have e : Dy.lastN M = none := by unfold Dy.lastN; rw [if_neg hM]
    rw [e]
    have HM : Hid (M < 0 ∨ 3600 < M) := Lib.hid (by omega)
    clear hM e
    go_enter Tryd.func21, Tryd.ntmps21
    go_wp2_with fail
    refine (in_no M _ _ _ HM.out).mono ?_
    rintro e w1 ⟨rfl, rfl⟩
    go_wp2_with fail
    go_ret2
    exact ⟨rfl, rfl⟩
end Go.Proofs.YtmkfdmbjeppndaaDoor
