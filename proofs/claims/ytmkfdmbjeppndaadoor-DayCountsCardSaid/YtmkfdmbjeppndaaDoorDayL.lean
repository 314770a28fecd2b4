/- day.Last at every number: what it hands back. -/
import Derived.Test.YtmkfdmbjeppndaaDoorDayO
import Derived.Test.YtmkfdmbjeppndaaDoorRefQ
namespace Go.Proofs.YtmkfdmbjeppndaaDoor
open Go.RowKit

set_option maxHeartbeats 800000 in
theorem last_any (M : Int) (w : World) (hw : DW w) :
    Calls Tryd.prog 22 #[.int .i64 M] w (Draws (okVal (Dy.lastN M)) w) := by
  by_cases hM : 0 ≤ M ∧ M ≤ 3600
  · obtain ⟨Y, hY⟩ : ∃ Y, Y = 1900 + M / 12 := ⟨_, rfl⟩
    obtain ⟨m, hm⟩ : ∃ m : Nat, (m : Int) = M % 12 + 1 := ⟨(M % 12 + 1).toNat, by omega⟩
    have hY0 : 0 ≤ Y ∧ Y ≤ 3000 := by omega
    have hm0 : 1 ≤ m ∧ m ≤ 12 := by omega
    have hl2 := Dy.len_pos Y m hm0.1 hm0.2
    have HD : Hid (∀ w1, DW w1 → Calls Tryd.prog 35 #[.int .i64 (1900 + M / 12), .int .i64 (M % 12 + 1)] w1 (Draws (.int .i64 (Dy.len Y m)) w1)) := Lib.hid (fun w1 h1 => by rw [← hY, ← hm]; exact length_any Y m w1 h1 hY0.1 hY0.2 hm0.1 hm0.2)
    have HO : Hid (∀ w1, DW w1 → Calls Tryd.prog 16 #[.int .i64 (1900 + M / 12), .int .i64 (M % 12 + 1), .int .i64 1] w1 (Draws (okVal (Dy.ofN Y m 1)) w1)) := Lib.hid (fun w1 h1 => by rw [← hY, ← hm]; exact of_any Y m 1 w1 h1)
    have HL : Hid (Dy.lastN M = match Dy.ofN Y m 1 with
      | some n => some (min (n + Dy.len Y m - 1) 99999)
      | none => none) := Lib.hid (by unfold Dy.lastN; rw [if_pos hM, ← hY, ← hm, Int.toNat_natCast]; rfl)
    obtain ⟨m0, m1⟩ := hM
    clear hY hm hY0 hm0
    rcases ho : Dy.ofN Y m 1 with _ | n
    · rw [ho] at HL HO
      have HO2 : Hid (∀ w1, DW w1 → Calls Tryd.prog 16 #[.int .i64 (1900 + M / 12), .int .i64 (M % 12 + 1), .int .i64 1] w1 (Draws (.tuple #[.int .i64 0, .iface 23 (.int .i64 1)]) w1)) := HO
      rw [HL.out]
      show Calls Tryd.prog 22 #[.int .i64 M] w (Draws (.tuple #[.int .i64 0, .iface 23 (.int .i64 1)]) w)
      clear ho HL HO
      go_enter Tryd.func22, Tryd.ntmps22
      go_wp2_with fail
      refine (HO2.out _ hw).mono ?_
      rintro e w1 ⟨rfl, q, rfl⟩
      go_wp2_with fail
      go_ret2
      exact ⟨rfl, q, rfl⟩
    · obtain ⟨-, n0, n1⟩ := Dy.ofN_some ho
      rw [ho] at HL HO
      have HO2 : Hid (∀ w1, DW w1 → Calls Tryd.prog 16 #[.int .i64 (1900 + M / 12), .int .i64 (M % 12 + 1), .int .i64 1] w1 (Draws (.tuple #[.int .i64 n, .nilIface]) w1)) := HO
      rw [HL.out]
      show Calls Tryd.prog 22 #[.int .i64 M] w (Draws (.tuple #[.int .i64 (min (n + Dy.len Y m - 1) 99999), .nilIface]) w)
      clear ho HL HO
      generalize Dy.len Y m = L at hl2 HD ⊢
      go_enter Tryd.func22, Tryd.ntmps22
      go_wp2_with fail
      refine (HO2.out _ hw).mono ?_
      rintro e w1 ⟨rfl, q, rfl⟩
      go_wp2_with fail
      refine (HD.out _ (hw.drew _)).mono ?_
      rintro e w1 ⟨rfl, q2, rfl⟩
      go_wp2_with fail
      go_ret2
      exact ⟨rfl, q + q2, rfl⟩
  · have e : Dy.lastN M = none := by unfold Dy.lastN; rw [if_neg hM]
    rw [e]
    show Calls Tryd.prog 22 #[.int .i64 M] w (Draws (.tuple #[.int .i64 0, .iface 23 (.int .i64 1)]) w)
    by_cases c : M < 0
    · go_enter Tryd.func22, Tryd.ntmps22
      go_wp2_with fail
      go_ret2
      exact ⟨rfl, 0, rfl⟩
    · have c2 : 3600 < M := by omega
      go_enter Tryd.func22, Tryd.ntmps22
      go_wp2_with fail
      go_ret2
      exact ⟨rfl, 0, rfl⟩
end Go.Proofs.YtmkfdmbjeppndaaDoor
