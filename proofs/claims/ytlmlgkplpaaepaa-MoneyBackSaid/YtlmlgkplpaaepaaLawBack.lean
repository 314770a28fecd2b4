/- tallymankeep.MoneyBack: the walk. -/
import Derived.Test.YtlmlgkplpaaepaaCounted
import Derived.Test.YtlmlgkplpaaepaaMoneyB
namespace Go.Proofs.Ytlmlgkplpaaepaa
open Go.RowKit

theorem parse_yes (s : ByteArray) (v : Int) (w : World) (hs : s.size ≤ maxLen) (h : Mn.parse s.data.toList = some v) :
    Calls Try.prog 17 #[.string s] w (Gives (.tuple #[.int .i64 v, .nilIface]) w) := by
  refine (parse_any s w hs).mono ?_
  rintro e w' ⟨h1, hb⟩
  rw [h] at h1
  exact ⟨h1, hb⟩
theorem parse_no (s : ByteArray) (w : World) (hs : s.size ≤ maxLen) (h : Mn.parse s.data.toList = none) :
    Calls Try.prog 17 #[.string s] w (Gives (.tuple #[.int .i64 0, .iface 67 (.int .i64 3)]) w) := by
  refine (parse_any s w hs).mono ?_
  rintro e w' ⟨h1, hb⟩
  rw [h] at h1
  exact ⟨h1, hb⟩

set_option maxHeartbeats 400000 in
theorem back_walk (n : Int) (s : ByteArray) (w : World) (_ : (Lit.int .i64 n).wf = true) (hs : s.size ≤ maxLen) :
    Calls Try.prog 7 #[.int .i64 n, .string s] w (Gives (.bool true) w) := by
  have hm := hs
  unfold maxLen at hm
  by_cases h100 : 100 < s.size
  · go_enter Try.func7, Try.ntmps7
    go_wp2
    go_ret
    exact ⟨rfl, Below.refl _ _⟩
  · rcases hp : Mn.parse s.data.toList with _ | v
    · have HP := Lib.hid hp
      clear hp
      go_enter Try.func7, Try.ntmps7
      go_wp2_with fail
      refine (counted_any _).mono ?_
      rintro e w1 ⟨rfl, hb1⟩
      go_wp2_with fail
      refine (parse_no s _ hs HP.out).mono ?_
      rintro e w2 ⟨rfl, hb2⟩
      go_wp2_with fail
      refine (pick_any n 2000000000001 _ (by omega) (by omega)).mono ?_
      rintro e w' ⟨T, hT0, hT1, rfl, rfl⟩
      go_wp2_with fail
      refine (print_any _ _ (by omega) (by omega)).mono ?_
      rintro e w3 ⟨rfl, hb3⟩
      go_wp2_with fail
      refine (parse_yes _ (T - 1000000000000) _ ?_ ?_).mono ?_
      · have := Mn.prt_len (T - 1000000000000) (by omega) (by omega)
        show (Mn.prt (T - 1000000000000)).toArray.size ≤ maxLen
        simp [maxLen]; omega
      · simpa using Mn.parse_prt (T - 1000000000000) (by omega) (by omega)
      · rintro e w4 ⟨rfl, hb4⟩
        go_wp2_with fail
        go_ret
        exact ⟨rfl, ((hb1.step hb2).step hb3).step hb4⟩
    · have hbk := Mn.parse_back hp
      have HP := Lib.hid hp
      have HB := Lib.hid hbk.1
      obtain ⟨_, v1, v2⟩ := hbk
      clear hp
      go_enter Try.func7, Try.ntmps7
      go_wp2_with fail
      refine (counted_any _).mono ?_
      rintro e w1 ⟨rfl, hb1⟩
      go_wp2_with fail
      refine (parse_yes s v _ hs HP.out).mono ?_
      rintro e w2 ⟨rfl, hb2⟩
      go_wp2_with fail
      refine (print_any _ _ (by omega) (by omega)).mono ?_
      rintro e w3 ⟨rfl, hb3⟩
      have hq : (Mn.prt v == s.toList) = true := by rw [Go.ByteArray.toList_eq, HB.out]; simp
      go_wp2_with fail
      refine (pick_any n 2000000000001 _ (by omega) (by omega)).mono ?_
      rintro e w' ⟨T, hT0, hT1, rfl, rfl⟩
      go_wp2_with fail
      refine (print_any _ _ (by omega) (by omega)).mono ?_
      rintro e w4 ⟨rfl, hb4⟩
      go_wp2_with fail
      refine (parse_yes _ (T - 1000000000000) _ ?_ ?_).mono ?_
      · have := Mn.prt_len (T - 1000000000000) (by omega) (by omega)
        show (Mn.prt (T - 1000000000000)).toArray.size ≤ maxLen
        simp [maxLen]; omega
      · simpa using Mn.parse_prt (T - 1000000000000) (by omega) (by omega)
      · rintro e w5 ⟨rfl, hb5⟩
        go_wp2_with fail
        go_ret
        exact ⟨rfl, (((hb1.step hb2).step hb3).step hb4).step hb5⟩
end Go.Proofs.Ytlmlgkplpaaepaa
