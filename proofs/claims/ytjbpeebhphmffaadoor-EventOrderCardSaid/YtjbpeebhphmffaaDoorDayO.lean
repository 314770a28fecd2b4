/- day.Of: what it hands back. -/
import Derived.Test.YtjbpeebhphmffaaDoorDayW
import Derived.Deep.QuietTactic
import Derived.BigQuiet
import Derived.Deep.LoopGhost
namespace Go.Proofs.YtjbpeebhphmffaaDoor
open Go.RowKit

def okVal (o : Option Int) : Value := match o with
  | some n => .tuple #[.int .i64 n, .nilIface]
  | none => .tuple #[.int .i64 0, .iface 38 (.int .i64 1)]
/-- It hands this back; the world is the same but for what was drawn. -/
def Draws (v : Value) (w : World) (e : Ending) (w' : World) : Prop := e = .returned v ∧ ∃ n, w' = w.drewN n

theorem ofN_not {y m d : Int} (h : ¬ Dy.Ok y m d) : Dy.ofN y m d = none := by unfold Dy.ofN; rw [if_neg (fun hc => h hc.1)]

set_option maxHeartbeats 400000 in
theorem of_bad (y m d : Int) (w : World) (hw : DW w) (h : ¬ Dy.Ok y m d) :
    Calls Tryd.prog 24 #[.int .i64 y, .int .i64 m, .int .i64 d] w (Draws (okVal none) w) := by
  by_cases c1 : y < 1900
  · clear h
    go_enter Tryd.func24, Tryd.ntmps24
    go_wp2
    go_ret2
    exact ⟨rfl, 0, rfl⟩
  · by_cases c2 : 2200 < y
    · clear h
      go_enter Tryd.func24, Tryd.ntmps24
      go_wp2
      go_ret2
      exact ⟨rfl, 0, rfl⟩
    · by_cases c3 : m < 1
      · clear h
        go_enter Tryd.func24, Tryd.ntmps24
        go_wp2
        go_ret2
        exact ⟨rfl, 0, rfl⟩
      · by_cases c4 : 12 < m
        · clear h
          go_enter Tryd.func24, Tryd.ntmps24
          go_wp2
          go_ret2
          exact ⟨rfl, 0, rfl⟩
        · by_cases c5 : d < 1
          · clear h
            go_enter Tryd.func24, Tryd.ntmps24
            go_wp2
            go_ret2
            exact ⟨rfl, 0, rfl⟩
          · obtain ⟨M, rfl⟩ : ∃ M : Nat, m = M := ⟨m.toNat, by omega⟩
            have c6 : Dy.len y M < d := by
              apply Classical.byContradiction
              intro hc
              exact h ⟨by omega, by omega, by omega, by omega, by omega, by simpa using (show d ≤ Dy.len y M by omega)⟩
            clear h
            go_enter Tryd.func24, Tryd.ntmps24
            go_wp2_with (go_at_call 36; refine (length_any y M _ hw (by omega) (by omega) (by omega) (by omega)).mono ?_; rintro e w1 ⟨rfl, n, rfl⟩)
            go_ret2
            exact ⟨rfl, n, rfl⟩

theorem ofN_ok {y m d N : Int} (h : Dy.Ok y m d) (hN : Dy.num y m d = N) : Dy.ofN y m d = if N ≤ 99999 then some N else none := by
  subst hN
  unfold Dy.ofN
  by_cases hc : Dy.num y m d ≤ 99999
  · rw [if_pos ⟨h, hc⟩, if_pos hc]
  · rw [if_neg (fun k => hc k.2), if_neg hc]

set_option maxHeartbeats 800000 in
theorem of_good (y d : Int) (M : Nat) (w : World) (hw : DW w) (h : Dy.Ok y M d) :
    Calls Tryd.prog 24 #[.int .i64 y, .int .i64 M, .int .i64 d] w (Draws (okVal (Dy.ofN y M d)) w) := by
  obtain ⟨N, hN⟩ : ∃ N, Dy.num y M d = N := ⟨_, rfl⟩
  obtain ⟨v, hv⟩ : ∃ v, v = okVal (Dy.ofN y M d) := ⟨_, rfl⟩
  rw [← hv]
  rw [ofN_ok h hN] at hv
  have HV := Lib.hid hv
  clear hv
  obtain ⟨h1, h2, h3, h4, h5, h6⟩ := h
  rw [Int.toNat_natCast] at h6
  have hl := Dy.len_pos y M (by omega) (by omega)
  have hms := Dy.ms_le y M (by omega)
  have HN : Hid (d - 1 + Dy.ms y M + Dy.ys y = N) := Lib.hid (by rw [← hN]; simp [Dy.num])
  clear hN
  have c1 : ¬ y < 1900 := by omega
  have c2 : ¬ 2200 < y := by omega
  have c3 : ¬ (M : Int) < 1 := by omega
  have c4 : ¬ 12 < (M : Int) := by omega
  have c5 : ¬ d < 1 := by omega
  have c6 : ¬ Dy.len y M < d := by omega
  clear h6
  go_enter Tryd.func24, Tryd.ntmps24
  go_wp2_with (go_at_call 36; refine (length_any y M _ hw (by omega) (by omega) (by omega) (by omega)).mono ?_; rintro e w1 ⟨rfl, n1, rfl⟩)
  go_loopw [8, 9] (fun n k wr => ∃ (j q : Nat) (a : Int), 1 ≤ j ∧ j ≤ M ∧ k = .int .i64 j ∧ n = .int .i64 a ∧ Hid (a = d - 1 + Dy.ms y j) ∧ 0 ≤ a ∧ a ≤ 100 + 31 * j ∧ Hid (wr = w.drewN q)) (fun _ k _ => M - (intOf k).toNat)
  case atStart => exact ⟨1, n1, d - 1, by omega, by omega, rfl, rfl, Lib.hid (by simp [Dy.ms]), by omega, by omega, Lib.hid rfl⟩
  case round =>
    obtain ⟨j, q, a, hj1, hj2, rfl, rfl, ha, ha0, ha1, hwr⟩ := hrel
    by_cases hlt : j < M
    · have hl2 := Dy.len_pos y j (by omega) (by omega)
      obtain ⟨L, hL⟩ : ∃ L, L = Dy.len y j := ⟨_, rfl⟩
      rw [← hL] at hl2
      have HL := Lib.hid hL
      clear hL
      go_wp2_with (go_at_call 36; refine (length_any y j _ (by rw [hwr.out]; exact hw.drew _) (by omega) (by omega) (by omega) (by omega)).mono ?_; rintro e w1 ⟨rfl, n2, rfl⟩; rw [← HL.out])
      go_roundw
      case rel => exact ⟨j + 1, q + n2, a + L, by omega, by omega, by go_num, rfl, Lib.hid (by rw [Dy.ms_succ y j hj1, ha.out, HL.out]; omega), by omega, by omega, Lib.hid (by rw [hwr.out, World.drewN_drewN])⟩
      case measure => simp [intOf]; omega
    · obtain rfl : j = M := by omega
      have hN : a + ((y - 1900) * 365 + (y - 1) / 4 - (y - 1) / 100 + (y - 1) / 400 - 460) = N := by rw [← HN.out, ha.out]; rfl
      have HNN := Lib.hid hN
      by_cases hc : N ≤ 99999
      · have HG : Hid (v = okVal (some N)) := Lib.hid (by rw [HV.out, if_pos hc])
        clear hN
        have hc' : ¬ 99999 < a + ((y - 1900) * 365 + (y - 1) / 4 - (y - 1) / 100 + (y - 1) / 400 - 460) := by rw [HNN.out]; omega
        go_wp2
        go_ret2
        exact ⟨(congrArg (fun x => Ending.returned (okVal (some x))) HNN.out).trans (congrArg Ending.returned HG.out.symm), q, hwr.out⟩
      · have HG : Hid (v = okVal none) := Lib.hid (by rw [HV.out, if_neg hc])
        clear hN
        have hc' : 99999 < a + ((y - 1900) * 365 + (y - 1) / 4 - (y - 1) / 100 + (y - 1) / 400 - 460) := by rw [HNN.out]; omega
        go_wp2
        go_ret2
        exact ⟨congrArg Ending.returned HG.out.symm, q, hwr.out⟩

theorem of_any (y m d : Int) (w : World) (hw : DW w) :
    Calls Tryd.prog 24 #[.int .i64 y, .int .i64 m, .int .i64 d] w (Draws (okVal (Dy.ofN y m d)) w) := by
  by_cases h : Dy.Ok y m d
  · obtain ⟨M, rfl⟩ : ∃ M : Nat, m = M := ⟨m.toNat, by have := h.2.2.1; omega⟩
    exact of_good y d M w hw h
  · rw [ofN_not h]
    exact of_bad y m d w hw h
end Go.Proofs.YtjbpeebhphmffaaDoor
