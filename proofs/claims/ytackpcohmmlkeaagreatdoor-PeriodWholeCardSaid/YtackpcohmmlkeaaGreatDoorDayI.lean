/- day.leap, day.length, day.Parts, day.Month, for a seat that reads no days: what they hand back; what the walks ask of the world. -/
import Derived.Test.YtackpcohmmlkeaaGreatDoorDayN
import Derived.Test.YtackpcohmmlkeaaGreatDoorBase
import Derived.Test.YtackpcohmmlkeaaGreatDoorLawLift
import Derived.WalkKit
import Derived.WalkSpells
import Derived.WalkLawsBesides
import Derived.Handy
import Derived.Lib.Hide
import Derived.Lib.LaidTab
import Derived.Lib.SmallJoins
import Derived.Deep.QuietTactic
import Derived.BigQuiet
import Derived.Deep.LoopGhost
namespace Go.Proofs.YtackpcohmmlkeaaGreatDoor
open Go.RowKit

/-- What the laid variables hold, as the walks read it. -/
structure DW (w : World) : Prop where
  len : Lib.TabIs Tryz.prog w "tallyman/day.lengths" .i64 Dy.lens
theorem gLengths : Tryz.prog.globalNamed "tallyman/day.lengths" = some 1 := by kernel_rfl
theorem DW.below {w w' : World} (h : DW w) (hb : Below w.heap.size w w') : DW w' := ⟨Joins.var_stays gLengths h.len hb (Nat.le_refl _)⟩
theorem DW.drew {w : World} (h : DW w) (n : Nat) : DW (w.drewN n) := h.below (below_drewN (Below.refl _ _) n)
set_option maxHeartbeats 400000 in
theorem leap_any (y : Int) (w : World) (h0 : 0 ≤ y) (h1 : y ≤ 3000) :
    Calls Tryz.prog 113 #[.int .i64 y] w fun e w' => e = .returned (.bool (Dy.leap y)) ∧ w = w' := by
  have h := Dy.leap_iff y
  by_cases c4 : y % 4 = 0
  · by_cases c100 : y % 100 = 0
    · by_cases c400 : y % 400 = 0
      · have e : Dy.leap y = true := by rw [h]; omega
        rw [e]; clear h e
        go_enter Tryz.func113, Tryz.ntmps113
        go_wp2
        go_ret
        exact ⟨rfl, rfl⟩
      · have e : Dy.leap y = false := by simp only [Dy.leap, c4, c100, c400]; rfl
        have c400' : (y % 400 == 0) = false := by simpa using c400
        rw [e]; clear h e
        go_enter Tryz.func113, Tryz.ntmps113
        go_wp2
        go_ret
        exact ⟨rfl, rfl⟩
    · have e : Dy.leap y = true := by rw [h]; omega
      rw [e]; clear h e
      go_enter Tryz.func113, Tryz.ntmps113
      go_wp2
      go_ret
      exact ⟨rfl, rfl⟩
  · have e : Dy.leap y = false := by simp only [Dy.leap, c4]; rfl
    rw [e]; clear h e
    go_enter Tryz.func113, Tryz.ntmps113
    go_wp2
    go_ret
    exact ⟨rfl, rfl⟩

set_option maxHeartbeats 400000 in
theorem length_any (y : Int) (m : Nat) (w : World) (hw : DW w) (h0 : 0 ≤ y) (h1 : y ≤ 3000) (m0 : 1 ≤ m) (m1 : m ≤ 12) :
    Calls Tryz.prog 114 #[.int .i64 y, .int .i64 m] w fun e w' => e = .returned (.int .i64 (Dy.len y m)) ∧ ∃ n, w' = w.drewN n := by
  have c : w.cell? ⟨1, m, none⟩ = some (.int .i64 (Dy.lens.getD m 0)) := hw.len.cell gLengths m (by simp [Dy.lens]; omega)
  by_cases m2 : m = 2
  · subst m2
    rcases hl : Dy.leap y with _ | _
    · rw [show Dy.len y 2 = Dy.lens.getD 2 0 by simp [Dy.len, hl]]
      have HL := Lib.hid hl
      clear hl
      go_enter Tryz.func114, Tryz.ntmps114
      go_wp2_with (go_at_call 113; refine (leap_any y _ h0 h1).mono ?_; rintro e w1 ⟨rfl, rfl⟩; rw [HL.out])
      go_ret
      exact ⟨rfl, 0, rfl⟩
    · rw [show Dy.len y 2 = 29 by simp [Dy.len, hl]]
      have HL := Lib.hid hl
      clear hl
      go_enter Tryz.func114, Tryz.ntmps114
      go_wp2_with (go_at_call 113; refine (leap_any y _ h0 h1).mono ?_; rintro e w1 ⟨rfl, rfl⟩; rw [HL.out])
      go_ret
      exact ⟨rfl, 0, rfl⟩
  · rw [show Dy.len y m = Dy.lens.getD m 0 by simp [Dy.len, m2]]
    go_enter Tryz.func114, Tryz.ntmps114
    go_wp2
    go_ret
    exact ⟨rfl, 0, rfl⟩
theorem results_tmp4 {fn : Func} {t u v x : Tmp} (h : fn.results = #[.tmp t, .tmp u, .tmp v, .tmp x]) (tmps : Array Value) (P : Program) (w : World) :
    (results fn tmps).run P w = .ok (.tuple #[tmps.getD t undef, tmps.getD u undef, tmps.getD v undef, tmps.getD x undef]) w := by
  simp [results, h]

/-- A day's three numbers, handed back. -/
def PartsPost (n : Int) (w : World) (e : Ending) (w' : World) : Prop :=
  ∃ (y d : Int) (m : Nat), Dy.Is n y m d ∧ e = .returned (.tuple #[.int .i64 y, .int .i64 m, .int .i64 d, .nilIface]) ∧ ∃ q, w' = w.drewN q

theorem is_of {n y d : Int} {m : Nat} (h1 : 1900 ≤ y) (h2 : y ≤ 2181) (h3 : 1 ≤ m) (h4 : m ≤ 12) (h5 : 0 ≤ d) (h6 : d < Dy.len y m) (h : d + Dy.ms y m + Dy.ys y = n) : Dy.Is n y m (d + 1) := by
  refine ⟨⟨h1, by omega, by omega, by omega, by omega, by simp; omega⟩, ?_⟩
  unfold Dy.num
  simp
  omega

set_option maxHeartbeats 800000 in
theorem parts_ok (n : Int) (w : World) (hw : DW w) (h0 : 0 ≤ n) (h1 : n ≤ 99999) :
    Calls Tryz.prog 77 #[.int .i64 n] w (PartsPost n w) := by
  have c1 : ¬ n < 0 := by omega
  have c2 : ¬ 99999 < n := by omega
  go_enter Tryz.func77, Tryz.ntmps77
  go_wp2
  go_loop [0, 2, 6] (fun a y _ => ∃ (A Y : Int), a = .int .i64 A ∧ y = .int .i64 Y ∧ 1900 ≤ Y ∧ Y ≤ 2181 ∧ 0 ≤ A ∧ A ≤ 99999 ∧ Hid (A + Dy.ys Y = n ∧ n ≤ 99999)) (fun a _ _ => (intOf a).toNat)
  case atStart => exact ⟨n, 1900, rfl, rfl, by omega, by omega, h0, h1, Lib.hid ⟨by rw [Dy.ys_1900]; omega, h1⟩⟩
  case round =>
    obtain ⟨A, Y, rfl, rfl, hY1, hY2, hA0, hA1, hA⟩ := hrel
    clear c1 c2 h0 h1
    have hyl := Dy.yl_ge Y
    by_cases hx : A < Dy.yl Y
    · have hms13 := Lib.hid (Dy.ms_13 Y)
      have hstop : (A < 365) ∨ (¬ A < 365 ∧ Hid (Dy.leap Y = true) ∧ A < 366) := by
        rcases hl : Dy.leap Y with _ | _
        · left; unfold Dy.yl at hx; rw [if_neg (by simp [hl])] at hx; exact hx
        · by_cases c : A < 365
          · exact Or.inl c
          · right; unfold Dy.yl at hx; rw [if_pos hl] at hx; exact ⟨c, Lib.hid rfl, hx⟩
      have HX : Hid (A + Dy.ms Y 1 < Dy.yl Y) := Lib.hid (by simp [Dy.ms]; exact hx)
      clear hyl hx
      rcases hstop with c | ⟨c, hl, c'⟩
      all_goals
        go_wp2_with (go_at_call 113; refine (leap_any Y _ (by omega) (by omega)).mono ?_; rintro e w1 ⟨rfl, rfl⟩; rw [hl.out])
        go_loopw [0, 3] (fun a m wr => ∃ (B : Int) (j q : Nat), a = .int .i64 B ∧ m = .int .i64 j ∧ 1 ≤ j ∧ j ≤ 12 ∧ 0 ≤ B ∧ B ≤ 99999 ∧ Hid (B + Dy.ms Y j + Dy.ys Y = n) ∧ Hid (B + Dy.ms Y j < Dy.yl Y) ∧ Hid (wr = w.drewN q)) (fun _ m _ => 13 - (intOf m).toNat)
        case atStart => exact ⟨A, 1, 0, rfl, rfl, by omega, by omega, hA0, hA1, Lib.hid (by rw [← hA.out.1]; simp [Dy.ms]), HX, Lib.hid rfl⟩
        case round =>
          obtain ⟨B, j, q, rfl, rfl, hj1, hj2, hB0, hB1, hB, hBy, hwr⟩ := hrel
          obtain ⟨L, hL⟩ : ∃ L, L = Dy.len Y j := ⟨_, rfl⟩
          have hl2 := Dy.len_pos Y j (by omega) (by omega)
          rw [← hL] at hl2
          have HL := Lib.hid hL
          clear hL
          have HD : Hid (DW wr) := Lib.hid (by rw [hwr.out]; exact hw.drew _)
          by_cases hlt : B < L
          · go_wp2_with (go_at_call 114; refine (length_any Y j _ HD.out (by omega) (by omega) (by omega) (by omega)).mono ?_; rintro e w1 ⟨rfl, n2, rfl⟩; rw [← HL.out])
            (try simp only [Exit.inBlock, Exit.then]); refine bodyPost_ret (results_tmp4 rfl _ _ _) rfl ?_
            exact ⟨Y, B + 1, j, is_of hY1 hY2 hj1 hj2 hB0 (by rw [← HL.out]; exact hlt) hB.out, rfl, q + n2, by rw [hwr.out, World.drewN_drewN]⟩
          · have hj12 : j < 12 := by
              have a1 := hBy.out
              have a2 := hms13.out
              have a3 := Dy.ms_succ Y j hj1
              rw [← HL.out] at a3
              apply Classical.byContradiction
              intro hn
              obtain rfl : j = 12 := by omega
              rw [show 12 + 1 = 13 from rfl] at a3
              omega
            go_wp2_with (first
              | (have _h := n2; go_at_call 114; refine (length_any Y j _ ((HD.out).drew _) (by omega) (by omega) (by omega) (by omega)).mono ?_; rintro e w1 ⟨rfl, n3, rfl⟩; rw [← HL.out])
              | (go_at_call 114; refine (length_any Y j _ HD.out (by omega) (by omega) (by omega) (by omega)).mono ?_; rintro e w1 ⟨rfl, n2, rfl⟩; rw [← HL.out]))
            go_roundw
            case rel => exact ⟨B - L, j + 1, q + n2 + n3, rfl, by go_num, by omega, by omega, by omega, by omega, Lib.hid (by rw [Dy.ms_succ Y j hj1, ← HL.out, ← hB.out]; omega), Lib.hid (by rw [Dy.ms_succ Y j hj1, ← HL.out]; have := hBy.out; omega), Lib.hid (by rw [hwr.out, World.drewN_drewN, Nat.add_assoc])⟩
            case measure => simp [intOf]; omega
    · have hys := Dy.ys_succ Y
      have hYY : Y + 1 ≤ 2180 := by
        have := hA.out
        exact Dy.ys_bd _ (by omega) (by omega)
      have c : ¬ A < 365 := by omega
      rcases hl : Dy.leap Y with _ | _
      · have e : Dy.yl Y = 365 := by simp [Dy.yl, hl]
        rw [e] at hx hys
        have HL := Lib.hid hl
        have HYS := Lib.hid hys
        clear hl hys e hyl
        go_wp2_with (go_at_call 113; refine (leap_any Y _ (by omega) (by omega)).mono ?_; rintro e w1 ⟨rfl, rfl⟩; rw [HL.out])
        go_round
        case rel => exact ⟨A - 365, Y + 1, rfl, rfl, by omega, by omega, by omega, by omega, Lib.hid ⟨by rw [HYS.out, ← hA.out.1]; omega, hA.out.2⟩⟩
        case measure => simp [intOf]; omega
      · have e : Dy.yl Y = 366 := by simp [Dy.yl, hl]
        rw [e] at hx hys
        have HL := Lib.hid hl
        have HYS := Lib.hid hys
        clear hl hys e hyl
        go_wp2_with (go_at_call 113; refine (leap_any Y _ (by omega) (by omega)).mono ?_; rintro e w1 ⟨rfl, rfl⟩; rw [HL.out])
        go_round
        case rel => exact ⟨A - 366, Y + 1, rfl, rfl, by omega, by omega, by omega, by omega, Lib.hid ⟨by rw [HYS.out, ← hA.out.1]; omega, hA.out.2⟩⟩
        case measure => simp [intOf]; omega
set_option maxHeartbeats 400000 in
theorem month_is (n y d : Int) (m : Nat) (w : World) (hw : DW w) (h0 : 0 ≤ n) (h1 : n ≤ 99999) (hi : Dy.Is n y m d) :
    Calls Tryz.prog 43 #[.int .i64 n] w (Gives (.tuple #[.int .i64 (Dy.mo y m), .nilIface]) w) := by
  have b := hi.1
  obtain ⟨b1, b2, b3, b4, -, -⟩ := b
  have HI := Lib.hid hi
  clear hi
  go_enter Tryz.func43, Tryz.ntmps43
  go_wp2_with fail
  refine (parts_ok n _ hw h0 h1).mono ?_
  rintro e w1 ⟨y', d', m', hi', rfl, q, rfl⟩
  obtain ⟨e1, e2, -⟩ := Dy.is_uniq hi' HI.out
  have e2' : m' = m := by omega
  subst e1 e2'
  clear hi'
  go_wp2_with fail
  go_ret2
  exact ⟨by unfold Dy.mo; rfl, below_drewN (Below.refl _ _) q⟩

end Go.Proofs.YtackpcohmmlkeaaGreatDoor
