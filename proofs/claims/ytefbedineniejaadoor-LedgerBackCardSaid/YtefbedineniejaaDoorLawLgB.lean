/- tallymankeep.LedgerBack: the walk. -/
import Derived.Test.YtefbedineniejaaDoorLgL
import Derived.Test.YtefbedineniejaaDoorLgQ
namespace Go.Proofs.YtefbedineniejaaDoor
open Go.RowKit
set_option linter.unusedVariables false

theorem lw_mk {W : World} (hm : ∃ m, W.cell? ⟨3, 0, none⟩ = some (.int .i64 m))
    (ha : ∀ (i : Nat) (z : List UInt8), ([[103, 97, 105, 110], [108, 97, 116, 101], [108, 111, 115, 115], [115, 111, 108, 100], [115, 116, 111, 99, 107], [115, 117, 112, 112, 108, 121]] : List (List UInt8))[i]? = some z → W.cell? ⟨0, i, none⟩ = some (.string ⟨z.toArray⟩)) : LW W :=
  ⟨hm, fun j hj => by
    have h6 : j = 0 ∨ j = 1 ∨ j = 2 ∨ j = 3 ∨ j = 4 ∨ j = 5 := by omega
    rcases h6 with rfl | rfl | rfl | rfl | rfl | rfl <;> exact ha _ _ rfl⟩
theorem ok_fit {ps : List Lg.P} (h : ∀ p ∈ ps, Lg.Ok p) : ∀ p ∈ ps, -9223372036854775808 ≤ p.n ∧ p.n ≤ 9223372036854775807 := fun p hp => by
  have := h p hp
  exact ⟨by have := this.2.2.2.1; omega, by have := this.2.2.2.2; omega⟩
theorem len_text {ps : List Lg.P} {n : Nat} (h : (Lg.text ps).length ≤ n) : ps.length ≤ n := Nat.le_trans (Lg.len_le ps) h

set_option maxHeartbeats 4000000 in
set_option maxRecDepth 100000 in
theorem ledgerBack_walk (i o l g t : Int) (s : ByteArray) (w : World) (hw : LW w) (h2 : s.size ≤ maxLen) :
    Calls Tryd.prog 3 #[.agg #[.int .i64 i, .int .i64 o, .int .i64 l, .int .i64 g, .int .i64 t], .string s] w (Gives (.bool true) w) := by
  unfold maxLen at h2
  have hb0 : Below w.heap.size w (w.alloc (.cells #[.int .i64 i, .int .i64 o, .int .i64 l, .int .i64 g, .int .i64 t] 23)) := (Below.refl _ _).new _
  by_cases c1 : 600 < s.size
  · go_enter Tryd.func3, Tryd.ntmps3
    go_wp2
    go_ret
    exact ⟨rfl, hb0⟩
  have HP := Lib.hid (fun w' (h' : LW w') => ledgerParse_any s w' h' (by omega))
  go_enter Tryd.func3, Tryd.ntmps3
  go_wp2_with fail
  refine (posted_any _).mono ?_
  rintro e w1 ⟨rfl, hb1'⟩
  have hb1 := hb0.step hb1'
  have hx1 : ∀ j, w1.cell? ⟨w.heap.size, j, none⟩ = (w.alloc (.cells #[.int .i64 i, .int .i64 o, .int .i64 l, .int .i64 g, .int .i64 t] 23)).cell? ⟨w.heap.size, j, none⟩ := fun j => hb1'.cell (p := ⟨w.heap.size, j, none⟩) (by simp)
  have hl1 : w.heap.size < w1.heap.size := by have := hb1'.size; simp at this; omega
  clear hb1'
  go_wp2_with fail
  refine (HP.out _ (hw.below hb1)).mono ?_
  rintro e w2 hp
  have hbb : Below w1.heap.size w1 w2 := by rcases hp with ⟨_, _, _, _, _, h⟩ | ⟨_, _, _, _, _, h⟩ <;> exact h
  have hb2 := hb1.step hbb
  have hx2 : ∀ j, w2.cell? ⟨w.heap.size, j, none⟩ = (w.alloc (.cells #[.int .i64 i, .int .i64 o, .int .i64 l, .int .i64 g, .int .i64 t] 23)).cell? ⟨w.heap.size, j, none⟩ := fun j => (hbb.cell (p := ⟨w.heap.size, j, none⟩) hl1).trans (hx1 j)
  have hl2 : w.heap.size < w2.heap.size := Nat.lt_of_lt_of_le hl1 hbb.size
  clear hx1 hl1 hb1
  rcases hp with ⟨v, ps, rfl, ho, hr, -⟩ | ⟨gg, k, rfl, -, -, -⟩
  · obtain ⟨hok, htx⟩ := Lg.reads_text hr
    obtain ⟨a, cap, rfl, hrd, -, -⟩ := rd_of_own ho
    have htl : (Lg.text ps).length = s.size := by rw [htx]; simp
    have hst : (⟨(Lg.text ps).toArray⟩ : ByteArray) = s := by rw [htx]
    have HPr := Lib.hid (ledgerPrint_any ps a cap w2 hrd (ok_fit hok) (by omega))
    rw [hst] at HPr
    have hss : (s.toList == s.toList) = true := by simp
    clear ho hr hok htx hrd htl hst
    go_wp2_with fail
    refine HPr.out.mono ?_
    rintro e w3 ⟨rfl, hbb3⟩
    have hb3 := hb2.step hbb3
    have hx3 : ∀ j, w3.cell? ⟨w.heap.size, j, none⟩ = (w.alloc (.cells #[.int .i64 i, .int .i64 o, .int .i64 l, .int .i64 g, .int .i64 t] 23)).cell? ⟨w.heap.size, j, none⟩ := fun j => (hbb3.cell (p := ⟨w.heap.size, j, none⟩) hl2).trans (hx2 j)
    have hl3 : w.heap.size < w3.heap.size := Nat.lt_of_lt_of_le hl2 hbb3.size
    clear hx2 hl2 hbb hbb3 hb2
    by_cases hin : inAll [i, o, l, g, t]
    · have f1 := hin i (by simp)
      have f2 := hin o (by simp)
      have f3 := hin l (by simp)
      have f4 := hin g (by simp)
      have f5 := hin t (by simp)
      have hFok := Lg.figs_ok f1 f2 f3 f4 f5
      have HF := Lib.hid (fun w' => figPosts_any i o l g t w' ⟨by have := f1.2; omega, by have := f1.1; omega⟩ ⟨by have := f2.2; omega, by have := f2.1; omega⟩ ⟨by have := f3.2; omega, by have := f3.1; omega⟩ ⟨by have := f4.2; omega, by have := f4.1; omega⟩ ⟨by have := f5.2; omega, by have := f5.1; omega⟩)
      have hfl := Lg.figs_len i o l g t
      have htl := Lg.text_len hFok
      obtain ⟨F, hF⟩ : ∃ F, F = Lg.figs i o l g t := ⟨_, rfl⟩
      rw [← hF] at hFok HF hfl htl
      have HIN := Lib.hid hin
      clear hF f1 f2 f3 f4 f5 hin
      go_wp2_with fail
      refine (bounded_yes i o l g t _ HIN.out).mono ?_
      rintro e w4 ⟨rfl, hbb4⟩
      have hb4 := hb3.step hbb4
      have hx4 : ∀ j, w4.cell? ⟨w.heap.size, j, none⟩ = (w.alloc (.cells #[.int .i64 i, .int .i64 o, .int .i64 l, .int .i64 g, .int .i64 t] 23)).cell? ⟨w.heap.size, j, none⟩ := fun j => (hbb4.cell (p := ⟨w.heap.size, j, none⟩) hl3).trans (hx3 j)
      have hl4 : w.heap.size < w4.heap.size := Nat.lt_of_lt_of_le hl3 hbb4.size
      clear hx3 hl3 hbb4 hb3
      go_wp2_with fail
      refine (HF.out _).mono ?_
      rintro e w5 ⟨v5, rfl, ho5, hbb5⟩
      have hb5 := hb4.step hbb5
      obtain ⟨a5, cap5, rfl, hrd5, -, -⟩ := rd_of_own ho5
      clear ho5
      have HRD5 := Lib.hid hrd5
      clear hrd5
      go_wp2_with fail
      refine (ledgerPrint_any F a5 cap5 _ HRD5.out (ok_fit hFok) (by omega)).mono ?_
      rintro e w6 ⟨rfl, hbb6⟩
      have hb6 := hb5.step hbb6
      go_wp2_with fail
      refine (ledgerParse_any ⟨(Lg.text F).toArray⟩ _ (hw.below hb6) (by show (Lg.text F).length ≤ _; omega)).mono ?_
      rintro e w7 hp7
      rcases hp7 with ⟨v7, qs, rfl, ho7, hr7, hbb7⟩ | ⟨g7, k7, -, -, hf7, -⟩
      · have hqs : qs = F := Lg.text_reads hFok hr7
        subst hqs
        obtain ⟨a7, cap7, rfl, hrd7, -, -⟩ := rd_of_own ho7
        have hb7 := hb6.step hbb7
        have HE := Lib.hid (equalP_same qs a7 a5 cap7 cap5 w7 (by omega) hrd7 ((HRD5.out.below hbb6).below hbb7))
        clear ho7 hr7 hrd7
        go_wp2_with fail
        refine HE.out.mono ?_
        rintro e w8 ⟨rfl, hb8⟩
        go_wp2_with fail
        go_ret
        exact ⟨rfl, hb7.step hb8⟩
      · exact absurd hf7 (Lg.text_fails hFok k7)
    · go_wp2_with fail
      refine (bounded_no i o l g t _ hin).mono ?_
      rintro e w4 ⟨rfl, hb4⟩
      go_wp2_with fail
      go_ret
      exact ⟨rfl, hb3.step hb4⟩
  · have hb3 := hb2
    have hx3 := hx2
    have hl3 := hl2
    obtain ⟨w3, hw3⟩ : ∃ w3, w3 = w2 := ⟨_, rfl⟩
    rw [← hw3] at hb3 hx3 hl3 ⊢
    clear hw3 hx2 hl2 hbb hb2
    by_cases hin : inAll [i, o, l, g, t]
    · have f1 := hin i (by simp)
      have f2 := hin o (by simp)
      have f3 := hin l (by simp)
      have f4 := hin g (by simp)
      have f5 := hin t (by simp)
      have hFok := Lg.figs_ok f1 f2 f3 f4 f5
      have HF := Lib.hid (fun w' => figPosts_any i o l g t w' ⟨by have := f1.2; omega, by have := f1.1; omega⟩ ⟨by have := f2.2; omega, by have := f2.1; omega⟩ ⟨by have := f3.2; omega, by have := f3.1; omega⟩ ⟨by have := f4.2; omega, by have := f4.1; omega⟩ ⟨by have := f5.2; omega, by have := f5.1; omega⟩)
      have hfl := Lg.figs_len i o l g t
      have htl := Lg.text_len hFok
      obtain ⟨F, hF⟩ : ∃ F, F = Lg.figs i o l g t := ⟨_, rfl⟩
      rw [← hF] at hFok HF hfl htl
      have HIN := Lib.hid hin
      clear hF f1 f2 f3 f4 f5 hin
      go_wp2_with fail
      refine (bounded_yes i o l g t _ HIN.out).mono ?_
      rintro e w4 ⟨rfl, hbb4⟩
      have hb4 := hb3.step hbb4
      have hx4 : ∀ j, w4.cell? ⟨w.heap.size, j, none⟩ = (w.alloc (.cells #[.int .i64 i, .int .i64 o, .int .i64 l, .int .i64 g, .int .i64 t] 23)).cell? ⟨w.heap.size, j, none⟩ := fun j => (hbb4.cell (p := ⟨w.heap.size, j, none⟩) hl3).trans (hx3 j)
      have hl4 : w.heap.size < w4.heap.size := Nat.lt_of_lt_of_le hl3 hbb4.size
      clear hx3 hl3 hbb4 hb3
      go_wp2_with fail
      refine (HF.out _).mono ?_
      rintro e w5 ⟨v5, rfl, ho5, hbb5⟩
      have hb5 := hb4.step hbb5
      obtain ⟨a5, cap5, rfl, hrd5, -, -⟩ := rd_of_own ho5
      clear ho5
      have HRD5 := Lib.hid hrd5
      clear hrd5
      go_wp2_with fail
      refine (ledgerPrint_any F a5 cap5 _ HRD5.out (ok_fit hFok) (by omega)).mono ?_
      rintro e w6 ⟨rfl, hbb6⟩
      have hb6 := hb5.step hbb6
      go_wp2_with fail
      refine (ledgerParse_any ⟨(Lg.text F).toArray⟩ _ (hw.below hb6) (by show (Lg.text F).length ≤ _; omega)).mono ?_
      rintro e w7 hp7
      rcases hp7 with ⟨v7, qs, rfl, ho7, hr7, hbb7⟩ | ⟨g7, k7, -, -, hf7, -⟩
      · have hqs : qs = F := Lg.text_reads hFok hr7
        subst hqs
        obtain ⟨a7, cap7, rfl, hrd7, -, -⟩ := rd_of_own ho7
        have hb7 := hb6.step hbb7
        have HE := Lib.hid (equalP_same qs a7 a5 cap7 cap5 w7 (by omega) hrd7 ((HRD5.out.below hbb6).below hbb7))
        clear ho7 hr7 hrd7
        go_wp2_with fail
        refine HE.out.mono ?_
        rintro e w8 ⟨rfl, hb8⟩
        go_wp2_with fail
        go_ret
        exact ⟨rfl, hb7.step hb8⟩
      · exact absurd hf7 (Lg.text_fails hFok k7)
    · go_wp2_with fail
      refine (bounded_no i o l g t _ hin).mono ?_
      rintro e w4 ⟨rfl, hb4⟩
      go_wp2_with fail
      go_ret
      exact ⟨rfl, hb3.step hb4⟩
end Go.Proofs.YtefbedineniejaaDoor
