/- tallymankeep.EventBack: the walk. -/
import Derived.Test.YtjbpeebhphmffaaDoorEvE
namespace Go.Proofs.YtjbpeebhphmffaaDoor
open Go.RowKit

set_option maxHeartbeats 1000000 in
set_option maxRecDepth 100000 in
theorem eventBack_walk (i k q p o d : Int) (it s : ByteArray) (w : World) (hw : VW w) (h1 : it.size ≤ maxLen) (h2 : s.size ≤ maxLen) (ho : o ≤ 9223372036854775807) :
    Calls Tryd.prog 3 #[.agg #[.int .i64 i, .string it, .int .i64 k, .int .i64 q, .int .i64 p, .int .i64 o, .int .i64 d], .string s] w (Gives (.bool true) w) := by
  unfold maxLen at h1 h2
  have hb0 : Below w.heap.size w (w.alloc (.cells #[.int .i64 i, .string it, .int .i64 k, .int .i64 q, .int .i64 p, .int .i64 o, .int .i64 d] 23)) := (Below.refl _ _).alloc (Nat.le_refl _) _
  by_cases c1 : 200 < s.size
  · go_enter Tryd.func3, Tryd.ntmps3
    go_wp2
    go_ret
    exact ⟨rfl, hb0⟩
  · by_cases c2 : 60 < it.size
    · go_enter Tryd.func3, Tryd.ntmps3
      go_wp2
      go_ret
      exact ⟨rfl, hb0⟩
    · have HPs := Lib.hid (fun w' (h' : VW w') => parse_event s w' h' (by omega))
      have HPe := Lib.hid (fun w' (h' : VW w') => print_event i it k q p o d w' h' (by omega) ho)
      go_enter Tryd.func3, Tryd.ntmps3
      go_wp2_with fail
      refine (happened_any _ (hw.below hb0)).mono ?_
      rintro e w1 ⟨rfl, hb1⟩
      have hB1 := hb1
      rw [World.size_alloc] at hB1
      have hbw1 : Below w.heap.size w w1 := hb0.step hb1
      clear hb1
      go_wp2_with fail
      refine (HPs.out _ (hw.below hbw1)).mono ?_
      rintro e w2 ⟨h, hb2⟩
      have hB2 := hB1.trans (hb2.mono (by have := hB1.size; simp at this; omega))
      have hbw2 : Below w.heap.size w w2 := hbw1.step hb2
      clear hB1 hbw1 hb2
      rcases h with ⟨it1, k1, q1, p1, o1, d1, hr, rfl⟩ | ⟨hr, rfl⟩
      · have HRd := Lib.hid hr
        have hsz : it1.size ≤ 1000000 := by have := hr.1.1.2.1; simp at this; omega
        have HPx := Lib.hid (fun w' (h' : VW w') => print_event 0 it1 k1 q1 p1 o1 d1 w' h' hsz HRd.out.2.1)
        clear hr hsz
        go_wp2_with fail
        refine (HPx.out _ (hw.below (hbw2.new _))).mono ?_
        rintro e w3 ⟨h, hb3⟩
        rcases h with ⟨l, -, ht, rfl⟩ | ⟨hr, -⟩
        · have el : l = s.data.toList := Ev.text_uniq ht HRd.out.2.2
          have hq : ((⟨l.toArray⟩ : ByteArray).toList == s.toList) = true := by
            rw [Go.ByteArray.toList_eq, Go.ByteArray.toList_eq, el]; simp
          obtain ⟨L, hL⟩ : ∃ L : ByteArray, L = ⟨l.toArray⟩ := ⟨_, rfl⟩
          rw [← hL] at hq
          rw [← hL]
          have g0 : w3.cell? ⟨w2.heap.size, 0, none⟩ = some (.int .i64 0) := by rw [hb3.cell (p := ⟨w2.heap.size, 0, none⟩) (by simp)]; simp
          have hB := (hB2.alloc (by have := hB2.size; simp at this; omega) (.cells #[.int .i64 0, .string it1, .int .i64 k1, .int .i64 q1, .int .i64 p1, .int .i64 o1, .int .i64 d1] 23)).trans (hb3.mono (by have := hB2.size; simp at this ⊢; omega))
          have hbw3 : Below w.heap.size w w3 := (hbw2.new _).step hb3
          have hc : ∀ j, w3.cell? ⟨w.heap.size, j, none⟩ = (w.alloc (.cells #[.int .i64 i, .string it, .int .i64 k, .int .i64 q, .int .i64 p, .int .i64 o, .int .i64 d] 23)).cell? ⟨w.heap.size, j, none⟩ := fun j => hB.cell (p := ⟨w.heap.size, j, none⟩) (by simp)
          have hl : w.heap.size < w3.heap.size := by have := hB.size; simp at this; omega
          clear ht el hL hb3 hB2 hbw2
          go_wp2_with fail
          refine (HPe.out _ (hw.below hbw3)).mono ?_
          rintro e w4 ⟨h, hb4⟩
          have hB4 := hB.trans (hb4.mono (by omega))
          have hbw4 : Below w.heap.size w w4 := hbw3.step hb4
          clear hc hB hbw3 hb4
          have hc4 : ∀ j, w4.cell? ⟨w.heap.size, j, none⟩ = (w.alloc (.cells #[.int .i64 i, .string it, .int .i64 k, .int .i64 q, .int .i64 p, .int .i64 o, .int .i64 d] 23)).cell? ⟨w.heap.size, j, none⟩ := fun j => hB4.cell (p := ⟨w.heap.size, j, none⟩) (by simp)
          have hl4 : w.heap.size < w4.heap.size := by have := hB4.size; simp at this; omega
          rcases h with ⟨l, hr, ht, rfl⟩ | ⟨hr, rfl⟩
          · have hlen := Ev.text_len hr ho ht
            have hRd : Ev.Reads l it.data.toList k q p o d := ⟨hr, ho, ht⟩
            have HL := Lib.hid (fun w' (h' : VW w') => parse_event ⟨l.toArray⟩ w' h' (by show l.toArray.size ≤ 1000; rw [List.size_toArray]; omega))
            have HRd := Lib.hid hRd
            clear hr ht hlen hRd
            obtain ⟨L, hL⟩ : ∃ L : ByteArray, L = ⟨l.toArray⟩ := ⟨_, rfl⟩
            have hLl : L.data.toList = l := by rw [hL]
            rw [← hL] at HL
            rw [← hL]
            clear hL
            have HLl := Lib.hid hLl
            clear hLl
            go_wp2_with fail
            refine (HL.out _ (hw.below hbw4)).mono ?_
            rintro e w5 ⟨h, hb5⟩
            have hB5 := hB4.trans (hb5.mono (by omega))
            have hc5 : ∀ j, w5.cell? ⟨w.heap.size, j, none⟩ = (w.alloc (.cells #[.int .i64 i, .string it, .int .i64 k, .int .i64 q, .int .i64 p, .int .i64 o, .int .i64 d] 23)).cell? ⟨w.heap.size, j, none⟩ := fun j => hB5.cell (p := ⟨w.heap.size, j, none⟩) (by simp)
            have hf5 : ∀ j, w5.frozen? ⟨w.heap.size, j, none⟩ = (w.alloc (.cells #[.int .i64 i, .string it, .int .i64 k, .int .i64 q, .int .i64 p, .int .i64 o, .int .i64 d] 23)).frozen? ⟨w.heap.size, j, none⟩ := fun j => hB5.frozen (p := ⟨w.heap.size, j, none⟩) (by simp)
            have hl5 : w.heap.size < w5.heap.size := Nat.lt_of_lt_of_le hl4 hb5.size
            have hbw5 : Below w.heap.size w w5 := hbw4.step hb5
            clear hc4 hB4 hB5 hb5 hbw4
            rcases h with ⟨it', k', q', p', o', d', hr, rfl⟩ | ⟨hr, -⟩
            · rw [HLl.out] at hr
              obtain ⟨ei, rfl, rfl, rfl, rfl, rfl⟩ := Ev.reads_uniq hr HRd.out
              obtain rfl : it' = it := ByteArray.ext (Array.ext' ei)
              have hsm := ev_same 0 k' q' p' o' d' it'
              clear hr ei
              go_wp2_with fail
              go_ret
              exact ⟨rfl, (hbw5.setCell (Nat.le_refl _) _).new _⟩
            · rw [HLl.out] at hr
              exact absurd HRd.out (hr _ _ _ _ _ _)
          · have HR : Hid (∀ w1, Calls Tryd.prog 8 #[.agg #[.int .i64 i, .string it, .int .i64 k, .int .i64 q, .int .i64 p, .int .i64 o, .int .i64 d]] w1 (Gives (.bool false) w1)) := Lib.hid (fun w1 => by
              have := right_any i it k q p o d w1 (by omega)
              rw [show Ev.rightB it.data.toList k q p o d = false from decide_eq_false hr] at this
              exact this)
            clear hr
            go_wp2_with fail
            refine (HR.out _).mono ?_
            rintro e w5 ⟨rfl, hb5⟩
            go_wp2_with fail
            go_ret
            exact ⟨rfl, hbw4.step hb5⟩
        · exact absurd HRd.out.1 hr
      · clear hr
        have hc : ∀ j, w2.cell? ⟨w.heap.size, j, none⟩ = (w.alloc (.cells #[.int .i64 i, .string it, .int .i64 k, .int .i64 q, .int .i64 p, .int .i64 o, .int .i64 d] 23)).cell? ⟨w.heap.size, j, none⟩ := fun j => hB2.cell (p := ⟨w.heap.size, j, none⟩) (by simp)
        have hl : w.heap.size < w2.heap.size := by have := hB2.size; simp at this; omega
        go_wp2_with fail
        refine (HPe.out _ (hw.below (hbw2.new _))).mono ?_
        rintro e w4 ⟨h, hb4⟩
        have hB4 := (hB2.alloc (by omega) _).trans (hb4.mono (by rw [World.size_alloc]; omega))
        have hbw4 : Below w.heap.size w w4 := (hbw2.new _).step hb4
        clear hc hB2 hbw2 hb4
        have hc4 : ∀ j, w4.cell? ⟨w.heap.size, j, none⟩ = (w.alloc (.cells #[.int .i64 i, .string it, .int .i64 k, .int .i64 q, .int .i64 p, .int .i64 o, .int .i64 d] 23)).cell? ⟨w.heap.size, j, none⟩ := fun j => hB4.cell (p := ⟨w.heap.size, j, none⟩) (by simp)
        have hl4 : w.heap.size < w4.heap.size := by have := hB4.size; simp at this; omega
        rcases h with ⟨l, hr, ht, rfl⟩ | ⟨hr, rfl⟩
        · have hlen := Ev.text_len hr ho ht
          have hRd : Ev.Reads l it.data.toList k q p o d := ⟨hr, ho, ht⟩
          have HL := Lib.hid (fun w' (h' : VW w') => parse_event ⟨l.toArray⟩ w' h' (by show l.toArray.size ≤ 1000; rw [List.size_toArray]; omega))
          have HRd := Lib.hid hRd
          clear hr ht hlen hRd
          obtain ⟨L, hL⟩ : ∃ L : ByteArray, L = ⟨l.toArray⟩ := ⟨_, rfl⟩
          have hLl : L.data.toList = l := by rw [hL]
          rw [← hL] at HL
          rw [← hL]
          clear hL
          have HLl := Lib.hid hLl
          clear hLl
          go_wp2_with fail
          refine (HL.out _ (hw.below hbw4)).mono ?_
          rintro e w5 ⟨h, hb5⟩
          have hB5 := hB4.trans (hb5.mono (by omega))
          have hc5 : ∀ j, w5.cell? ⟨w.heap.size, j, none⟩ = (w.alloc (.cells #[.int .i64 i, .string it, .int .i64 k, .int .i64 q, .int .i64 p, .int .i64 o, .int .i64 d] 23)).cell? ⟨w.heap.size, j, none⟩ := fun j => hB5.cell (p := ⟨w.heap.size, j, none⟩) (by simp)
          have hf5 : ∀ j, w5.frozen? ⟨w.heap.size, j, none⟩ = (w.alloc (.cells #[.int .i64 i, .string it, .int .i64 k, .int .i64 q, .int .i64 p, .int .i64 o, .int .i64 d] 23)).frozen? ⟨w.heap.size, j, none⟩ := fun j => hB5.frozen (p := ⟨w.heap.size, j, none⟩) (by simp)
          have hl5 : w.heap.size < w5.heap.size := Nat.lt_of_lt_of_le hl4 hb5.size
          have hbw5 : Below w.heap.size w w5 := hbw4.step hb5
          clear hc4 hB4 hB5 hb5 hbw4
          rcases h with ⟨it', k', q', p', o', d', hr, rfl⟩ | ⟨hr, -⟩
          · rw [HLl.out] at hr
            obtain ⟨ei, rfl, rfl, rfl, rfl, rfl⟩ := Ev.reads_uniq hr HRd.out
            obtain rfl : it' = it := ByteArray.ext (Array.ext' ei)
            have hsm := ev_same 0 k' q' p' o' d' it'
            clear hr ei
            go_wp2_with fail
            go_ret
            exact ⟨rfl, (hbw5.setCell (Nat.le_refl _) _).new _⟩
          · rw [HLl.out] at hr
            exact absurd HRd.out (hr _ _ _ _ _ _)
        · have HR : Hid (∀ w1, Calls Tryd.prog 8 #[.agg #[.int .i64 i, .string it, .int .i64 k, .int .i64 q, .int .i64 p, .int .i64 o, .int .i64 d]] w1 (Gives (.bool false) w1)) := Lib.hid (fun w1 => by
            have := right_any i it k q p o d w1 (by omega)
            rw [show Ev.rightB it.data.toList k q p o d = false from decide_eq_false hr] at this
            exact this)
          clear hr
          go_wp2_with fail
          refine (HR.out _).mono ?_
          rintro e w5 ⟨rfl, hb5⟩
          go_wp2_with fail
          go_ret
          exact ⟨rfl, hbw4.step hb5⟩
theorem eventBack_go (i k q p o d : Int) (it s : ByteArray) (w : World) (hw : VW w) (h1 : it.size ≤ maxLen) (_ : -9223372036854775808 ≤ i ∧ i ≤ 9223372036854775807) (_ : -9223372036854775808 ≤ k ∧ k ≤ 9223372036854775807) (_ : -9223372036854775808 ≤ q ∧ q ≤ 9223372036854775807)
    (_ : -9223372036854775808 ≤ p ∧ p ≤ 9223372036854775807) (bo : -9223372036854775808 ≤ o ∧ o ≤ 9223372036854775807) (_ : -9223372036854775808 ≤ d ∧ d ≤ 9223372036854775807) (h2 : s.size ≤ maxLen) :
    Calls Tryd.prog 3 #[.agg #[.int .i64 i, .string it, .int .i64 k, .int .i64 q, .int .i64 p, .int .i64 o, .int .i64 d], .string s] w (Gives (.bool true) w) := eventBack_walk i k q p o d it s w hw h1 h2 bo.2
end Go.Proofs.YtjbpeebhphmffaaDoor
