/- event.Right, a part: what came in. -/
import Derived.Test.YtpbbbiifeihkaaaDoorEvN
namespace Go.Proofs.YtpbbbiifeihkaaaDoor
open Go.RowKit

set_option maxHeartbeats 4000000 in
set_option maxRecDepth 100000 in
theorem right_1 (i : Int) (s : ByteArray) (q p o d : Int) (w : World) (hs : s.size ≤ 1000000) (hN : Ev.nameB s.data.toList = true) (c_d : ¬ d < 0) (g_d : ¬ 99999 < d) :
    Calls Tryd.prog 11 #[.agg #[.int .i64 i, .string s, .int .i64 1, .int .i64 q, .int .i64 p, .int .i64 o, .int .i64 d]] w (Gives (.bool (Ev.rightB s.data.toList 1 q p o d)) w) := by
  by_cases c_q : q < 1
  · have hB : Ev.rightB s.data.toList (1) (q) (p) (o) (d) = false := decide_eq_false (fun h => by obtain ⟨-, h1, h2, h⟩ := h; omega)
    have HB := Lib.hid hB
    have HN : Hid (∀ w, Calls Tryd.prog 18 #[.string s] w (Gives (.bool true) w)) := Lib.hid (fun w => by rw [← hN]; exact name_any s w hs)
    clear hB hN
    rw [HB.out]
    go_enter Tryd.func11, Tryd.ntmps11
    go_wp2_with fail
    refine (HN.out _).mono ?_
    rintro e w1 ⟨rfl, hb⟩
    have c1 := hb.cell (p := ⟨w.heap.size, 1, none⟩) (by simp)
    have c2 := hb.cell (p := ⟨w.heap.size, 2, none⟩) (by simp)
    have c3 := hb.cell (p := ⟨w.heap.size, 3, none⟩) (by simp)
    have c4 := hb.cell (p := ⟨w.heap.size, 4, none⟩) (by simp)
    have c5 := hb.cell (p := ⟨w.heap.size, 5, none⟩) (by simp)
    have c6 := hb.cell (p := ⟨w.heap.size, 6, none⟩) (by simp)
    simp at c1 c2 c3 c4 c5 c6
    have hb1 : Below w.heap.size w w1 := ((Below.refl _ _).alloc (Nat.le_refl _) _).step hb
    clear hb
    go_wp2
    go_ret
    exact ⟨rfl, hb1⟩
  · by_cases g_q : 100000 < q
    · have hB : Ev.rightB s.data.toList (1) (q) (p) (o) (d) = false := decide_eq_false (fun h => by obtain ⟨-, h1, h2, h⟩ := h; omega)
      have HB := Lib.hid hB
      have HN : Hid (∀ w, Calls Tryd.prog 18 #[.string s] w (Gives (.bool true) w)) := Lib.hid (fun w => by rw [← hN]; exact name_any s w hs)
      clear hB hN
      rw [HB.out]
      go_enter Tryd.func11, Tryd.ntmps11
      go_wp2_with fail
      refine (HN.out _).mono ?_
      rintro e w1 ⟨rfl, hb⟩
      have c1 := hb.cell (p := ⟨w.heap.size, 1, none⟩) (by simp)
      have c2 := hb.cell (p := ⟨w.heap.size, 2, none⟩) (by simp)
      have c3 := hb.cell (p := ⟨w.heap.size, 3, none⟩) (by simp)
      have c4 := hb.cell (p := ⟨w.heap.size, 4, none⟩) (by simp)
      have c5 := hb.cell (p := ⟨w.heap.size, 5, none⟩) (by simp)
      have c6 := hb.cell (p := ⟨w.heap.size, 6, none⟩) (by simp)
      simp at c1 c2 c3 c4 c5 c6
      have hb1 : Below w.heap.size w w1 := ((Below.refl _ _).alloc (Nat.le_refl _) _).step hb
      clear hb
      go_wp2
      go_ret
      exact ⟨rfl, hb1⟩
    · by_cases c_p : p < 0
      · have hB : Ev.rightB s.data.toList (1) (q) (p) (o) (d) = false := decide_eq_false (fun h => by obtain ⟨-, h1, h2, h⟩ := h; omega)
        have HB := Lib.hid hB
        have HN : Hid (∀ w, Calls Tryd.prog 18 #[.string s] w (Gives (.bool true) w)) := Lib.hid (fun w => by rw [← hN]; exact name_any s w hs)
        clear hB hN
        rw [HB.out]
        go_enter Tryd.func11, Tryd.ntmps11
        go_wp2_with fail
        refine (HN.out _).mono ?_
        rintro e w1 ⟨rfl, hb⟩
        have c1 := hb.cell (p := ⟨w.heap.size, 1, none⟩) (by simp)
        have c2 := hb.cell (p := ⟨w.heap.size, 2, none⟩) (by simp)
        have c3 := hb.cell (p := ⟨w.heap.size, 3, none⟩) (by simp)
        have c4 := hb.cell (p := ⟨w.heap.size, 4, none⟩) (by simp)
        have c5 := hb.cell (p := ⟨w.heap.size, 5, none⟩) (by simp)
        have c6 := hb.cell (p := ⟨w.heap.size, 6, none⟩) (by simp)
        simp at c1 c2 c3 c4 c5 c6
        have hb1 : Below w.heap.size w w1 := ((Below.refl _ _).alloc (Nat.le_refl _) _).step hb
        clear hb
        go_wp2
        go_ret
        exact ⟨rfl, hb1⟩
      · by_cases g_p : 1000000 < p
        · have hB : Ev.rightB s.data.toList (1) (q) (p) (o) (d) = false := decide_eq_false (fun h => by obtain ⟨-, h1, h2, h⟩ := h; omega)
          have HB := Lib.hid hB
          have HN : Hid (∀ w, Calls Tryd.prog 18 #[.string s] w (Gives (.bool true) w)) := Lib.hid (fun w => by rw [← hN]; exact name_any s w hs)
          clear hB hN
          rw [HB.out]
          go_enter Tryd.func11, Tryd.ntmps11
          go_wp2_with fail
          refine (HN.out _).mono ?_
          rintro e w1 ⟨rfl, hb⟩
          have c1 := hb.cell (p := ⟨w.heap.size, 1, none⟩) (by simp)
          have c2 := hb.cell (p := ⟨w.heap.size, 2, none⟩) (by simp)
          have c3 := hb.cell (p := ⟨w.heap.size, 3, none⟩) (by simp)
          have c4 := hb.cell (p := ⟨w.heap.size, 4, none⟩) (by simp)
          have c5 := hb.cell (p := ⟨w.heap.size, 5, none⟩) (by simp)
          have c6 := hb.cell (p := ⟨w.heap.size, 6, none⟩) (by simp)
          simp at c1 c2 c3 c4 c5 c6
          have hb1 : Below w.heap.size w w1 := ((Below.refl _ _).alloc (Nat.le_refl _) _).step hb
          clear hb
          go_wp2
          go_ret
          exact ⟨rfl, hb1⟩
        · by_cases c_o : o = 0
          · subst c_o
            have hB : Ev.rightB s.data.toList (1) (q) (p) (0) (d) = true := decide_eq_true ⟨of_decide_eq_true hN, by omega, by omega, by omega⟩
            have HB := Lib.hid hB
            have HN : Hid (∀ w, Calls Tryd.prog 18 #[.string s] w (Gives (.bool true) w)) := Lib.hid (fun w => by rw [← hN]; exact name_any s w hs)
            clear hB hN
            rw [HB.out]
            go_enter Tryd.func11, Tryd.ntmps11
            go_wp2_with fail
            refine (HN.out _).mono ?_
            rintro e w1 ⟨rfl, hb⟩
            have c1 := hb.cell (p := ⟨w.heap.size, 1, none⟩) (by simp)
            have c2 := hb.cell (p := ⟨w.heap.size, 2, none⟩) (by simp)
            have c3 := hb.cell (p := ⟨w.heap.size, 3, none⟩) (by simp)
            have c4 := hb.cell (p := ⟨w.heap.size, 4, none⟩) (by simp)
            have c5 := hb.cell (p := ⟨w.heap.size, 5, none⟩) (by simp)
            have c6 := hb.cell (p := ⟨w.heap.size, 6, none⟩) (by simp)
            simp at c1 c2 c3 c4 c5 c6
            have hb1 : Below w.heap.size w w1 := ((Below.refl _ _).alloc (Nat.le_refl _) _).step hb
            clear hb
            go_wp2
            go_ret
            exact ⟨rfl, hb1⟩
          · have n_o_0 : (o == (0 : Int)) = false := by simpa using c_o
            have hB : Ev.rightB s.data.toList (1) (q) (p) (o) (d) = false := decide_eq_false (fun h => by obtain ⟨-, h1, h2, h⟩ := h; omega)
            have HB := Lib.hid hB
            have HN : Hid (∀ w, Calls Tryd.prog 18 #[.string s] w (Gives (.bool true) w)) := Lib.hid (fun w => by rw [← hN]; exact name_any s w hs)
            clear hB hN
            rw [HB.out]
            go_enter Tryd.func11, Tryd.ntmps11
            go_wp2_with fail
            refine (HN.out _).mono ?_
            rintro e w1 ⟨rfl, hb⟩
            have c1 := hb.cell (p := ⟨w.heap.size, 1, none⟩) (by simp)
            have c2 := hb.cell (p := ⟨w.heap.size, 2, none⟩) (by simp)
            have c3 := hb.cell (p := ⟨w.heap.size, 3, none⟩) (by simp)
            have c4 := hb.cell (p := ⟨w.heap.size, 4, none⟩) (by simp)
            have c5 := hb.cell (p := ⟨w.heap.size, 5, none⟩) (by simp)
            have c6 := hb.cell (p := ⟨w.heap.size, 6, none⟩) (by simp)
            simp at c1 c2 c3 c4 c5 c6
            have hb1 : Below w.heap.size w w1 := ((Below.refl _ _).alloc (Nat.le_refl _) _).step hb
            clear hb
            go_wp2
            go_ret
            exact ⟨rfl, hb1⟩
end Go.Proofs.YtpbbbiifeihkaaaDoor
