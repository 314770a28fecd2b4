/- Joined: EvRb, EvR. -/
import Derived.Test.YtpbbbiifeihkaaaDoorEvN
import Derived.Test.YtpbbbiifeihkaaaDoorEvRa
import Derived.Test.YtpbbbiifeihkaaaDoorEvRc

/- EvRb: event.Right, a part: what is charged. -/
section
namespace Go.Proofs.YtpbbbiifeihkaaaDoor
open Go.RowKit

set_option maxHeartbeats 4000000 in
set_option maxRecDepth 100000 in
theorem right_2 (i : Int) (s : ByteArray) (q p o d : Int) (w : World) (hs : s.size ≤ 1000000) (hN : Ev.nameB s.data.toList = true) (c_d : ¬ d < 0) (g_d : ¬ 99999 < d) :
    Calls Tryd.prog 11 #[.agg #[.int .i64 i, .string s, .int .i64 2, .int .i64 q, .int .i64 p, .int .i64 o, .int .i64 d]] w (Gives (.bool (Ev.rightB s.data.toList 2 q p o d)) w) := by
  by_cases c_q : q = 0
  · subst c_q
    by_cases c_p : p < 1
    · have hB : Ev.rightB s.data.toList (2) (0) (p) (o) (d) = false := decide_eq_false (fun h => by obtain ⟨-, h1, h2, h⟩ := h; omega)
      have HB := Lib.hid hB
      have HN : Hid (∀ w, Calls Tryd.prog 18 #[.string s] w (Gives (.bool true) w)) := Lib.hid (fun w => by rw [← hN]; exact name_any s w hs)
      clear hB hN
      rw [HB.out]
      go_enter Tryd.func11, Tryd.ntmps11
      go_wp2_with fail
      refine (HN.out _).mono ?_
      rintro e w1 ⟨rfl, hb⟩
      have c1 := hb.cell (p := ⟨w.heap.size, 1, none⟩) (by simp)
      have c2 := hb.cell (p := ⟨w.heap.size, 2, none⟩) (by simp)
      have c3 := hb.cell (p := ⟨w.heap.size, 3, none⟩) (by simp)
      have c4 := hb.cell (p := ⟨w.heap.size, 4, none⟩) (by simp)
      have c5 := hb.cell (p := ⟨w.heap.size, 5, none⟩) (by simp)
      have c6 := hb.cell (p := ⟨w.heap.size, 6, none⟩) (by simp)
      simp at c1 c2 c3 c4 c5 c6
      have hb1 : Below w.heap.size w w1 := ((Below.refl _ _).alloc (Nat.le_refl _) _).step hb
      clear hb
      go_wp2
      go_ret
      exact ⟨rfl, hb1⟩
    · by_cases g_p : 100000000000 < p
      · have hB : Ev.rightB s.data.toList (2) (0) (p) (o) (d) = false := decide_eq_false (fun h => by obtain ⟨-, h1, h2, h⟩ := h; omega)
        have HB := Lib.hid hB
        have HN : Hid (∀ w, Calls Tryd.prog 18 #[.string s] w (Gives (.bool true) w)) := Lib.hid (fun w => by rw [← hN]; exact name_any s w hs)
        clear hB hN
        rw [HB.out]
        go_enter Tryd.func11, Tryd.ntmps11
        go_wp2_with fail
        refine (HN.out _).mono ?_
        rintro e w1 ⟨rfl, hb⟩
        have c1 := hb.cell (p := ⟨w.heap.size, 1, none⟩) (by simp)
        have c2 := hb.cell (p := ⟨w.heap.size, 2, none⟩) (by simp)
        have c3 := hb.cell (p := ⟨w.heap.size, 3, none⟩) (by simp)
        have c4 := hb.cell (p := ⟨w.heap.size, 4, none⟩) (by simp)
        have c5 := hb.cell (p := ⟨w.heap.size, 5, none⟩) (by simp)
        have c6 := hb.cell (p := ⟨w.heap.size, 6, none⟩) (by simp)
        simp at c1 c2 c3 c4 c5 c6
        have hb1 : Below w.heap.size w w1 := ((Below.refl _ _).alloc (Nat.le_refl _) _).step hb
        clear hb
        go_wp2
        go_ret
        exact ⟨rfl, hb1⟩
      · by_cases c_o : o < 1
        · have d_o : decide ((1 : Int) ≤ o) = false := by simp; omega
          have hB : Ev.rightB s.data.toList (2) (0) (p) (o) (d) = false := decide_eq_false (fun h => by obtain ⟨-, h1, h2, h⟩ := h; omega)
          have HB := Lib.hid hB
          have HN : Hid (∀ w, Calls Tryd.prog 18 #[.string s] w (Gives (.bool true) w)) := Lib.hid (fun w => by rw [← hN]; exact name_any s w hs)
          clear hB hN
          rw [HB.out]
          go_enter Tryd.func11, Tryd.ntmps11
          go_wp2_with fail
          refine (HN.out _).mono ?_
          rintro e w1 ⟨rfl, hb⟩
          have c1 := hb.cell (p := ⟨w.heap.size, 1, none⟩) (by simp)
          have c2 := hb.cell (p := ⟨w.heap.size, 2, none⟩) (by simp)
          have c3 := hb.cell (p := ⟨w.heap.size, 3, none⟩) (by simp)
          have c4 := hb.cell (p := ⟨w.heap.size, 4, none⟩) (by simp)
          have c5 := hb.cell (p := ⟨w.heap.size, 5, none⟩) (by simp)
          have c6 := hb.cell (p := ⟨w.heap.size, 6, none⟩) (by simp)
          simp at c1 c2 c3 c4 c5 c6
          have hb1 : Below w.heap.size w w1 := ((Below.refl _ _).alloc (Nat.le_refl _) _).step hb
          clear hb
          go_wp2
          go_ret
          exact ⟨rfl, hb1⟩
        · have hB : Ev.rightB s.data.toList (2) (0) (p) (o) (d) = true := decide_eq_true ⟨of_decide_eq_true hN, by omega, by omega, by omega⟩
          have HB := Lib.hid hB
          have HN : Hid (∀ w, Calls Tryd.prog 18 #[.string s] w (Gives (.bool true) w)) := Lib.hid (fun w => by rw [← hN]; exact name_any s w hs)
          clear hB hN
          rw [HB.out]
          go_enter Tryd.func11, Tryd.ntmps11
          go_wp2_with fail
          refine (HN.out _).mono ?_
          rintro e w1 ⟨rfl, hb⟩
          have c1 := hb.cell (p := ⟨w.heap.size, 1, none⟩) (by simp)
          have c2 := hb.cell (p := ⟨w.heap.size, 2, none⟩) (by simp)
          have c3 := hb.cell (p := ⟨w.heap.size, 3, none⟩) (by simp)
          have c4 := hb.cell (p := ⟨w.heap.size, 4, none⟩) (by simp)
          have c5 := hb.cell (p := ⟨w.heap.size, 5, none⟩) (by simp)
          have c6 := hb.cell (p := ⟨w.heap.size, 6, none⟩) (by simp)
          simp at c1 c2 c3 c4 c5 c6
          have hb1 : Below w.heap.size w w1 := ((Below.refl _ _).alloc (Nat.le_refl _) _).step hb
          clear hb
          go_wp2
          go_ret
          exact ⟨rfl, hb1⟩
  · have n_q_0 : (q == (0 : Int)) = false := by simpa using c_q
    have hB : Ev.rightB s.data.toList (2) (q) (p) (o) (d) = false := decide_eq_false (fun h => by obtain ⟨-, h1, h2, h⟩ := h; omega)
    have HB := Lib.hid hB
    have HN : Hid (∀ w, Calls Tryd.prog 18 #[.string s] w (Gives (.bool true) w)) := Lib.hid (fun w => by rw [← hN]; exact name_any s w hs)
    clear hB hN
    rw [HB.out]
    go_enter Tryd.func11, Tryd.ntmps11
    go_wp2_with fail
    refine (HN.out _).mono ?_
    rintro e w1 ⟨rfl, hb⟩
    have c1 := hb.cell (p := ⟨w.heap.size, 1, none⟩) (by simp)
    have c2 := hb.cell (p := ⟨w.heap.size, 2, none⟩) (by simp)
    have c3 := hb.cell (p := ⟨w.heap.size, 3, none⟩) (by simp)
    have c4 := hb.cell (p := ⟨w.heap.size, 4, none⟩) (by simp)
    have c5 := hb.cell (p := ⟨w.heap.size, 5, none⟩) (by simp)
    have c6 := hb.cell (p := ⟨w.heap.size, 6, none⟩) (by simp)
    simp at c1 c2 c3 c4 c5 c6
    have hb1 : Below w.heap.size w w1 := ((Below.refl _ _).alloc (Nat.le_refl _) _).step hb
    clear hb
    go_wp2
    go_ret
    exact ⟨rfl, hb1⟩
end Go.Proofs.YtpbbbiifeihkaaaDoor
end

/- EvR: event.Right, a part: joined. -/
section
namespace Go.Proofs.YtpbbbiifeihkaaaDoor
open Go.RowKit

set_option maxHeartbeats 4000000 in
set_option maxRecDepth 100000 in
theorem right_0 (i : Int) (s : ByteArray) (k q p o d : Int) (w : World) (hs : s.size ≤ 1000000) (hN : Ev.nameB s.data.toList = true) (c_d : ¬ d < 0) (g_d : ¬ 99999 < d) (c_k1 : ¬ k = 1) (c_k2 : ¬ k = 2) (c_k3 : ¬ k = 3) (c_k4 : ¬ k = 4) :
    Calls Tryd.prog 11 #[.agg #[.int .i64 i, .string s, .int .i64 k, .int .i64 q, .int .i64 p, .int .i64 o, .int .i64 d]] w (Gives (.bool (Ev.rightB s.data.toList k q p o d)) w) := by
  have n_k_1 : (k == (1 : Int)) = false := by simpa using c_k1
  have n_k_2 : (k == (2 : Int)) = false := by simpa using c_k2
  have n_k_3 : (k == (3 : Int)) = false := by simpa using c_k3
  have n_k_4 : (k == (4 : Int)) = false := by simpa using c_k4
  have hB : Ev.rightB s.data.toList (k) (q) (p) (o) (d) = false := decide_eq_false (fun h => by obtain ⟨-, h1, h2, h⟩ := h; omega)
  have HB := Lib.hid hB
  have HN : Hid (∀ w, Calls Tryd.prog 18 #[.string s] w (Gives (.bool true) w)) := Lib.hid (fun w => by rw [← hN]; exact name_any s w hs)
  clear hB hN
  rw [HB.out]
  go_enter Tryd.func11, Tryd.ntmps11
  go_wp2_with fail
  refine (HN.out _).mono ?_
  rintro e w1 ⟨rfl, hb⟩
  have c1 := hb.cell (p := ⟨w.heap.size, 1, none⟩) (by simp)
  have c2 := hb.cell (p := ⟨w.heap.size, 2, none⟩) (by simp)
  have c3 := hb.cell (p := ⟨w.heap.size, 3, none⟩) (by simp)
  have c4 := hb.cell (p := ⟨w.heap.size, 4, none⟩) (by simp)
  have c5 := hb.cell (p := ⟨w.heap.size, 5, none⟩) (by simp)
  have c6 := hb.cell (p := ⟨w.heap.size, 6, none⟩) (by simp)
  simp at c1 c2 c3 c4 c5 c6
  have hb1 : Below w.heap.size w w1 := ((Below.refl _ _).alloc (Nat.le_refl _) _).step hb
  clear hb
  go_wp2
  go_ret
  exact ⟨rfl, hb1⟩
set_option maxHeartbeats 4000000 in
set_option maxRecDepth 100000 in
theorem right_any (i : Int) (s : ByteArray) (k q p o d : Int) (w : World) (hs : s.size ≤ 1000000) :
    Calls Tryd.prog 11 #[.agg #[.int .i64 i, .string s, .int .i64 k, .int .i64 q, .int .i64 p, .int .i64 o, .int .i64 d]] w (Gives (.bool (Ev.rightB s.data.toList k q p o d)) w) := by
  by_cases hN0 : Ev.nameB s.data.toList = true
  · have hN : Ev.nameB s.data.toList = true := hN0
    clear hN0
    by_cases c_d : d < 0
    · have hB : Ev.rightB s.data.toList (k) (q) (p) (o) (d) = false := decide_eq_false (fun h => by obtain ⟨-, h1, h2, h⟩ := h; omega)
      have HB := Lib.hid hB
      have HN : Hid (∀ w, Calls Tryd.prog 18 #[.string s] w (Gives (.bool true) w)) := Lib.hid (fun w => by rw [← hN]; exact name_any s w hs)
      clear hB hN
      rw [HB.out]
      go_enter Tryd.func11, Tryd.ntmps11
      go_wp2_with fail
      refine (HN.out _).mono ?_
      rintro e w1 ⟨rfl, hb⟩
      have c1 := hb.cell (p := ⟨w.heap.size, 1, none⟩) (by simp)
      have c2 := hb.cell (p := ⟨w.heap.size, 2, none⟩) (by simp)
      have c3 := hb.cell (p := ⟨w.heap.size, 3, none⟩) (by simp)
      have c4 := hb.cell (p := ⟨w.heap.size, 4, none⟩) (by simp)
      have c5 := hb.cell (p := ⟨w.heap.size, 5, none⟩) (by simp)
      have c6 := hb.cell (p := ⟨w.heap.size, 6, none⟩) (by simp)
      simp at c1 c2 c3 c4 c5 c6
      have hb1 : Below w.heap.size w w1 := ((Below.refl _ _).alloc (Nat.le_refl _) _).step hb
      clear hb
      go_wp2
      go_ret
      exact ⟨rfl, hb1⟩
    · by_cases g_d : 99999 < d
      · have hB : Ev.rightB s.data.toList (k) (q) (p) (o) (d) = false := decide_eq_false (fun h => by obtain ⟨-, h1, h2, h⟩ := h; omega)
        have HB := Lib.hid hB
        have HN : Hid (∀ w, Calls Tryd.prog 18 #[.string s] w (Gives (.bool true) w)) := Lib.hid (fun w => by rw [← hN]; exact name_any s w hs)
        clear hB hN
        rw [HB.out]
        go_enter Tryd.func11, Tryd.ntmps11
        go_wp2_with fail
        refine (HN.out _).mono ?_
        rintro e w1 ⟨rfl, hb⟩
        have c1 := hb.cell (p := ⟨w.heap.size, 1, none⟩) (by simp)
        have c2 := hb.cell (p := ⟨w.heap.size, 2, none⟩) (by simp)
        have c3 := hb.cell (p := ⟨w.heap.size, 3, none⟩) (by simp)
        have c4 := hb.cell (p := ⟨w.heap.size, 4, none⟩) (by simp)
        have c5 := hb.cell (p := ⟨w.heap.size, 5, none⟩) (by simp)
        have c6 := hb.cell (p := ⟨w.heap.size, 6, none⟩) (by simp)
        simp at c1 c2 c3 c4 c5 c6
        have hb1 : Below w.heap.size w w1 := ((Below.refl _ _).alloc (Nat.le_refl _) _).step hb
        clear hb
        go_wp2
        go_ret
        exact ⟨rfl, hb1⟩
      · by_cases c_k1 : k = 1
        · subst c_k1
          exact right_1 i s q p o d w hs hN c_d g_d
        by_cases c_k2 : k = 2
        · subst c_k2
          exact right_2 i s q p o d w hs hN c_d g_d
        by_cases c_k3 : k = 3
        · subst c_k3
          exact right_3 i s q p o d w hs hN c_d g_d
        by_cases c_k4 : k = 4
        · subst c_k4
          exact right_4 i s q p o d w hs hN c_d g_d
        exact right_0 i s k q p o d w hs hN c_d g_d c_k1 c_k2 c_k3 c_k4
  · have hN : Ev.nameB s.data.toList = false := by simpa using hN0
    clear hN0
    have hB : Ev.rightB s.data.toList (k) (q) (p) (o) (d) = false := decide_eq_false (fun h => absurd h.1 (of_decide_eq_false hN))
    have HB := Lib.hid hB
    have HN : Hid (∀ w, Calls Tryd.prog 18 #[.string s] w (Gives (.bool false) w)) := Lib.hid (fun w => by rw [← hN]; exact name_any s w hs)
    clear hB hN
    rw [HB.out]
    go_enter Tryd.func11, Tryd.ntmps11
    go_wp2_with fail
    refine (HN.out _).mono ?_
    rintro e w1 ⟨rfl, hb⟩
    have c1 := hb.cell (p := ⟨w.heap.size, 1, none⟩) (by simp)
    have c2 := hb.cell (p := ⟨w.heap.size, 2, none⟩) (by simp)
    have c3 := hb.cell (p := ⟨w.heap.size, 3, none⟩) (by simp)
    have c4 := hb.cell (p := ⟨w.heap.size, 4, none⟩) (by simp)
    have c5 := hb.cell (p := ⟨w.heap.size, 5, none⟩) (by simp)
    have c6 := hb.cell (p := ⟨w.heap.size, 6, none⟩) (by simp)
    simp at c1 c2 c3 c4 c5 c6
    have hb1 : Below w.heap.size w w1 := ((Below.refl _ _).alloc (Nat.le_refl _) _).step hb
    clear hb
    go_wp2
    go_ret
    exact ⟨rfl, hb1⟩
end Go.Proofs.YtpbbbiifeihkaaaDoor
end
