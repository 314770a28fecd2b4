/- tallymanref.Right: what it hands back. -/
import Derived.Test.YtpbbbiifeihkaaaGreatDoorRnNi
namespace Go.Proofs.YtpbbbiifeihkaaaGreatDoor
open Go.RowKit
set_option linter.unusedVariables false

set_option maxHeartbeats 8000000 in
set_option maxRecDepth 100000 in
theorem refRight_1 (i : Int) (s : ByteArray) (q p o d : Int) (w : World) (hs : s.size ≤ 1000000) :
    Calls Tryz.prog 36 #[.agg #[.int .i64 i, .string s, .int .i64 1, .int .i64 q, .int .i64 p, .int .i64 o, .int .i64 d]] w (Gives (.bool (Ev.rightB s.data.toList 1 q p o d)) w) := by
  by_cases c0 : 1 ≤ q ∧ q ≤ 100000
  · have H0 := Lib.hid (fun w => in_yes q 1 100000 w c0.1 c0.2)
    by_cases c1 : 0 ≤ p ∧ p ≤ 1000000
    · have H1 := Lib.hid (fun w => in_yes p 0 1000000 w c1.1 c1.2)
      by_cases c2 : o = 0
      · have e2 : (o == 0) = true := by simpa using c2
        by_cases hN : Ev.NameP s.data.toList
        · by_cases cd : 0 ≤ d ∧ d ≤ 99999
          · have HD := Lib.hid (fun w => in_yes d 0 99999 w cd.1 cd.2)
            have hB : Ev.rightB s.data.toList 1 q p o d = true := decide_eq_true (⟨hN, by omega, by omega, by omega⟩)
            have HB := Lib.hid hB
            clear hB
            rw [HB.out]
            have HN : Hid (∀ w, Calls Tryz.prog 68 #[.string s] w (Gives (.bool true) w)) := Lib.hid (fun w => by have := refName_any s w hs; rwa [show Ev.nameB s.data.toList = true from decide_eq_true hN] at this)
            go_enter Tryz.func36, Tryz.ntmps36
            go_wp2_with fail
            refine (H0.out _).mono ?_
            rintro e wx ⟨rfl, rfl⟩
            go_wp2_with fail
            refine (H1.out _).mono ?_
            rintro e wx ⟨rfl, rfl⟩
            go_wp2_with fail
            refine (HN.out _).mono ?_
            rintro e w1 ⟨rfl, hb⟩
            have hc := (bcell hb).1
            simp only [World.size_alloc] at hc
            go_wp2_with fail
            refine (HD.out _).mono ?_
            rintro e wx ⟨rfl, rfl⟩
            go_wp2_with fail
            go_ret
            exact ⟨rfl, ((Below.refl _ _).new _).step hb⟩
          · have HD := Lib.hid (fun w => in_no d 0 99999 w (by omega))
            have hB : Ev.rightB s.data.toList 1 q p o d = false := decide_eq_false (fun h => by obtain ⟨h0, h1, h2, h⟩ := h; omega)
            have HB := Lib.hid hB
            clear hB
            rw [HB.out]
            have HN : Hid (∀ w, Calls Tryz.prog 68 #[.string s] w (Gives (.bool true) w)) := Lib.hid (fun w => by have := refName_any s w hs; rwa [show Ev.nameB s.data.toList = true from decide_eq_true hN] at this)
            go_enter Tryz.func36, Tryz.ntmps36
            go_wp2_with fail
            refine (H0.out _).mono ?_
            rintro e wx ⟨rfl, rfl⟩
            go_wp2_with fail
            refine (H1.out _).mono ?_
            rintro e wx ⟨rfl, rfl⟩
            go_wp2_with fail
            refine (HN.out _).mono ?_
            rintro e w1 ⟨rfl, hb⟩
            have hc := (bcell hb).1
            simp only [World.size_alloc] at hc
            go_wp2_with fail
            refine (HD.out _).mono ?_
            rintro e wx ⟨rfl, rfl⟩
            go_wp2_with fail
            go_ret
            exact ⟨rfl, ((Below.refl _ _).new _).step hb⟩
        · have hB : Ev.rightB s.data.toList 1 q p o d = false := decide_eq_false (fun h => by obtain ⟨h0, h1, h2, h⟩ := h; exact hN h0)
          have HB := Lib.hid hB
          clear hB
          rw [HB.out]
          have HN : Hid (∀ w, Calls Tryz.prog 68 #[.string s] w (Gives (.bool false) w)) := Lib.hid (fun w => by have := refName_any s w hs; rwa [show Ev.nameB s.data.toList = false from decide_eq_false hN] at this)
          go_enter Tryz.func36, Tryz.ntmps36
          go_wp2_with fail
          refine (H0.out _).mono ?_
          rintro e wx ⟨rfl, rfl⟩
          go_wp2_with fail
          refine (H1.out _).mono ?_
          rintro e wx ⟨rfl, rfl⟩
          go_wp2_with fail
          refine (HN.out _).mono ?_
          rintro e w1 ⟨rfl, hb⟩
          have hc := (bcell hb).1
          simp only [World.size_alloc] at hc
          go_wp2_with fail
          go_ret
          exact ⟨rfl, ((Below.refl _ _).new _).step hb⟩
      · have e2 : (o == 0) = false := by simpa using c2
        have hB : Ev.rightB s.data.toList 1 q p o d = false := decide_eq_false (fun h => by obtain ⟨h0, h1, h2, h⟩ := h; omega)
        have HB := Lib.hid hB
        clear hB
        rw [HB.out]
        go_enter Tryz.func36, Tryz.ntmps36
        go_wp2_with fail
        refine (H0.out _).mono ?_
        rintro e wx ⟨rfl, rfl⟩
        go_wp2_with fail
        refine (H1.out _).mono ?_
        rintro e wx ⟨rfl, rfl⟩
        go_wp2_with fail
        go_ret
        exact ⟨rfl, (Below.refl _ _).new _⟩
    · have H1 := Lib.hid (fun w => in_no p 0 1000000 w (by omega))
      have hB : Ev.rightB s.data.toList 1 q p o d = false := decide_eq_false (fun h => by obtain ⟨h0, h1, h2, h⟩ := h; omega)
      have HB := Lib.hid hB
      clear hB
      rw [HB.out]
      go_enter Tryz.func36, Tryz.ntmps36
      go_wp2_with fail
      refine (H0.out _).mono ?_
      rintro e wx ⟨rfl, rfl⟩
      go_wp2_with fail
      refine (H1.out _).mono ?_
      rintro e wx ⟨rfl, rfl⟩
      go_wp2_with fail
      go_ret
      exact ⟨rfl, (Below.refl _ _).new _⟩
  · have H0 := Lib.hid (fun w => in_no q 1 100000 w (by omega))
    have hB : Ev.rightB s.data.toList 1 q p o d = false := decide_eq_false (fun h => by obtain ⟨h0, h1, h2, h⟩ := h; omega)
    have HB := Lib.hid hB
    clear hB
    rw [HB.out]
    go_enter Tryz.func36, Tryz.ntmps36
    go_wp2_with fail
    refine (H0.out _).mono ?_
    rintro e wx ⟨rfl, rfl⟩
    go_wp2_with fail
    go_ret
    exact ⟨rfl, (Below.refl _ _).new _⟩

set_option maxHeartbeats 8000000 in
set_option maxRecDepth 100000 in
theorem refRight_2 (i : Int) (s : ByteArray) (q p o d : Int) (w : World) (hs : s.size ≤ 1000000) :
    Calls Tryz.prog 36 #[.agg #[.int .i64 i, .string s, .int .i64 2, .int .i64 q, .int .i64 p, .int .i64 o, .int .i64 d]] w (Gives (.bool (Ev.rightB s.data.toList 2 q p o d)) w) := by
  by_cases c0 : q = 0
  · have e0 : (q == 0) = true := by simpa using c0
    by_cases c1 : 1 ≤ p ∧ p ≤ 100000000000
    · have H1 := Lib.hid (fun w => in_yes p 1 100000000000 w c1.1 c1.2)
      by_cases c2 : 0 < o
      · have e2 : decide (0 < o) = true := decide_eq_true c2
        by_cases hN : Ev.NameP s.data.toList
        · by_cases cd : 0 ≤ d ∧ d ≤ 99999
          · have HD := Lib.hid (fun w => in_yes d 0 99999 w cd.1 cd.2)
            have hB : Ev.rightB s.data.toList 2 q p o d = true := decide_eq_true (⟨hN, by omega, by omega, by omega⟩)
            have HB := Lib.hid hB
            clear hB
            rw [HB.out]
            have HN : Hid (∀ w, Calls Tryz.prog 68 #[.string s] w (Gives (.bool true) w)) := Lib.hid (fun w => by have := refName_any s w hs; rwa [show Ev.nameB s.data.toList = true from decide_eq_true hN] at this)
            go_enter Tryz.func36, Tryz.ntmps36
            go_wp2_with fail
            refine (H1.out _).mono ?_
            rintro e wx ⟨rfl, rfl⟩
            go_wp2_with fail
            refine (HN.out _).mono ?_
            rintro e w1 ⟨rfl, hb⟩
            have hc := (bcell hb).1
            simp only [World.size_alloc] at hc
            go_wp2_with fail
            refine (HD.out _).mono ?_
            rintro e wx ⟨rfl, rfl⟩
            go_wp2_with fail
            go_ret
            exact ⟨rfl, ((Below.refl _ _).new _).step hb⟩
          · have HD := Lib.hid (fun w => in_no d 0 99999 w (by omega))
            have hB : Ev.rightB s.data.toList 2 q p o d = false := decide_eq_false (fun h => by obtain ⟨h0, h1, h2, h⟩ := h; omega)
            have HB := Lib.hid hB
            clear hB
            rw [HB.out]
            have HN : Hid (∀ w, Calls Tryz.prog 68 #[.string s] w (Gives (.bool true) w)) := Lib.hid (fun w => by have := refName_any s w hs; rwa [show Ev.nameB s.data.toList = true from decide_eq_true hN] at this)
            go_enter Tryz.func36, Tryz.ntmps36
            go_wp2_with fail
            refine (H1.out _).mono ?_
            rintro e wx ⟨rfl, rfl⟩
            go_wp2_with fail
            refine (HN.out _).mono ?_
            rintro e w1 ⟨rfl, hb⟩
            have hc := (bcell hb).1
            simp only [World.size_alloc] at hc
            go_wp2_with fail
            refine (HD.out _).mono ?_
            rintro e wx ⟨rfl, rfl⟩
            go_wp2_with fail
            go_ret
            exact ⟨rfl, ((Below.refl _ _).new _).step hb⟩
        · have hB : Ev.rightB s.data.toList 2 q p o d = false := decide_eq_false (fun h => by obtain ⟨h0, h1, h2, h⟩ := h; exact hN h0)
          have HB := Lib.hid hB
          clear hB
          rw [HB.out]
          have HN : Hid (∀ w, Calls Tryz.prog 68 #[.string s] w (Gives (.bool false) w)) := Lib.hid (fun w => by have := refName_any s w hs; rwa [show Ev.nameB s.data.toList = false from decide_eq_false hN] at this)
          go_enter Tryz.func36, Tryz.ntmps36
          go_wp2_with fail
          refine (H1.out _).mono ?_
          rintro e wx ⟨rfl, rfl⟩
          go_wp2_with fail
          refine (HN.out _).mono ?_
          rintro e w1 ⟨rfl, hb⟩
          have hc := (bcell hb).1
          simp only [World.size_alloc] at hc
          go_wp2_with fail
          go_ret
          exact ⟨rfl, ((Below.refl _ _).new _).step hb⟩
      · have e2 : decide (0 < o) = false := decide_eq_false c2
        have hB : Ev.rightB s.data.toList 2 q p o d = false := decide_eq_false (fun h => by obtain ⟨h0, h1, h2, h⟩ := h; omega)
        have HB := Lib.hid hB
        clear hB
        rw [HB.out]
        go_enter Tryz.func36, Tryz.ntmps36
        go_wp2_with fail
        refine (H1.out _).mono ?_
        rintro e wx ⟨rfl, rfl⟩
        go_wp2_with fail
        go_ret
        exact ⟨rfl, (Below.refl _ _).new _⟩
    · have H1 := Lib.hid (fun w => in_no p 1 100000000000 w (by omega))
      have hB : Ev.rightB s.data.toList 2 q p o d = false := decide_eq_false (fun h => by obtain ⟨h0, h1, h2, h⟩ := h; omega)
      have HB := Lib.hid hB
      clear hB
      rw [HB.out]
      go_enter Tryz.func36, Tryz.ntmps36
      go_wp2_with fail
      refine (H1.out _).mono ?_
      rintro e wx ⟨rfl, rfl⟩
      go_wp2_with fail
      go_ret
      exact ⟨rfl, (Below.refl _ _).new _⟩
  · have e0 : (q == 0) = false := by simpa using c0
    have hB : Ev.rightB s.data.toList 2 q p o d = false := decide_eq_false (fun h => by obtain ⟨h0, h1, h2, h⟩ := h; omega)
    have HB := Lib.hid hB
    clear hB
    rw [HB.out]
    go_enter Tryz.func36, Tryz.ntmps36
    go_wp2_with fail
    go_ret
    exact ⟨rfl, (Below.refl _ _).new _⟩

set_option maxHeartbeats 8000000 in
set_option maxRecDepth 100000 in
theorem refRight_3 (i : Int) (s : ByteArray) (q p o d : Int) (w : World) (hs : s.size ≤ 1000000) :
    Calls Tryz.prog 36 #[.agg #[.int .i64 i, .string s, .int .i64 3, .int .i64 q, .int .i64 p, .int .i64 o, .int .i64 d]] w (Gives (.bool (Ev.rightB s.data.toList 3 q p o d)) w) := by
  by_cases c0 : 1 ≤ q ∧ q ≤ 100000
  · have H0 := Lib.hid (fun w => in_yes q 1 100000 w c0.1 c0.2)
    by_cases c1 : p = 0
    · have e1 : (p == 0) = true := by simpa using c1
      by_cases c2 : o = 0
      · have e2 : (o == 0) = true := by simpa using c2
        by_cases hN : Ev.NameP s.data.toList
        · by_cases cd : 0 ≤ d ∧ d ≤ 99999
          · have HD := Lib.hid (fun w => in_yes d 0 99999 w cd.1 cd.2)
            have hB : Ev.rightB s.data.toList 3 q p o d = true := decide_eq_true (⟨hN, by omega, by omega, by omega⟩)
            have HB := Lib.hid hB
            clear hB
            rw [HB.out]
            have HN : Hid (∀ w, Calls Tryz.prog 68 #[.string s] w (Gives (.bool true) w)) := Lib.hid (fun w => by have := refName_any s w hs; rwa [show Ev.nameB s.data.toList = true from decide_eq_true hN] at this)
            go_enter Tryz.func36, Tryz.ntmps36
            go_wp2_with fail
            refine (H0.out _).mono ?_
            rintro e wx ⟨rfl, rfl⟩
            go_wp2_with fail
            refine (HN.out _).mono ?_
            rintro e w1 ⟨rfl, hb⟩
            have hc := (bcell hb).1
            simp only [World.size_alloc] at hc
            go_wp2_with fail
            refine (HD.out _).mono ?_
            rintro e wx ⟨rfl, rfl⟩
            go_wp2_with fail
            go_ret
            exact ⟨rfl, ((Below.refl _ _).new _).step hb⟩
          · have HD := Lib.hid (fun w => in_no d 0 99999 w (by omega))
            have hB : Ev.rightB s.data.toList 3 q p o d = false := decide_eq_false (fun h => by obtain ⟨h0, h1, h2, h⟩ := h; omega)
            have HB := Lib.hid hB
            clear hB
            rw [HB.out]
            have HN : Hid (∀ w, Calls Tryz.prog 68 #[.string s] w (Gives (.bool true) w)) := Lib.hid (fun w => by have := refName_any s w hs; rwa [show Ev.nameB s.data.toList = true from decide_eq_true hN] at this)
            go_enter Tryz.func36, Tryz.ntmps36
            go_wp2_with fail
            refine (H0.out _).mono ?_
            rintro e wx ⟨rfl, rfl⟩
            go_wp2_with fail
            refine (HN.out _).mono ?_
            rintro e w1 ⟨rfl, hb⟩
            have hc := (bcell hb).1
            simp only [World.size_alloc] at hc
            go_wp2_with fail
            refine (HD.out _).mono ?_
            rintro e wx ⟨rfl, rfl⟩
            go_wp2_with fail
            go_ret
            exact ⟨rfl, ((Below.refl _ _).new _).step hb⟩
        · have hB : Ev.rightB s.data.toList 3 q p o d = false := decide_eq_false (fun h => by obtain ⟨h0, h1, h2, h⟩ := h; exact hN h0)
          have HB := Lib.hid hB
          clear hB
          rw [HB.out]
          have HN : Hid (∀ w, Calls Tryz.prog 68 #[.string s] w (Gives (.bool false) w)) := Lib.hid (fun w => by have := refName_any s w hs; rwa [show Ev.nameB s.data.toList = false from decide_eq_false hN] at this)
          go_enter Tryz.func36, Tryz.ntmps36
          go_wp2_with fail
          refine (H0.out _).mono ?_
          rintro e wx ⟨rfl, rfl⟩
          go_wp2_with fail
          refine (HN.out _).mono ?_
          rintro e w1 ⟨rfl, hb⟩
          have hc := (bcell hb).1
          simp only [World.size_alloc] at hc
          go_wp2_with fail
          go_ret
          exact ⟨rfl, ((Below.refl _ _).new _).step hb⟩
      · have e2 : (o == 0) = false := by simpa using c2
        have hB : Ev.rightB s.data.toList 3 q p o d = false := decide_eq_false (fun h => by obtain ⟨h0, h1, h2, h⟩ := h; omega)
        have HB := Lib.hid hB
        clear hB
        rw [HB.out]
        go_enter Tryz.func36, Tryz.ntmps36
        go_wp2_with fail
        refine (H0.out _).mono ?_
        rintro e wx ⟨rfl, rfl⟩
        go_wp2_with fail
        go_ret
        exact ⟨rfl, (Below.refl _ _).new _⟩
    · have e1 : (p == 0) = false := by simpa using c1
      have hB : Ev.rightB s.data.toList 3 q p o d = false := decide_eq_false (fun h => by obtain ⟨h0, h1, h2, h⟩ := h; omega)
      have HB := Lib.hid hB
      clear hB
      rw [HB.out]
      go_enter Tryz.func36, Tryz.ntmps36
      go_wp2_with fail
      refine (H0.out _).mono ?_
      rintro e wx ⟨rfl, rfl⟩
      go_wp2_with fail
      go_ret
      exact ⟨rfl, (Below.refl _ _).new _⟩
  · have H0 := Lib.hid (fun w => in_no q 1 100000 w (by omega))
    have hB : Ev.rightB s.data.toList 3 q p o d = false := decide_eq_false (fun h => by obtain ⟨h0, h1, h2, h⟩ := h; omega)
    have HB := Lib.hid hB
    clear hB
    rw [HB.out]
    go_enter Tryz.func36, Tryz.ntmps36
    go_wp2_with fail
    refine (H0.out _).mono ?_
    rintro e wx ⟨rfl, rfl⟩
    go_wp2_with fail
    go_ret
    exact ⟨rfl, (Below.refl _ _).new _⟩

set_option maxHeartbeats 8000000 in
set_option maxRecDepth 100000 in
theorem refRight_4 (i : Int) (s : ByteArray) (q p o d : Int) (w : World) (hs : s.size ≤ 1000000) :
    Calls Tryz.prog 36 #[.agg #[.int .i64 i, .string s, .int .i64 4, .int .i64 q, .int .i64 p, .int .i64 o, .int .i64 d]] w (Gives (.bool (Ev.rightB s.data.toList 4 q p o d)) w) := by
  by_cases c0 : 0 ≤ q ∧ q ≤ 100000
  · have H0 := Lib.hid (fun w => in_yes q 0 100000 w c0.1 c0.2)
    by_cases c1 : p = 0
    · have e1 : (p == 0) = true := by simpa using c1
      by_cases c2 : o = 0
      · have e2 : (o == 0) = true := by simpa using c2
        by_cases hN : Ev.NameP s.data.toList
        · by_cases cd : 0 ≤ d ∧ d ≤ 99999
          · have HD := Lib.hid (fun w => in_yes d 0 99999 w cd.1 cd.2)
            have hB : Ev.rightB s.data.toList 4 q p o d = true := decide_eq_true (⟨hN, by omega, by omega, by omega⟩)
            have HB := Lib.hid hB
            clear hB
            rw [HB.out]
            have HN : Hid (∀ w, Calls Tryz.prog 68 #[.string s] w (Gives (.bool true) w)) := Lib.hid (fun w => by have := refName_any s w hs; rwa [show Ev.nameB s.data.toList = true from decide_eq_true hN] at this)
            go_enter Tryz.func36, Tryz.ntmps36
            go_wp2_with fail
            refine (H0.out _).mono ?_
            rintro e wx ⟨rfl, rfl⟩
            go_wp2_with fail
            refine (HN.out _).mono ?_
            rintro e w1 ⟨rfl, hb⟩
            have hc := (bcell hb).1
            simp only [World.size_alloc] at hc
            go_wp2_with fail
            refine (HD.out _).mono ?_
            rintro e wx ⟨rfl, rfl⟩
            go_wp2_with fail
            go_ret
            exact ⟨rfl, ((Below.refl _ _).new _).step hb⟩
          · have HD := Lib.hid (fun w => in_no d 0 99999 w (by omega))
            have hB : Ev.rightB s.data.toList 4 q p o d = false := decide_eq_false (fun h => by obtain ⟨h0, h1, h2, h⟩ := h; omega)
            have HB := Lib.hid hB
            clear hB
            rw [HB.out]
            have HN : Hid (∀ w, Calls Tryz.prog 68 #[.string s] w (Gives (.bool true) w)) := Lib.hid (fun w => by have := refName_any s w hs; rwa [show Ev.nameB s.data.toList = true from decide_eq_true hN] at this)
            go_enter Tryz.func36, Tryz.ntmps36
            go_wp2_with fail
            refine (H0.out _).mono ?_
            rintro e wx ⟨rfl, rfl⟩
            go_wp2_with fail
            refine (HN.out _).mono ?_
            rintro e w1 ⟨rfl, hb⟩
            have hc := (bcell hb).1
            simp only [World.size_alloc] at hc
            go_wp2_with fail
            refine (HD.out _).mono ?_
            rintro e wx ⟨rfl, rfl⟩
            go_wp2_with fail
            go_ret
            exact ⟨rfl, ((Below.refl _ _).new _).step hb⟩
        · have hB : Ev.rightB s.data.toList 4 q p o d = false := decide_eq_false (fun h => by obtain ⟨h0, h1, h2, h⟩ := h; exact hN h0)
          have HB := Lib.hid hB
          clear hB
          rw [HB.out]
          have HN : Hid (∀ w, Calls Tryz.prog 68 #[.string s] w (Gives (.bool false) w)) := Lib.hid (fun w => by have := refName_any s w hs; rwa [show Ev.nameB s.data.toList = false from decide_eq_false hN] at this)
          go_enter Tryz.func36, Tryz.ntmps36
          go_wp2_with fail
          refine (H0.out _).mono ?_
          rintro e wx ⟨rfl, rfl⟩
          go_wp2_with fail
          refine (HN.out _).mono ?_
          rintro e w1 ⟨rfl, hb⟩
          have hc := (bcell hb).1
          simp only [World.size_alloc] at hc
          go_wp2_with fail
          go_ret
          exact ⟨rfl, ((Below.refl _ _).new _).step hb⟩
      · have e2 : (o == 0) = false := by simpa using c2
        have hB : Ev.rightB s.data.toList 4 q p o d = false := decide_eq_false (fun h => by obtain ⟨h0, h1, h2, h⟩ := h; omega)
        have HB := Lib.hid hB
        clear hB
        rw [HB.out]
        go_enter Tryz.func36, Tryz.ntmps36
        go_wp2_with fail
        refine (H0.out _).mono ?_
        rintro e wx ⟨rfl, rfl⟩
        go_wp2_with fail
        go_ret
        exact ⟨rfl, (Below.refl _ _).new _⟩
    · have e1 : (p == 0) = false := by simpa using c1
      have hB : Ev.rightB s.data.toList 4 q p o d = false := decide_eq_false (fun h => by obtain ⟨h0, h1, h2, h⟩ := h; omega)
      have HB := Lib.hid hB
      clear hB
      rw [HB.out]
      go_enter Tryz.func36, Tryz.ntmps36
      go_wp2_with fail
      refine (H0.out _).mono ?_
      rintro e wx ⟨rfl, rfl⟩
      go_wp2_with fail
      go_ret
      exact ⟨rfl, (Below.refl _ _).new _⟩
  · have H0 := Lib.hid (fun w => in_no q 0 100000 w (by omega))
    have hB : Ev.rightB s.data.toList 4 q p o d = false := decide_eq_false (fun h => by obtain ⟨h0, h1, h2, h⟩ := h; omega)
    have HB := Lib.hid hB
    clear hB
    rw [HB.out]
    go_enter Tryz.func36, Tryz.ntmps36
    go_wp2_with fail
    refine (H0.out _).mono ?_
    rintro e wx ⟨rfl, rfl⟩
    go_wp2_with fail
    go_ret
    exact ⟨rfl, (Below.refl _ _).new _⟩

set_option maxHeartbeats 1000000 in
set_option maxRecDepth 100000 in
theorem refRight_any (i : Int) (s : ByteArray) (k q p o d : Int) (w : World) (hs : s.size ≤ 1000000) :
    Calls Tryz.prog 36 #[.agg #[.int .i64 i, .string s, .int .i64 k, .int .i64 q, .int .i64 p, .int .i64 o, .int .i64 d]] w (Gives (.bool (Ev.rightB s.data.toList k q p o d)) w) := by
  by_cases c1 : k = 1
  · subst c1; exact refRight_1 i s q p o d w hs
  by_cases c2 : k = 2
  · subst c2; exact refRight_2 i s q p o d w hs
  by_cases c3 : k = 3
  · subst c3; exact refRight_3 i s q p o d w hs
  by_cases c4 : k = 4
  · subst c4; exact refRight_4 i s q p o d w hs
  have hB : Ev.rightB s.data.toList k q p o d = false := decide_eq_false (fun h => by obtain ⟨h0, h1, h2, h⟩ := h; omega)
  have HB := Lib.hid hB
  clear hB
  rw [HB.out]
  have n1 : (k == 1) = false := by simpa using c1
  have n2 : (k == 2) = false := by simpa using c2
  have n3 : (k == 3) = false := by simpa using c3
  have n4 : (k == 4) = false := by simpa using c4
  go_enter Tryz.func36, Tryz.ntmps36
  go_wp2
  go_ret
  exact ⟨rfl, (Below.refl _ _).new _⟩
end Go.Proofs.YtpbbbiifeihkaaaGreatDoor
