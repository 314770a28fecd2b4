/- tallymanlaw.EventReads: the walk. -/
import Derived.Test.YtjmeefmofbpbnaaGreatDoorJoined12
namespace Go.Proofs.YtjmeefmofbpbnaaGreatDoor
open Go.RowKit

set_option maxHeartbeats 4000000 in
set_option maxRecDepth 100000 in
theorem eventReads_walk (i k q p o d i' k' q' p' o' d' : Int) (s s' l : ByteArray) (w : World) (hw : XW w) (h1 : s.size ≤ maxLen) (h2 : s'.size ≤ maxLen) (h3 : l.size ≤ maxLen) (ho : o ≤ 9223372036854775807) :
    Calls Tryz.prog 3 #[.agg #[.int .i64 i, .string s, .int .i64 k, .int .i64 q, .int .i64 p, .int .i64 o, .int .i64 d], .agg #[.int .i64 i', .string s', .int .i64 k', .int .i64 q', .int .i64 p', .int .i64 o', .int .i64 d'], .string l] w (Gives (.bool true) w) := by
  unfold maxLen at h1 h2 h3
  have hb0 : Below w.heap.size w ((w.alloc (.cells #[.int .i64 i, .string s, .int .i64 k, .int .i64 q, .int .i64 p, .int .i64 o, .int .i64 d] 23)).alloc (.cells #[.int .i64 i', .string s', .int .i64 k', .int .i64 q', .int .i64 p', .int .i64 o', .int .i64 d'] 23)) := ((Below.refl _ _).new _).new _
  by_cases c1 : 200 < l.size
  · go_enter Tryz.func3, Tryz.ntmps3
    go_wp2
    go_ret
    exact ⟨rfl, hb0⟩
  by_cases c2 : 60 < s.size
  · go_enter Tryz.func3, Tryz.ntmps3
    go_wp2
    go_ret
    exact ⟨rfl, hb0⟩
  by_cases c3 : 60 < s'.size
  · go_enter Tryz.func3, Tryz.ntmps3
    go_wp2
    go_ret
    exact ⟨rfl, hb0⟩
  obtain ⟨t, tc, ter, t1, t2, t3⟩ := alike_text i s k q p o d (by omega) ho
  obtain ⟨it, zk, zq, zp, zo, zd, zc, zer, z1, z2, z3⟩ := alike_ev l (by omega)
  have hsm := ev_same 0 zk zq zp zo zd it
  have HR1 := Lib.hid (fun w => right_any i s k q p o d w (by omega))
  have HR2 := Lib.hid (fun w => refRight_any i s k q p o d w (by omega))
  have HN1 := Lib.hid (fun w => name_any s w (by omega))
  have HN2 := Lib.hid (fun w => refName_any s w (by omega))
  have HC := Lib.hid (fun w => compare_any i k q p o d i' k' q' p' o' d' s s' w)
  have HA1 := Lib.hid (fun w => ahead_any i k q p o d i' k' q' p' o' d' s s' w)
  have HA2 := Lib.hid (fun w => ahead_any i' k' q' p' o' d' i k q p o d s' s w)
  have hcase := ahead_cases i k d i' k' d'
  generalize Ev.rightB s.data.toList k q p o d = R at HR1 HR2
  generalize Ev.nameB s.data.toList = N at HN1 HN2
  generalize Ev.cmpE i k d i' k' d' = c at HC hcase
  generalize Ev.aheadB i k d i' k' d' = A1 at HA1 hcase
  generalize Ev.aheadB i' k' d' i k d = A2 at HA2 hcase
  have eR : (R != R) = false := by simp
  have eN : (N != N) = false := by simp
  rcases hcase with ⟨rfl, rfl⟩ | ⟨rfl, rfl, rfl⟩ | ⟨rfl, rfl, rfl⟩
  · go_enter Tryz.func3, Tryz.ntmps3
    go_wp2_with fail
    refine (HA1.out _).mono ?_
    rintro e w1 ⟨rfl, hb1⟩
    have hB1 : Below (w.heap.size + 2) ((w.alloc (.cells #[.int .i64 i, .string s, .int .i64 k, .int .i64 q, .int .i64 p, .int .i64 o, .int .i64 d] 23)).alloc (.cells #[.int .i64 i', .string s', .int .i64 k', .int .i64 q', .int .i64 p', .int .i64 o', .int .i64 d'] 23)) w1 := by have h := hb1; simp only [World.size_alloc] at h; exact h
    have hx1 : ∀ j, w1.cell? ⟨w.heap.size, j, none⟩ = ((w.alloc (.cells #[.int .i64 i, .string s, .int .i64 k, .int .i64 q, .int .i64 p, .int .i64 o, .int .i64 d] 23)).alloc (.cells #[.int .i64 i', .string s', .int .i64 k', .int .i64 q', .int .i64 p', .int .i64 o', .int .i64 d'] 23)).cell? ⟨w.heap.size, j, none⟩ := fun j => hB1.cell (p := ⟨w.heap.size, j, none⟩) (by simp)
    have hy1 : ∀ j, w1.cell? ⟨w.heap.size + 1, j, none⟩ = ((w.alloc (.cells #[.int .i64 i, .string s, .int .i64 k, .int .i64 q, .int .i64 p, .int .i64 o, .int .i64 d] 23)).alloc (.cells #[.int .i64 i', .string s', .int .i64 k', .int .i64 q', .int .i64 p', .int .i64 o', .int .i64 d'] 23)).cell? ⟨w.heap.size + 1, j, none⟩ := fun j => hB1.cell (p := ⟨w.heap.size + 1, j, none⟩) (by simp)
    have hl1 : w.heap.size < w1.heap.size := by have := hB1.size; simp only [World.size_alloc] at this; omega
    have hm1 : w.heap.size + 1 < w1.heap.size := by have := hB1.size; simp only [World.size_alloc] at this; omega
    have hw1 : XW w1 := hw.below (hb0.trans (hB1.mono (by omega)))
    clear hb1
    go_wp2_with fail
    have hcs := fun (p : Since w1) b o h => Since.cells p b o h
    refine wp_region_since (by kernel_rfl) (by kernel_rfl) ?_
    repeat (quiet_step (first
      | (with_reducible exact Calls.since_of (HR1.out _))
      | (with_reducible exact Calls.since_of (HR2.out _))
      | (with_reducible exact Calls.since_of (HN1.out _))
      | (with_reducible exact Calls.since_of (HN2.out _))
      | (with_reducible exact Calls.since_of (HC.out _))))
    refine wpQuiet_nil ?_
    intro w2 hw'
    obtain ⟨pp, hp⟩ := hw'
    have hb2 : Below w1.heap.size w1 w2 := by rw [hp]; exact pp.h
    clear hp pp hcs
    have hB2 : Below (w.heap.size + 2) ((w.alloc (.cells #[.int .i64 i, .string s, .int .i64 k, .int .i64 q, .int .i64 p, .int .i64 o, .int .i64 d] 23)).alloc (.cells #[.int .i64 i', .string s', .int .i64 k', .int .i64 q', .int .i64 p', .int .i64 o', .int .i64 d'] 23)) w2 := hB1.trans (hb2.mono (by have := hB1.size; simp only [World.size_alloc] at this; omega))
    have hx2 : ∀ j, w2.cell? ⟨w.heap.size, j, none⟩ = ((w.alloc (.cells #[.int .i64 i, .string s, .int .i64 k, .int .i64 q, .int .i64 p, .int .i64 o, .int .i64 d] 23)).alloc (.cells #[.int .i64 i', .string s', .int .i64 k', .int .i64 q', .int .i64 p', .int .i64 o', .int .i64 d'] 23)).cell? ⟨w.heap.size, j, none⟩ := fun j => hB2.cell (p := ⟨w.heap.size, j, none⟩) (by simp)
    have hy2 : ∀ j, w2.cell? ⟨w.heap.size + 1, j, none⟩ = ((w.alloc (.cells #[.int .i64 i, .string s, .int .i64 k, .int .i64 q, .int .i64 p, .int .i64 o, .int .i64 d] 23)).alloc (.cells #[.int .i64 i', .string s', .int .i64 k', .int .i64 q', .int .i64 p', .int .i64 o', .int .i64 d'] 23)).cell? ⟨w.heap.size + 1, j, none⟩ := fun j => hB2.cell (p := ⟨w.heap.size + 1, j, none⟩) (by simp)
    have hl2 : w.heap.size < w2.heap.size := by have := hB2.size; simp only [World.size_alloc] at this; omega
    have hm2 : w.heap.size + 1 < w2.heap.size := by have := hB2.size; simp only [World.size_alloc] at this; omega
    have hw2 : XW w2 := hw.below (hb0.trans (hB2.mono (by omega)))
    clear hb2 hx1 hy1 hl1 hm1 hB1 hw1
    go_wp2_with fail
    refine (t1.out _ hw2).mono ?_
    rintro e w3 ⟨rfl, hb3⟩
    have hB3 : Below (w.heap.size + 2) ((w.alloc (.cells #[.int .i64 i, .string s, .int .i64 k, .int .i64 q, .int .i64 p, .int .i64 o, .int .i64 d] 23)).alloc (.cells #[.int .i64 i', .string s', .int .i64 k', .int .i64 q', .int .i64 p', .int .i64 o', .int .i64 d'] 23)) w3 := hB2.trans (hb3.mono (by have := hB2.size; simp only [World.size_alloc] at this; omega))
    have hx3 : ∀ j, w3.cell? ⟨w.heap.size, j, none⟩ = ((w.alloc (.cells #[.int .i64 i, .string s, .int .i64 k, .int .i64 q, .int .i64 p, .int .i64 o, .int .i64 d] 23)).alloc (.cells #[.int .i64 i', .string s', .int .i64 k', .int .i64 q', .int .i64 p', .int .i64 o', .int .i64 d'] 23)).cell? ⟨w.heap.size, j, none⟩ := fun j => hB3.cell (p := ⟨w.heap.size, j, none⟩) (by simp)
    have hy3 : ∀ j, w3.cell? ⟨w.heap.size + 1, j, none⟩ = ((w.alloc (.cells #[.int .i64 i, .string s, .int .i64 k, .int .i64 q, .int .i64 p, .int .i64 o, .int .i64 d] 23)).alloc (.cells #[.int .i64 i', .string s', .int .i64 k', .int .i64 q', .int .i64 p', .int .i64 o', .int .i64 d'] 23)).cell? ⟨w.heap.size + 1, j, none⟩ := fun j => hB3.cell (p := ⟨w.heap.size + 1, j, none⟩) (by simp)
    have hl3 : w.heap.size < w3.heap.size := by have := hB3.size; simp only [World.size_alloc] at this; omega
    have hm3 : w.heap.size + 1 < w3.heap.size := by have := hB3.size; simp only [World.size_alloc] at this; omega
    have hw3 : XW w3 := hw.below (hb0.trans (hB3.mono (by omega)))
    clear hb3 hx2 hy2 hl2 hm2 hB2 hw2
    go_wp2_with fail
    refine (t2.out _ hw3).mono ?_
    rintro e w4 ⟨rfl, hb4⟩
    have hB4 : Below (w.heap.size + 2) ((w.alloc (.cells #[.int .i64 i, .string s, .int .i64 k, .int .i64 q, .int .i64 p, .int .i64 o, .int .i64 d] 23)).alloc (.cells #[.int .i64 i', .string s', .int .i64 k', .int .i64 q', .int .i64 p', .int .i64 o', .int .i64 d'] 23)) w4 := hB3.trans (hb4.mono (by have := hB3.size; simp only [World.size_alloc] at this; omega))
    have hx4 : ∀ j, w4.cell? ⟨w.heap.size, j, none⟩ = ((w.alloc (.cells #[.int .i64 i, .string s, .int .i64 k, .int .i64 q, .int .i64 p, .int .i64 o, .int .i64 d] 23)).alloc (.cells #[.int .i64 i', .string s', .int .i64 k', .int .i64 q', .int .i64 p', .int .i64 o', .int .i64 d'] 23)).cell? ⟨w.heap.size, j, none⟩ := fun j => hB4.cell (p := ⟨w.heap.size, j, none⟩) (by simp)
    have hy4 : ∀ j, w4.cell? ⟨w.heap.size + 1, j, none⟩ = ((w.alloc (.cells #[.int .i64 i, .string s, .int .i64 k, .int .i64 q, .int .i64 p, .int .i64 o, .int .i64 d] 23)).alloc (.cells #[.int .i64 i', .string s', .int .i64 k', .int .i64 q', .int .i64 p', .int .i64 o', .int .i64 d'] 23)).cell? ⟨w.heap.size + 1, j, none⟩ := fun j => hB4.cell (p := ⟨w.heap.size + 1, j, none⟩) (by simp)
    have hl4 : w.heap.size < w4.heap.size := by have := hB4.size; simp only [World.size_alloc] at this; omega
    have hm4 : w.heap.size + 1 < w4.heap.size := by have := hB4.size; simp only [World.size_alloc] at this; omega
    have hw4 : XW w4 := hw.below (hb0.trans (hB4.mono (by omega)))
    clear hb4 hx3 hy3 hl3 hm3 hB3 hw3
    go_wp2_with fail
    refine (t3.out _ hw4).mono ?_
    rintro e w5 ⟨rfl, hb5⟩
    have hB5 : Below (w.heap.size + 2) ((w.alloc (.cells #[.int .i64 i, .string s, .int .i64 k, .int .i64 q, .int .i64 p, .int .i64 o, .int .i64 d] 23)).alloc (.cells #[.int .i64 i', .string s', .int .i64 k', .int .i64 q', .int .i64 p', .int .i64 o', .int .i64 d'] 23)) w5 := hB4.trans (hb5.mono (by have := hB4.size; simp only [World.size_alloc] at this; omega))
    have hx5 : ∀ j, w5.cell? ⟨w.heap.size, j, none⟩ = ((w.alloc (.cells #[.int .i64 i, .string s, .int .i64 k, .int .i64 q, .int .i64 p, .int .i64 o, .int .i64 d] 23)).alloc (.cells #[.int .i64 i', .string s', .int .i64 k', .int .i64 q', .int .i64 p', .int .i64 o', .int .i64 d'] 23)).cell? ⟨w.heap.size, j, none⟩ := fun j => hB5.cell (p := ⟨w.heap.size, j, none⟩) (by simp)
    have hy5 : ∀ j, w5.cell? ⟨w.heap.size + 1, j, none⟩ = ((w.alloc (.cells #[.int .i64 i, .string s, .int .i64 k, .int .i64 q, .int .i64 p, .int .i64 o, .int .i64 d] 23)).alloc (.cells #[.int .i64 i', .string s', .int .i64 k', .int .i64 q', .int .i64 p', .int .i64 o', .int .i64 d'] 23)).cell? ⟨w.heap.size + 1, j, none⟩ := fun j => hB5.cell (p := ⟨w.heap.size + 1, j, none⟩) (by simp)
    have hl5 : w.heap.size < w5.heap.size := by have := hB5.size; simp only [World.size_alloc] at this; omega
    have hm5 : w.heap.size + 1 < w5.heap.size := by have := hB5.size; simp only [World.size_alloc] at this; omega
    have hw5 : XW w5 := hw.below (hb0.trans (hB5.mono (by omega)))
    clear hb5 hx4 hy4 hl4 hm4 hB4 hw4
    go_wp2_with fail
    refine (z1.out _ hw5).mono ?_
    rintro e w6 ⟨rfl, hb6⟩
    have hB6 : Below (w.heap.size + 2) ((w.alloc (.cells #[.int .i64 i, .string s, .int .i64 k, .int .i64 q, .int .i64 p, .int .i64 o, .int .i64 d] 23)).alloc (.cells #[.int .i64 i', .string s', .int .i64 k', .int .i64 q', .int .i64 p', .int .i64 o', .int .i64 d'] 23)) w6 := hB5.trans (hb6.mono (by have := hB5.size; simp only [World.size_alloc] at this; omega))
    have hx6 : ∀ j, w6.cell? ⟨w.heap.size, j, none⟩ = ((w.alloc (.cells #[.int .i64 i, .string s, .int .i64 k, .int .i64 q, .int .i64 p, .int .i64 o, .int .i64 d] 23)).alloc (.cells #[.int .i64 i', .string s', .int .i64 k', .int .i64 q', .int .i64 p', .int .i64 o', .int .i64 d'] 23)).cell? ⟨w.heap.size, j, none⟩ := fun j => hB6.cell (p := ⟨w.heap.size, j, none⟩) (by simp)
    have hy6 : ∀ j, w6.cell? ⟨w.heap.size + 1, j, none⟩ = ((w.alloc (.cells #[.int .i64 i, .string s, .int .i64 k, .int .i64 q, .int .i64 p, .int .i64 o, .int .i64 d] 23)).alloc (.cells #[.int .i64 i', .string s', .int .i64 k', .int .i64 q', .int .i64 p', .int .i64 o', .int .i64 d'] 23)).cell? ⟨w.heap.size + 1, j, none⟩ := fun j => hB6.cell (p := ⟨w.heap.size + 1, j, none⟩) (by simp)
    have hl6 : w.heap.size < w6.heap.size := by have := hB6.size; simp only [World.size_alloc] at this; omega
    have hm6 : w.heap.size + 1 < w6.heap.size := by have := hB6.size; simp only [World.size_alloc] at this; omega
    have hw6 : XW w6 := hw.below (hb0.trans (hB6.mono (by omega)))
    clear hb6 hx5 hy5 hl5 hm5 hB5 hw5
    go_wp2_with fail
    have hZ := hB6.alloc (by omega) (.cells #[.int .i64 0, .string it, .int .i64 zk, .int .i64 zq, .int .i64 zp, .int .i64 zo, .int .i64 zd] 23)
    refine (z2.out _ (hw.below (hb0.trans (hZ.mono (by omega))))).mono ?_
    rintro e w7 ⟨rfl, hb7⟩
    have hZ1 := hZ.trans (hb7.mono (by simp only [World.size_alloc]; omega))
    have hz1 := (bcell hb7).1
    simp only [World.size_alloc] at hz1
    have hk1 : w6.heap.size < w7.heap.size := by have := hb7.size; simp only [World.size_alloc] at this; omega
    clear hZ hb7
    go_wp2_with fail
    have hZ2 := hZ1.alloc (by omega) (.cells #[.int .i64 0, .string it, .int .i64 zk, .int .i64 zq, .int .i64 zp, .int .i64 zo, .int .i64 zd] 23)
    refine (z3.out _ (hw.below (hb0.trans (hZ2.mono (by omega))))).mono ?_
    rintro e w8 ⟨rfl, hb8⟩
    have hZ3 := hZ2.trans (hb8.mono (by simp only [World.size_alloc]; omega))
    have hz2 := (bcell hb8).1
    simp only [World.size_alloc] at hz2
    have hk2 : w7.heap.size < w8.heap.size := by have := hb8.size; simp only [World.size_alloc] at this; omega
    have hk3 : w6.heap.size < w8.heap.size := by omega
    clear hZ2 hb8
    go_wp2_with fail
    go_ret
    exact ⟨rfl, hb0.trans (hZ3.mono (by omega))⟩
  · go_enter Tryz.func3, Tryz.ntmps3
    go_wp2_with fail
    refine (HA1.out _).mono ?_
    rintro e w1 ⟨rfl, hb1⟩
    have hB1 : Below (w.heap.size + 2) ((w.alloc (.cells #[.int .i64 i, .string s, .int .i64 k, .int .i64 q, .int .i64 p, .int .i64 o, .int .i64 d] 23)).alloc (.cells #[.int .i64 i', .string s', .int .i64 k', .int .i64 q', .int .i64 p', .int .i64 o', .int .i64 d'] 23)) w1 := by have h := hb1; simp only [World.size_alloc] at h; exact h
    have hx1 : ∀ j, w1.cell? ⟨w.heap.size, j, none⟩ = ((w.alloc (.cells #[.int .i64 i, .string s, .int .i64 k, .int .i64 q, .int .i64 p, .int .i64 o, .int .i64 d] 23)).alloc (.cells #[.int .i64 i', .string s', .int .i64 k', .int .i64 q', .int .i64 p', .int .i64 o', .int .i64 d'] 23)).cell? ⟨w.heap.size, j, none⟩ := fun j => hB1.cell (p := ⟨w.heap.size, j, none⟩) (by simp)
    have hy1 : ∀ j, w1.cell? ⟨w.heap.size + 1, j, none⟩ = ((w.alloc (.cells #[.int .i64 i, .string s, .int .i64 k, .int .i64 q, .int .i64 p, .int .i64 o, .int .i64 d] 23)).alloc (.cells #[.int .i64 i', .string s', .int .i64 k', .int .i64 q', .int .i64 p', .int .i64 o', .int .i64 d'] 23)).cell? ⟨w.heap.size + 1, j, none⟩ := fun j => hB1.cell (p := ⟨w.heap.size + 1, j, none⟩) (by simp)
    have hl1 : w.heap.size < w1.heap.size := by have := hB1.size; simp only [World.size_alloc] at this; omega
    have hm1 : w.heap.size + 1 < w1.heap.size := by have := hB1.size; simp only [World.size_alloc] at this; omega
    have hw1 : XW w1 := hw.below (hb0.trans (hB1.mono (by omega)))
    clear hb1
    go_wp2_with fail
    refine (HA2.out _).mono ?_
    rintro e w2 ⟨rfl, hb2⟩
    have hB2 : Below (w.heap.size + 2) ((w.alloc (.cells #[.int .i64 i, .string s, .int .i64 k, .int .i64 q, .int .i64 p, .int .i64 o, .int .i64 d] 23)).alloc (.cells #[.int .i64 i', .string s', .int .i64 k', .int .i64 q', .int .i64 p', .int .i64 o', .int .i64 d'] 23)) w2 := hB1.trans (hb2.mono (by have := hB1.size; simp only [World.size_alloc] at this; omega))
    have hx2 : ∀ j, w2.cell? ⟨w.heap.size, j, none⟩ = ((w.alloc (.cells #[.int .i64 i, .string s, .int .i64 k, .int .i64 q, .int .i64 p, .int .i64 o, .int .i64 d] 23)).alloc (.cells #[.int .i64 i', .string s', .int .i64 k', .int .i64 q', .int .i64 p', .int .i64 o', .int .i64 d'] 23)).cell? ⟨w.heap.size, j, none⟩ := fun j => hB2.cell (p := ⟨w.heap.size, j, none⟩) (by simp)
    have hy2 : ∀ j, w2.cell? ⟨w.heap.size + 1, j, none⟩ = ((w.alloc (.cells #[.int .i64 i, .string s, .int .i64 k, .int .i64 q, .int .i64 p, .int .i64 o, .int .i64 d] 23)).alloc (.cells #[.int .i64 i', .string s', .int .i64 k', .int .i64 q', .int .i64 p', .int .i64 o', .int .i64 d'] 23)).cell? ⟨w.heap.size + 1, j, none⟩ := fun j => hB2.cell (p := ⟨w.heap.size + 1, j, none⟩) (by simp)
    have hl2 : w.heap.size < w2.heap.size := by have := hB2.size; simp only [World.size_alloc] at this; omega
    have hm2 : w.heap.size + 1 < w2.heap.size := by have := hB2.size; simp only [World.size_alloc] at this; omega
    have hw2 : XW w2 := hw.below (hb0.trans (hB2.mono (by omega)))
    clear hb2 hx1 hy1 hl1 hm1 hB1 hw1
    go_wp2_with fail
    have hcs := fun (p : Since w2) b o h => Since.cells p b o h
    refine wp_region_since (by kernel_rfl) (by kernel_rfl) ?_
    repeat (quiet_step (first
      | (with_reducible exact Calls.since_of (HR1.out _))
      | (with_reducible exact Calls.since_of (HR2.out _))
      | (with_reducible exact Calls.since_of (HN1.out _))
      | (with_reducible exact Calls.since_of (HN2.out _))
      | (with_reducible exact Calls.since_of (HC.out _))))
    refine wpQuiet_nil ?_
    intro w3 hw'
    obtain ⟨pp, hp⟩ := hw'
    have hb3 : Below w2.heap.size w2 w3 := by rw [hp]; exact pp.h
    clear hp pp hcs
    have hB3 : Below (w.heap.size + 2) ((w.alloc (.cells #[.int .i64 i, .string s, .int .i64 k, .int .i64 q, .int .i64 p, .int .i64 o, .int .i64 d] 23)).alloc (.cells #[.int .i64 i', .string s', .int .i64 k', .int .i64 q', .int .i64 p', .int .i64 o', .int .i64 d'] 23)) w3 := hB2.trans (hb3.mono (by have := hB2.size; simp only [World.size_alloc] at this; omega))
    have hx3 : ∀ j, w3.cell? ⟨w.heap.size, j, none⟩ = ((w.alloc (.cells #[.int .i64 i, .string s, .int .i64 k, .int .i64 q, .int .i64 p, .int .i64 o, .int .i64 d] 23)).alloc (.cells #[.int .i64 i', .string s', .int .i64 k', .int .i64 q', .int .i64 p', .int .i64 o', .int .i64 d'] 23)).cell? ⟨w.heap.size, j, none⟩ := fun j => hB3.cell (p := ⟨w.heap.size, j, none⟩) (by simp)
    have hy3 : ∀ j, w3.cell? ⟨w.heap.size + 1, j, none⟩ = ((w.alloc (.cells #[.int .i64 i, .string s, .int .i64 k, .int .i64 q, .int .i64 p, .int .i64 o, .int .i64 d] 23)).alloc (.cells #[.int .i64 i', .string s', .int .i64 k', .int .i64 q', .int .i64 p', .int .i64 o', .int .i64 d'] 23)).cell? ⟨w.heap.size + 1, j, none⟩ := fun j => hB3.cell (p := ⟨w.heap.size + 1, j, none⟩) (by simp)
    have hl3 : w.heap.size < w3.heap.size := by have := hB3.size; simp only [World.size_alloc] at this; omega
    have hm3 : w.heap.size + 1 < w3.heap.size := by have := hB3.size; simp only [World.size_alloc] at this; omega
    have hw3 : XW w3 := hw.below (hb0.trans (hB3.mono (by omega)))
    clear hb3 hx2 hy2 hl2 hm2 hB2 hw2
    go_wp2_with fail
    refine (t1.out _ hw3).mono ?_
    rintro e w4 ⟨rfl, hb4⟩
    have hB4 : Below (w.heap.size + 2) ((w.alloc (.cells #[.int .i64 i, .string s, .int .i64 k, .int .i64 q, .int .i64 p, .int .i64 o, .int .i64 d] 23)).alloc (.cells #[.int .i64 i', .string s', .int .i64 k', .int .i64 q', .int .i64 p', .int .i64 o', .int .i64 d'] 23)) w4 := hB3.trans (hb4.mono (by have := hB3.size; simp only [World.size_alloc] at this; omega))
    have hx4 : ∀ j, w4.cell? ⟨w.heap.size, j, none⟩ = ((w.alloc (.cells #[.int .i64 i, .string s, .int .i64 k, .int .i64 q, .int .i64 p, .int .i64 o, .int .i64 d] 23)).alloc (.cells #[.int .i64 i', .string s', .int .i64 k', .int .i64 q', .int .i64 p', .int .i64 o', .int .i64 d'] 23)).cell? ⟨w.heap.size, j, none⟩ := fun j => hB4.cell (p := ⟨w.heap.size, j, none⟩) (by simp)
    have hy4 : ∀ j, w4.cell? ⟨w.heap.size + 1, j, none⟩ = ((w.alloc (.cells #[.int .i64 i, .string s, .int .i64 k, .int .i64 q, .int .i64 p, .int .i64 o, .int .i64 d] 23)).alloc (.cells #[.int .i64 i', .string s', .int .i64 k', .int .i64 q', .int .i64 p', .int .i64 o', .int .i64 d'] 23)).cell? ⟨w.heap.size + 1, j, none⟩ := fun j => hB4.cell (p := ⟨w.heap.size + 1, j, none⟩) (by simp)
    have hl4 : w.heap.size < w4.heap.size := by have := hB4.size; simp only [World.size_alloc] at this; omega
    have hm4 : w.heap.size + 1 < w4.heap.size := by have := hB4.size; simp only [World.size_alloc] at this; omega
    have hw4 : XW w4 := hw.below (hb0.trans (hB4.mono (by omega)))
    clear hb4 hx3 hy3 hl3 hm3 hB3 hw3
    go_wp2_with fail
    refine (t2.out _ hw4).mono ?_
    rintro e w5 ⟨rfl, hb5⟩
    have hB5 : Below (w.heap.size + 2) ((w.alloc (.cells #[.int .i64 i, .string s, .int .i64 k, .int .i64 q, .int .i64 p, .int .i64 o, .int .i64 d] 23)).alloc (.cells #[.int .i64 i', .string s', .int .i64 k', .int .i64 q', .int .i64 p', .int .i64 o', .int .i64 d'] 23)) w5 := hB4.trans (hb5.mono (by have := hB4.size; simp only [World.size_alloc] at this; omega))
    have hx5 : ∀ j, w5.cell? ⟨w.heap.size, j, none⟩ = ((w.alloc (.cells #[.int .i64 i, .string s, .int .i64 k, .int .i64 q, .int .i64 p, .int .i64 o, .int .i64 d] 23)).alloc (.cells #[.int .i64 i', .string s', .int .i64 k', .int .i64 q', .int .i64 p', .int .i64 o', .int .i64 d'] 23)).cell? ⟨w.heap.size, j, none⟩ := fun j => hB5.cell (p := ⟨w.heap.size, j, none⟩) (by simp)
    have hy5 : ∀ j, w5.cell? ⟨w.heap.size + 1, j, none⟩ = ((w.alloc (.cells #[.int .i64 i, .string s, .int .i64 k, .int .i64 q, .int .i64 p, .int .i64 o, .int .i64 d] 23)).alloc (.cells #[.int .i64 i', .string s', .int .i64 k', .int .i64 q', .int .i64 p', .int .i64 o', .int .i64 d'] 23)).cell? ⟨w.heap.size + 1, j, none⟩ := fun j => hB5.cell (p := ⟨w.heap.size + 1, j, none⟩) (by simp)
    have hl5 : w.heap.size < w5.heap.size := by have := hB5.size; simp only [World.size_alloc] at this; omega
    have hm5 : w.heap.size + 1 < w5.heap.size := by have := hB5.size; simp only [World.size_alloc] at this; omega
    have hw5 : XW w5 := hw.below (hb0.trans (hB5.mono (by omega)))
    clear hb5 hx4 hy4 hl4 hm4 hB4 hw4
    go_wp2_with fail
    refine (t3.out _ hw5).mono ?_
    rintro e w6 ⟨rfl, hb6⟩
    have hB6 : Below (w.heap.size + 2) ((w.alloc (.cells #[.int .i64 i, .string s, .int .i64 k, .int .i64 q, .int .i64 p, .int .i64 o, .int .i64 d] 23)).alloc (.cells #[.int .i64 i', .string s', .int .i64 k', .int .i64 q', .int .i64 p', .int .i64 o', .int .i64 d'] 23)) w6 := hB5.trans (hb6.mono (by have := hB5.size; simp only [World.size_alloc] at this; omega))
    have hx6 : ∀ j, w6.cell? ⟨w.heap.size, j, none⟩ = ((w.alloc (.cells #[.int .i64 i, .string s, .int .i64 k, .int .i64 q, .int .i64 p, .int .i64 o, .int .i64 d] 23)).alloc (.cells #[.int .i64 i', .string s', .int .i64 k', .int .i64 q', .int .i64 p', .int .i64 o', .int .i64 d'] 23)).cell? ⟨w.heap.size, j, none⟩ := fun j => hB6.cell (p := ⟨w.heap.size, j, none⟩) (by simp)
    have hy6 : ∀ j, w6.cell? ⟨w.heap.size + 1, j, none⟩ = ((w.alloc (.cells #[.int .i64 i, .string s, .int .i64 k, .int .i64 q, .int .i64 p, .int .i64 o, .int .i64 d] 23)).alloc (.cells #[.int .i64 i', .string s', .int .i64 k', .int .i64 q', .int .i64 p', .int .i64 o', .int .i64 d'] 23)).cell? ⟨w.heap.size + 1, j, none⟩ := fun j => hB6.cell (p := ⟨w.heap.size + 1, j, none⟩) (by simp)
    have hl6 : w.heap.size < w6.heap.size := by have := hB6.size; simp only [World.size_alloc] at this; omega
    have hm6 : w.heap.size + 1 < w6.heap.size := by have := hB6.size; simp only [World.size_alloc] at this; omega
    have hw6 : XW w6 := hw.below (hb0.trans (hB6.mono (by omega)))
    clear hb6 hx5 hy5 hl5 hm5 hB5 hw5
    go_wp2_with fail
    refine (z1.out _ hw6).mono ?_
    rintro e w7 ⟨rfl, hb7⟩
    have hB7 : Below (w.heap.size + 2) ((w.alloc (.cells #[.int .i64 i, .string s, .int .i64 k, .int .i64 q, .int .i64 p, .int .i64 o, .int .i64 d] 23)).alloc (.cells #[.int .i64 i', .string s', .int .i64 k', .int .i64 q', .int .i64 p', .int .i64 o', .int .i64 d'] 23)) w7 := hB6.trans (hb7.mono (by have := hB6.size; simp only [World.size_alloc] at this; omega))
    have hx7 : ∀ j, w7.cell? ⟨w.heap.size, j, none⟩ = ((w.alloc (.cells #[.int .i64 i, .string s, .int .i64 k, .int .i64 q, .int .i64 p, .int .i64 o, .int .i64 d] 23)).alloc (.cells #[.int .i64 i', .string s', .int .i64 k', .int .i64 q', .int .i64 p', .int .i64 o', .int .i64 d'] 23)).cell? ⟨w.heap.size, j, none⟩ := fun j => hB7.cell (p := ⟨w.heap.size, j, none⟩) (by simp)
    have hy7 : ∀ j, w7.cell? ⟨w.heap.size + 1, j, none⟩ = ((w.alloc (.cells #[.int .i64 i, .string s, .int .i64 k, .int .i64 q, .int .i64 p, .int .i64 o, .int .i64 d] 23)).alloc (.cells #[.int .i64 i', .string s', .int .i64 k', .int .i64 q', .int .i64 p', .int .i64 o', .int .i64 d'] 23)).cell? ⟨w.heap.size + 1, j, none⟩ := fun j => hB7.cell (p := ⟨w.heap.size + 1, j, none⟩) (by simp)
    have hl7 : w.heap.size < w7.heap.size := by have := hB7.size; simp only [World.size_alloc] at this; omega
    have hm7 : w.heap.size + 1 < w7.heap.size := by have := hB7.size; simp only [World.size_alloc] at this; omega
    have hw7 : XW w7 := hw.below (hb0.trans (hB7.mono (by omega)))
    clear hb7 hx6 hy6 hl6 hm6 hB6 hw6
    go_wp2_with fail
    have hZ := hB7.alloc (by omega) (.cells #[.int .i64 0, .string it, .int .i64 zk, .int .i64 zq, .int .i64 zp, .int .i64 zo, .int .i64 zd] 23)
    refine (z2.out _ (hw.below (hb0.trans (hZ.mono (by omega))))).mono ?_
    rintro e w8 ⟨rfl, hb8⟩
    have hZ1 := hZ.trans (hb8.mono (by simp only [World.size_alloc]; omega))
    have hz1 := (bcell hb8).1
    simp only [World.size_alloc] at hz1
    have hk1 : w7.heap.size < w8.heap.size := by have := hb8.size; simp only [World.size_alloc] at this; omega
    clear hZ hb8
    go_wp2_with fail
    have hZ2 := hZ1.alloc (by omega) (.cells #[.int .i64 0, .string it, .int .i64 zk, .int .i64 zq, .int .i64 zp, .int .i64 zo, .int .i64 zd] 23)
    refine (z3.out _ (hw.below (hb0.trans (hZ2.mono (by omega))))).mono ?_
    rintro e w9 ⟨rfl, hb9⟩
    have hZ3 := hZ2.trans (hb9.mono (by simp only [World.size_alloc]; omega))
    have hz2 := (bcell hb9).1
    simp only [World.size_alloc] at hz2
    have hk2 : w8.heap.size < w9.heap.size := by have := hb9.size; simp only [World.size_alloc] at this; omega
    have hk3 : w7.heap.size < w9.heap.size := by omega
    clear hZ2 hb9
    go_wp2_with fail
    go_ret
    exact ⟨rfl, hb0.trans (hZ3.mono (by omega))⟩
  · go_enter Tryz.func3, Tryz.ntmps3
    go_wp2_with fail
    refine (HA1.out _).mono ?_
    rintro e w1 ⟨rfl, hb1⟩
    have hB1 : Below (w.heap.size + 2) ((w.alloc (.cells #[.int .i64 i, .string s, .int .i64 k, .int .i64 q, .int .i64 p, .int .i64 o, .int .i64 d] 23)).alloc (.cells #[.int .i64 i', .string s', .int .i64 k', .int .i64 q', .int .i64 p', .int .i64 o', .int .i64 d'] 23)) w1 := by have h := hb1; simp only [World.size_alloc] at h; exact h
    have hx1 : ∀ j, w1.cell? ⟨w.heap.size, j, none⟩ = ((w.alloc (.cells #[.int .i64 i, .string s, .int .i64 k, .int .i64 q, .int .i64 p, .int .i64 o, .int .i64 d] 23)).alloc (.cells #[.int .i64 i', .string s', .int .i64 k', .int .i64 q', .int .i64 p', .int .i64 o', .int .i64 d'] 23)).cell? ⟨w.heap.size, j, none⟩ := fun j => hB1.cell (p := ⟨w.heap.size, j, none⟩) (by simp)
    have hy1 : ∀ j, w1.cell? ⟨w.heap.size + 1, j, none⟩ = ((w.alloc (.cells #[.int .i64 i, .string s, .int .i64 k, .int .i64 q, .int .i64 p, .int .i64 o, .int .i64 d] 23)).alloc (.cells #[.int .i64 i', .string s', .int .i64 k', .int .i64 q', .int .i64 p', .int .i64 o', .int .i64 d'] 23)).cell? ⟨w.heap.size + 1, j, none⟩ := fun j => hB1.cell (p := ⟨w.heap.size + 1, j, none⟩) (by simp)
    have hl1 : w.heap.size < w1.heap.size := by have := hB1.size; simp only [World.size_alloc] at this; omega
    have hm1 : w.heap.size + 1 < w1.heap.size := by have := hB1.size; simp only [World.size_alloc] at this; omega
    have hw1 : XW w1 := hw.below (hb0.trans (hB1.mono (by omega)))
    clear hb1
    go_wp2_with fail
    refine (HA2.out _).mono ?_
    rintro e w2 ⟨rfl, hb2⟩
    have hB2 : Below (w.heap.size + 2) ((w.alloc (.cells #[.int .i64 i, .string s, .int .i64 k, .int .i64 q, .int .i64 p, .int .i64 o, .int .i64 d] 23)).alloc (.cells #[.int .i64 i', .string s', .int .i64 k', .int .i64 q', .int .i64 p', .int .i64 o', .int .i64 d'] 23)) w2 := hB1.trans (hb2.mono (by have := hB1.size; simp only [World.size_alloc] at this; omega))
    have hx2 : ∀ j, w2.cell? ⟨w.heap.size, j, none⟩ = ((w.alloc (.cells #[.int .i64 i, .string s, .int .i64 k, .int .i64 q, .int .i64 p, .int .i64 o, .int .i64 d] 23)).alloc (.cells #[.int .i64 i', .string s', .int .i64 k', .int .i64 q', .int .i64 p', .int .i64 o', .int .i64 d'] 23)).cell? ⟨w.heap.size, j, none⟩ := fun j => hB2.cell (p := ⟨w.heap.size, j, none⟩) (by simp)
    have hy2 : ∀ j, w2.cell? ⟨w.heap.size + 1, j, none⟩ = ((w.alloc (.cells #[.int .i64 i, .string s, .int .i64 k, .int .i64 q, .int .i64 p, .int .i64 o, .int .i64 d] 23)).alloc (.cells #[.int .i64 i', .string s', .int .i64 k', .int .i64 q', .int .i64 p', .int .i64 o', .int .i64 d'] 23)).cell? ⟨w.heap.size + 1, j, none⟩ := fun j => hB2.cell (p := ⟨w.heap.size + 1, j, none⟩) (by simp)
    have hl2 : w.heap.size < w2.heap.size := by have := hB2.size; simp only [World.size_alloc] at this; omega
    have hm2 : w.heap.size + 1 < w2.heap.size := by have := hB2.size; simp only [World.size_alloc] at this; omega
    have hw2 : XW w2 := hw.below (hb0.trans (hB2.mono (by omega)))
    clear hb2 hx1 hy1 hl1 hm1 hB1 hw1
    go_wp2_with fail
    have hcs := fun (p : Since w2) b o h => Since.cells p b o h
    refine wp_region_since (by kernel_rfl) (by kernel_rfl) ?_
    repeat (quiet_step (first
      | (with_reducible exact Calls.since_of (HR1.out _))
      | (with_reducible exact Calls.since_of (HR2.out _))
      | (with_reducible exact Calls.since_of (HN1.out _))
      | (with_reducible exact Calls.since_of (HN2.out _))
      | (with_reducible exact Calls.since_of (HC.out _))))
    refine wpQuiet_nil ?_
    intro w3 hw'
    obtain ⟨pp, hp⟩ := hw'
    have hb3 : Below w2.heap.size w2 w3 := by rw [hp]; exact pp.h
    clear hp pp hcs
    have hB3 : Below (w.heap.size + 2) ((w.alloc (.cells #[.int .i64 i, .string s, .int .i64 k, .int .i64 q, .int .i64 p, .int .i64 o, .int .i64 d] 23)).alloc (.cells #[.int .i64 i', .string s', .int .i64 k', .int .i64 q', .int .i64 p', .int .i64 o', .int .i64 d'] 23)) w3 := hB2.trans (hb3.mono (by have := hB2.size; simp only [World.size_alloc] at this; omega))
    have hx3 : ∀ j, w3.cell? ⟨w.heap.size, j, none⟩ = ((w.alloc (.cells #[.int .i64 i, .string s, .int .i64 k, .int .i64 q, .int .i64 p, .int .i64 o, .int .i64 d] 23)).alloc (.cells #[.int .i64 i', .string s', .int .i64 k', .int .i64 q', .int .i64 p', .int .i64 o', .int .i64 d'] 23)).cell? ⟨w.heap.size, j, none⟩ := fun j => hB3.cell (p := ⟨w.heap.size, j, none⟩) (by simp)
    have hy3 : ∀ j, w3.cell? ⟨w.heap.size + 1, j, none⟩ = ((w.alloc (.cells #[.int .i64 i, .string s, .int .i64 k, .int .i64 q, .int .i64 p, .int .i64 o, .int .i64 d] 23)).alloc (.cells #[.int .i64 i', .string s', .int .i64 k', .int .i64 q', .int .i64 p', .int .i64 o', .int .i64 d'] 23)).cell? ⟨w.heap.size + 1, j, none⟩ := fun j => hB3.cell (p := ⟨w.heap.size + 1, j, none⟩) (by simp)
    have hl3 : w.heap.size < w3.heap.size := by have := hB3.size; simp only [World.size_alloc] at this; omega
    have hm3 : w.heap.size + 1 < w3.heap.size := by have := hB3.size; simp only [World.size_alloc] at this; omega
    have hw3 : XW w3 := hw.below (hb0.trans (hB3.mono (by omega)))
    clear hb3 hx2 hy2 hl2 hm2 hB2 hw2
    go_wp2_with fail
    refine (t1.out _ hw3).mono ?_
    rintro e w4 ⟨rfl, hb4⟩
    have hB4 : Below (w.heap.size + 2) ((w.alloc (.cells #[.int .i64 i, .string s, .int .i64 k, .int .i64 q, .int .i64 p, .int .i64 o, .int .i64 d] 23)).alloc (.cells #[.int .i64 i', .string s', .int .i64 k', .int .i64 q', .int .i64 p', .int .i64 o', .int .i64 d'] 23)) w4 := hB3.trans (hb4.mono (by have := hB3.size; simp only [World.size_alloc] at this; omega))
    have hx4 : ∀ j, w4.cell? ⟨w.heap.size, j, none⟩ = ((w.alloc (.cells #[.int .i64 i, .string s, .int .i64 k, .int .i64 q, .int .i64 p, .int .i64 o, .int .i64 d] 23)).alloc (.cells #[.int .i64 i', .string s', .int .i64 k', .int .i64 q', .int .i64 p', .int .i64 o', .int .i64 d'] 23)).cell? ⟨w.heap.size, j, none⟩ := fun j => hB4.cell (p := ⟨w.heap.size, j, none⟩) (by simp)
    have hy4 : ∀ j, w4.cell? ⟨w.heap.size + 1, j, none⟩ = ((w.alloc (.cells #[.int .i64 i, .string s, .int .i64 k, .int .i64 q, .int .i64 p, .int .i64 o, .int .i64 d] 23)).alloc (.cells #[.int .i64 i', .string s', .int .i64 k', .int .i64 q', .int .i64 p', .int .i64 o', .int .i64 d'] 23)).cell? ⟨w.heap.size + 1, j, none⟩ := fun j => hB4.cell (p := ⟨w.heap.size + 1, j, none⟩) (by simp)
    have hl4 : w.heap.size < w4.heap.size := by have := hB4.size; simp only [World.size_alloc] at this; omega
    have hm4 : w.heap.size + 1 < w4.heap.size := by have := hB4.size; simp only [World.size_alloc] at this; omega
    have hw4 : XW w4 := hw.below (hb0.trans (hB4.mono (by omega)))
    clear hb4 hx3 hy3 hl3 hm3 hB3 hw3
    go_wp2_with fail
    refine (t2.out _ hw4).mono ?_
    rintro e w5 ⟨rfl, hb5⟩
    have hB5 : Below (w.heap.size + 2) ((w.alloc (.cells #[.int .i64 i, .string s, .int .i64 k, .int .i64 q, .int .i64 p, .int .i64 o, .int .i64 d] 23)).alloc (.cells #[.int .i64 i', .string s', .int .i64 k', .int .i64 q', .int .i64 p', .int .i64 o', .int .i64 d'] 23)) w5 := hB4.trans (hb5.mono (by have := hB4.size; simp only [World.size_alloc] at this; omega))
    have hx5 : ∀ j, w5.cell? ⟨w.heap.size, j, none⟩ = ((w.alloc (.cells #[.int .i64 i, .string s, .int .i64 k, .int .i64 q, .int .i64 p, .int .i64 o, .int .i64 d] 23)).alloc (.cells #[.int .i64 i', .string s', .int .i64 k', .int .i64 q', .int .i64 p', .int .i64 o', .int .i64 d'] 23)).cell? ⟨w.heap.size, j, none⟩ := fun j => hB5.cell (p := ⟨w.heap.size, j, none⟩) (by simp)
    have hy5 : ∀ j, w5.cell? ⟨w.heap.size + 1, j, none⟩ = ((w.alloc (.cells #[.int .i64 i, .string s, .int .i64 k, .int .i64 q, .int .i64 p, .int .i64 o, .int .i64 d] 23)).alloc (.cells #[.int .i64 i', .string s', .int .i64 k', .int .i64 q', .int .i64 p', .int .i64 o', .int .i64 d'] 23)).cell? ⟨w.heap.size + 1, j, none⟩ := fun j => hB5.cell (p := ⟨w.heap.size + 1, j, none⟩) (by simp)
    have hl5 : w.heap.size < w5.heap.size := by have := hB5.size; simp only [World.size_alloc] at this; omega
    have hm5 : w.heap.size + 1 < w5.heap.size := by have := hB5.size; simp only [World.size_alloc] at this; omega
    have hw5 : XW w5 := hw.below (hb0.trans (hB5.mono (by omega)))
    clear hb5 hx4 hy4 hl4 hm4 hB4 hw4
    go_wp2_with fail
    refine (t3.out _ hw5).mono ?_
    rintro e w6 ⟨rfl, hb6⟩
    have hB6 : Below (w.heap.size + 2) ((w.alloc (.cells #[.int .i64 i, .string s, .int .i64 k, .int .i64 q, .int .i64 p, .int .i64 o, .int .i64 d] 23)).alloc (.cells #[.int .i64 i', .string s', .int .i64 k', .int .i64 q', .int .i64 p', .int .i64 o', .int .i64 d'] 23)) w6 := hB5.trans (hb6.mono (by have := hB5.size; simp only [World.size_alloc] at this; omega))
    have hx6 : ∀ j, w6.cell? ⟨w.heap.size, j, none⟩ = ((w.alloc (.cells #[.int .i64 i, .string s, .int .i64 k, .int .i64 q, .int .i64 p, .int .i64 o, .int .i64 d] 23)).alloc (.cells #[.int .i64 i', .string s', .int .i64 k', .int .i64 q', .int .i64 p', .int .i64 o', .int .i64 d'] 23)).cell? ⟨w.heap.size, j, none⟩ := fun j => hB6.cell (p := ⟨w.heap.size, j, none⟩) (by simp)
    have hy6 : ∀ j, w6.cell? ⟨w.heap.size + 1, j, none⟩ = ((w.alloc (.cells #[.int .i64 i, .string s, .int .i64 k, .int .i64 q, .int .i64 p, .int .i64 o, .int .i64 d] 23)).alloc (.cells #[.int .i64 i', .string s', .int .i64 k', .int .i64 q', .int .i64 p', .int .i64 o', .int .i64 d'] 23)).cell? ⟨w.heap.size + 1, j, none⟩ := fun j => hB6.cell (p := ⟨w.heap.size + 1, j, none⟩) (by simp)
    have hl6 : w.heap.size < w6.heap.size := by have := hB6.size; simp only [World.size_alloc] at this; omega
    have hm6 : w.heap.size + 1 < w6.heap.size := by have := hB6.size; simp only [World.size_alloc] at this; omega
    have hw6 : XW w6 := hw.below (hb0.trans (hB6.mono (by omega)))
    clear hb6 hx5 hy5 hl5 hm5 hB5 hw5
    go_wp2_with fail
    refine (z1.out _ hw6).mono ?_
    rintro e w7 ⟨rfl, hb7⟩
    have hB7 : Below (w.heap.size + 2) ((w.alloc (.cells #[.int .i64 i, .string s, .int .i64 k, .int .i64 q, .int .i64 p, .int .i64 o, .int .i64 d] 23)).alloc (.cells #[.int .i64 i', .string s', .int .i64 k', .int .i64 q', .int .i64 p', .int .i64 o', .int .i64 d'] 23)) w7 := hB6.trans (hb7.mono (by have := hB6.size; simp only [World.size_alloc] at this; omega))
    have hx7 : ∀ j, w7.cell? ⟨w.heap.size, j, none⟩ = ((w.alloc (.cells #[.int .i64 i, .string s, .int .i64 k, .int .i64 q, .int .i64 p, .int .i64 o, .int .i64 d] 23)).alloc (.cells #[.int .i64 i', .string s', .int .i64 k', .int .i64 q', .int .i64 p', .int .i64 o', .int .i64 d'] 23)).cell? ⟨w.heap.size, j, none⟩ := fun j => hB7.cell (p := ⟨w.heap.size, j, none⟩) (by simp)
    have hy7 : ∀ j, w7.cell? ⟨w.heap.size + 1, j, none⟩ = ((w.alloc (.cells #[.int .i64 i, .string s, .int .i64 k, .int .i64 q, .int .i64 p, .int .i64 o, .int .i64 d] 23)).alloc (.cells #[.int .i64 i', .string s', .int .i64 k', .int .i64 q', .int .i64 p', .int .i64 o', .int .i64 d'] 23)).cell? ⟨w.heap.size + 1, j, none⟩ := fun j => hB7.cell (p := ⟨w.heap.size + 1, j, none⟩) (by simp)
    have hl7 : w.heap.size < w7.heap.size := by have := hB7.size; simp only [World.size_alloc] at this; omega
    have hm7 : w.heap.size + 1 < w7.heap.size := by have := hB7.size; simp only [World.size_alloc] at this; omega
    have hw7 : XW w7 := hw.below (hb0.trans (hB7.mono (by omega)))
    clear hb7 hx6 hy6 hl6 hm6 hB6 hw6
    go_wp2_with fail
    have hZ := hB7.alloc (by omega) (.cells #[.int .i64 0, .string it, .int .i64 zk, .int .i64 zq, .int .i64 zp, .int .i64 zo, .int .i64 zd] 23)
    refine (z2.out _ (hw.below (hb0.trans (hZ.mono (by omega))))).mono ?_
    rintro e w8 ⟨rfl, hb8⟩
    have hZ1 := hZ.trans (hb8.mono (by simp only [World.size_alloc]; omega))
    have hz1 := (bcell hb8).1
    simp only [World.size_alloc] at hz1
    have hk1 : w7.heap.size < w8.heap.size := by have := hb8.size; simp only [World.size_alloc] at this; omega
    clear hZ hb8
    go_wp2_with fail
    have hZ2 := hZ1.alloc (by omega) (.cells #[.int .i64 0, .string it, .int .i64 zk, .int .i64 zq, .int .i64 zp, .int .i64 zo, .int .i64 zd] 23)
    refine (z3.out _ (hw.below (hb0.trans (hZ2.mono (by omega))))).mono ?_
    rintro e w9 ⟨rfl, hb9⟩
    have hZ3 := hZ2.trans (hb9.mono (by simp only [World.size_alloc]; omega))
    have hz2 := (bcell hb9).1
    simp only [World.size_alloc] at hz2
    have hk2 : w8.heap.size < w9.heap.size := by have := hb9.size; simp only [World.size_alloc] at this; omega
    have hk3 : w7.heap.size < w9.heap.size := by omega
    clear hZ2 hb9
    go_wp2_with fail
    go_ret
    exact ⟨rfl, hb0.trans (hZ3.mono (by omega))⟩
theorem eventReads_go (i k q p o d i' k' q' p' o' d' : Int) (s s' l : ByteArray) (w : World) (hw : XW w) (h1 : s.size ≤ maxLen) (h2 : s'.size ≤ maxLen) (h3 : l.size ≤ maxLen) (ho : -9223372036854775808 ≤ o ∧ o ≤ 9223372036854775807) :
    Calls Tryz.prog 3 #[.agg #[.int .i64 i, .string s, .int .i64 k, .int .i64 q, .int .i64 p, .int .i64 o, .int .i64 d], .agg #[.int .i64 i', .string s', .int .i64 k', .int .i64 q', .int .i64 p', .int .i64 o', .int .i64 d'], .string l] w (Gives (.bool true) w) := eventReads_walk i k q p o d i' k' q' p' o' d' s s' l w hw h1 h2 h3 ho.2
end Go.Proofs.YtjmeefmofbpbnaaGreatDoor
