/- Joined: MoneyA, EvG, EvRb. -/
import Derived.WalkKit
import Derived.WalkSpells
import Derived.WalkLawsBesides
import Derived.Deep.QuietTactic
import Derived.BigQuiet
import Derived.Test.YtefbedineniejaaDoorRows
import Derived.StillTailTactics
import Derived.Handy
import Derived.Lib.Hide
import Derived.Sort.Grow
import Derived.Test.YtefbedineniejaaDoorBase
import Derived.Test.YtefbedineniejaaDoorJoined11
import Derived.Test.YtefbedineniejaaDoorJoined4
import Derived.Test.YtefbedineniejaaDoorJoined6

section
/- money.Part: what it hands back. -/
namespace Go.Proofs.YtefbedineniejaaDoor
open Go.RowKit

theorem part_math (t s m : Int) (hm : 1 ≤ m) : t / m * s + t % m * s / m = t * s / m := by
  have h := Int.mul_ediv_add_emod t m
  have e : t * s = t % m * s + (t / m * s) * m := by
    have : t * s = (m * (t / m) + t % m) * s := by rw [h]
    rw [this, Int.add_mul]; rw [Int.mul_comm m (t / m), Int.mul_assoc, Int.mul_comm m s, ← Int.mul_assoc]; omega
  rw [e, Int.add_mul_ediv_right _ _ (by omega)]; omega

theorem part_le (t s m : Int) (h1 : 0 ≤ t) (h3 : 1 ≤ m) (h5 : 0 ≤ s) (h6 : s ≤ m) : 0 ≤ t * s / m ∧ t * s / m ≤ t := by
  constructor
  · exact Int.ediv_nonneg (Int.mul_nonneg h1 h5) (by omega)
  · have : t * s ≤ t * m := Int.mul_le_mul_of_nonneg_left h6 h1
    calc t * s / m ≤ t * m / m := Int.ediv_le_ediv (by omega) this
      _ = t := Int.mul_ediv_cancel _ (by omega)

theorem part_wrap (t s m M : Int) (h1 : 0 ≤ t) (h2 : t ≤ 20000000000000) (h3 : 1 ≤ m) (h4 : m ≤ M) (hM : M ≤ 1000000000) (h5 : 0 ≤ s) (h6 : s ≤ m) :
    wrap64 (wrap64 (t / m * s) + wrap64 ((wrap64 (t % m * s)).tdiv m)) = t * s / m := by
  have a0 : 0 ≤ t / m := Int.ediv_nonneg h1 (by omega)
  have a1 : 0 ≤ t / m * s := Int.mul_nonneg a0 h5
  have a2 : t / m * s ≤ t / m * m := Int.mul_le_mul_of_nonneg_left h6 a0
  have a3 : t / m * m ≤ t := Int.ediv_mul_le _ (by omega)
  have b0 : 0 ≤ t % m := Int.emod_nonneg _ (by omega)
  have b1 : t % m < m := Int.emod_lt_of_pos _ (by omega)
  have b2 : 0 ≤ t % m * s := Int.mul_nonneg b0 h5
  have b3 : t % m * s ≤ m * s := Int.mul_le_mul_of_nonneg_right (by omega) h5
  have b4 : m * s ≤ 1000000000 * 1000000000 := Int.mul_le_mul (by omega) (by omega) h5 (by omega)
  have c := part_le t s m h1 h3 h5 h6
  have d := part_math t s m h3
  rw [IntWalk.wrap64_in (t / m * s) ⟨by omega, by omega⟩, IntWalk.wrap64_in (t % m * s) ⟨by omega, by omega⟩, Int.tdiv_eq_ediv_of_nonneg b2]
  have e0 : 0 ≤ t % m * s / m := Int.ediv_nonneg b2 (by omega)
  rw [IntWalk.wrap64_in (t % m * s / m) ⟨by omega, by omega⟩, d, IntWalk.wrap64_in _ ⟨by omega, by omega⟩]

theorem two_of {k : IntKind} {a b : Int} {v : Value} (h : a = b) : Ending.returned (.tuple #[.int k a, v]) = .returned (.tuple #[.int k b, v]) := by rw [h]

set_option maxHeartbeats 400000 in
theorem part_ok (t s m : Int) (w : World) (h1 : 0 ≤ t) (h2 : t ≤ 20000000000000) (h3 : 1 ≤ m) (h4 : m ≤ 100000) (h5 : 0 ≤ s) (h6 : s ≤ m) :
    Calls Tryd.prog 89 #[.int .i64 t, .int .i64 s, .int .i64 m] w fun e w' => e = .returned (.tuple #[.int .i64 (t * s / m), .nilIface]) ∧ ∃ n, w' = w.drewN n := by
  go_enter Tryd.func89, Tryd.ntmps89
  go_wp2
  go_quiet (fail)
  go_wp2
  go_ret2
  exact ⟨two_of (part_wrap t s m 100000 h1 h2 h3 h4 (by omega) h5 h6), _, rfl⟩
end Go.Proofs.YtefbedineniejaaDoor
end

section
/- event.Compare: of the world it leaves: draws, and blocks of its own, no more. -/
namespace Go.Proofs.YtefbedineniejaaDoor
open Go.RowKit Go.Proofs Go.Sort
/-- Draws, and blocks laid behind all that was there. -/
def Gr (w W : World) : Prop := ∃ q os, W = grow (w.drewN q) os
theorem Gr.refl (w : World) : Gr w w := ⟨0, #[], by rw [grow_empty]; rfl⟩
theorem Gr.alloc {w W : World} (h : Gr w W) (o : Obj) : Gr w (W.alloc o) := by
  obtain ⟨q, os, rfl⟩ := h
  exact ⟨q, os ++ #[o], by rw [alloc_eq_grow, grow_grow]⟩
theorem Gr.drew {w W : World} (h : Gr w W) : Gr w W.drew := by
  obtain ⟨q, os, rfl⟩ := h
  exact ⟨q + 1, os, rfl⟩

set_option maxHeartbeats 1000000 in
set_option maxRecDepth 100000 in
/-- .. and of the world: draws, and blocks of the call's own. -/
theorem compare_grow (i k q p o d i' k' q' p' o' d' : Int) (s s' : ByteArray) (w : World) :
    Calls Tryd.prog 50 #[.agg #[.int .i64 i, .string s, .int .i64 k, .int .i64 q, .int .i64 p, .int .i64 o, .int .i64 d], .agg #[.int .i64 i', .string s', .int .i64 k', .int .i64 q', .int .i64 p', .int .i64 o', .int .i64 d']] w
      (fun e w' => e = .returned (.int .i64 (Ev.cmpE i k d i' k' d')) ∧ Gr w w') := by
  have HO := Lib.hid (fun (a b c : Int) (n : Nat) (w : World) => or_any a b c n w)
  have h1 := Lib.hid (cmp_any d d')
  have h2 := Lib.hid (cmp_any k k')
  have h3 := Lib.hid (cmp_any i i')
  have hE : Hid (Ev.cmpE i k d i' k' d' = Ev.or3 (Ev.cmpI d d') (Ev.cmpI k k') (Ev.cmpI i i')) := rfl
  generalize Ev.cmpI d d' = x at h1 hE
  generalize Ev.cmpI k k' = y at h2 hE
  generalize Ev.cmpI i i' = z at h3 hE
  rw [hE.out]
  clear hE
  go_enter Tryd.func50, Tryd.ntmps50
  go_wp2
  refine wp_region_still_tail 15 (by kernel_rfl) (by kernel_rfl) ?_
  change wpStill _ _ (World.drew _) _ _ _
  generalize hW : World.drew _ = W
  have a6 : W.cell? ⟨w.heap.size, 6, none⟩ = some (.int .i64 d) := by rw [← hW]; simp
  have a2 : W.cell? ⟨w.heap.size, 2, none⟩ = some (.int .i64 k) := by rw [← hW]; simp
  have a0 : W.cell? ⟨w.heap.size, 0, none⟩ = some (.int .i64 i) := by rw [← hW]; simp
  have b6 : W.cell? ⟨w.heap.size + 1, 6, none⟩ = some (.int .i64 d') := by rw [← hW]; simp
  have b2 : W.cell? ⟨w.heap.size + 1, 2, none⟩ = some (.int .i64 k') := by rw [← hW]; simp
  have b0 : W.cell? ⟨w.heap.size + 1, 0, none⟩ = some (.int .i64 i') := by rw [← hW]; simp
  have hbW : Gr w W := by rw [← hW]; exact (((Gr.refl w).alloc _).alloc _).drew
  have hbs : w.heap.size ≤ W.heap.size := by rw [← hW]; simp; omega
  have HW := Lib.hid hW
  clear hW
  simp only [List.take_succ_cons, List.take_zero, List.drop_succ_cons, List.drop_zero]
  still_step
  still_step
  still_step
  still_step
  still_call (h1.out _)
  still_step
  still_step
  still_step
  still_step
  still_call (h2.out _)
  still_step
  still_step
  still_step
  still_step
  still_call (h3.out _)
  refine wpStill_nil ?_
  change wpList _ _ _ _ _ (World.drew _)
  rw [HW.out]
  go_wp2_with fail
  refine (HO.out x y z W.heap.size _ (by simp) (by simp) (by simp)).mono ?_
  rintro e w' ⟨rfl, rfl⟩
  go_wp2_with fail
  go_ret
  exact ⟨rfl, hbW.alloc _⟩
end Go.Proofs.YtefbedineniejaaDoor
end

section
/- event.Right, a part: what is charged. -/
namespace Go.Proofs.YtefbedineniejaaDoor
open Go.RowKit

set_option maxHeartbeats 4000000 in
set_option maxRecDepth 100000 in
theorem right_2 (i : Int) (s : ByteArray) (q p o d : Int) (w : World) (hs : s.size ≤ 1000000) (hN : Ev.nameB s.data.toList = true) (c_d : ¬ d < 0) (g_d : ¬ 99999 < d) :
    Calls Tryd.prog 47 #[.agg #[.int .i64 i, .string s, .int .i64 2, .int .i64 q, .int .i64 p, .int .i64 o, .int .i64 d]] w (Gives (.bool (Ev.rightB s.data.toList 2 q p o d)) w) := by
  by_cases c_q : q = 0
  · subst c_q
    by_cases c_p : p < 1
    · have hB : Ev.rightB s.data.toList (2) (0) (p) (o) (d) = false := decide_eq_false (fun h => by obtain ⟨-, h1, h2, h⟩ := h; omega)
      have HB := Lib.hid hB
      have HN : Hid (∀ w, Calls Tryd.prog 63 #[.string s] w (Gives (.bool true) w)) := Lib.hid (fun w => by rw [← hN]; exact name_any s w hs)
      clear hB hN
      rw [HB.out]
      go_enter Tryd.func47, Tryd.ntmps47
      go_wp2_with fail
      refine (HN.out _).mono ?_
      rintro e w1 ⟨rfl, hb⟩
      have c1 := hb.cell (p := ⟨w.heap.size, 1, none⟩) (by simp)
      have c2 := hb.cell (p := ⟨w.heap.size, 2, none⟩) (by simp)
      have c3 := hb.cell (p := ⟨w.heap.size, 3, none⟩) (by simp)
      have c4 := hb.cell (p := ⟨w.heap.size, 4, none⟩) (by simp)
      have c5 := hb.cell (p := ⟨w.heap.size, 5, none⟩) (by simp)
      have c6 := hb.cell (p := ⟨w.heap.size, 6, none⟩) (by simp)
      simp at c1 c2 c3 c4 c5 c6
      have hb1 : Below w.heap.size w w1 := ((Below.refl _ _).alloc (Nat.le_refl _) _).step hb
      clear hb
      go_wp2
      go_ret
      exact ⟨rfl, hb1⟩
    · by_cases g_p : 100000000000 < p
      · have hB : Ev.rightB s.data.toList (2) (0) (p) (o) (d) = false := decide_eq_false (fun h => by obtain ⟨-, h1, h2, h⟩ := h; omega)
        have HB := Lib.hid hB
        have HN : Hid (∀ w, Calls Tryd.prog 63 #[.string s] w (Gives (.bool true) w)) := Lib.hid (fun w => by rw [← hN]; exact name_any s w hs)
        clear hB hN
        rw [HB.out]
        go_enter Tryd.func47, Tryd.ntmps47
        go_wp2_with fail
        refine (HN.out _).mono ?_
        rintro e w1 ⟨rfl, hb⟩
        have c1 := hb.cell (p := ⟨w.heap.size, 1, none⟩) (by simp)
        have c2 := hb.cell (p := ⟨w.heap.size, 2, none⟩) (by simp)
        have c3 := hb.cell (p := ⟨w.heap.size, 3, none⟩) (by simp)
        have c4 := hb.cell (p := ⟨w.heap.size, 4, none⟩) (by simp)
        have c5 := hb.cell (p := ⟨w.heap.size, 5, none⟩) (by simp)
        have c6 := hb.cell (p := ⟨w.heap.size, 6, none⟩) (by simp)
        simp at c1 c2 c3 c4 c5 c6
        have hb1 : Below w.heap.size w w1 := ((Below.refl _ _).alloc (Nat.le_refl _) _).step hb
        clear hb
        go_wp2
        go_ret
        exact ⟨rfl, hb1⟩
      · by_cases c_o : o < 1
        · have d_o : decide ((1 : Int) ≤ o) = false := by simp; omega
          have hB : Ev.rightB s.data.toList (2) (0) (p) (o) (d) = false := decide_eq_false (fun h => by obtain ⟨-, h1, h2, h⟩ := h; omega)
          have HB := Lib.hid hB
          have HN : Hid (∀ w, Calls Tryd.prog 63 #[.string s] w (Gives (.bool true) w)) := Lib.hid (fun w => by rw [← hN]; exact name_any s w hs)
          clear hB hN
          rw [HB.out]
          go_enter Tryd.func47, Tryd.ntmps47
          go_wp2_with fail
          refine (HN.out _).mono ?_
          rintro e w1 ⟨rfl, hb⟩
          have c1 := hb.cell (p := ⟨w.heap.size, 1, none⟩) (by simp)
          have c2 := hb.cell (p := ⟨w.heap.size, 2, none⟩) (by simp)
          have c3 := hb.cell (p := ⟨w.heap.size, 3, none⟩) (by simp)
          have c4 := hb.cell (p := ⟨w.heap.size, 4, none⟩) (by simp)
          have c5 := hb.cell (p := ⟨w.heap.size, 5, none⟩) (by simp)
          have c6 := hb.cell (p := ⟨w.heap.size, 6, none⟩) (by simp)
          simp at c1 c2 c3 c4 c5 c6
          have hb1 : Below w.heap.size w w1 := ((Below.refl _ _).alloc (Nat.le_refl _) _).step hb
          clear hb
          go_wp2
          go_ret
          exact ⟨rfl, hb1⟩
        · have hB : Ev.rightB s.data.toList (2) (0) (p) (o) (d) = true := decide_eq_true ⟨of_decide_eq_true hN, by omega, by omega, by omega⟩
          have HB := Lib.hid hB
          have HN : Hid (∀ w, Calls Tryd.prog 63 #[.string s] w (Gives (.bool true) w)) := Lib.hid (fun w => by rw [← hN]; exact name_any s w hs)
          clear hB hN
          rw [HB.out]
          go_enter Tryd.func47, Tryd.ntmps47
          go_wp2_with fail
          refine (HN.out _).mono ?_
          rintro e w1 ⟨rfl, hb⟩
          have c1 := hb.cell (p := ⟨w.heap.size, 1, none⟩) (by simp)
          have c2 := hb.cell (p := ⟨w.heap.size, 2, none⟩) (by simp)
          have c3 := hb.cell (p := ⟨w.heap.size, 3, none⟩) (by simp)
          have c4 := hb.cell (p := ⟨w.heap.size, 4, none⟩) (by simp)
          have c5 := hb.cell (p := ⟨w.heap.size, 5, none⟩) (by simp)
          have c6 := hb.cell (p := ⟨w.heap.size, 6, none⟩) (by simp)
          simp at c1 c2 c3 c4 c5 c6
          have hb1 : Below w.heap.size w w1 := ((Below.refl _ _).alloc (Nat.le_refl _) _).step hb
          clear hb
          go_wp2
          go_ret
          exact ⟨rfl, hb1⟩
  · have n_q_0 : (q == (0 : Int)) = false := by simpa using c_q
    have hB : Ev.rightB s.data.toList (2) (q) (p) (o) (d) = false := decide_eq_false (fun h => by obtain ⟨-, h1, h2, h⟩ := h; omega)
    have HB := Lib.hid hB
    have HN : Hid (∀ w, Calls Tryd.prog 63 #[.string s] w (Gives (.bool true) w)) := Lib.hid (fun w => by rw [← hN]; exact name_any s w hs)
    clear hB hN
    rw [HB.out]
    go_enter Tryd.func47, Tryd.ntmps47
    go_wp2_with fail
    refine (HN.out _).mono ?_
    rintro e w1 ⟨rfl, hb⟩
    have c1 := hb.cell (p := ⟨w.heap.size, 1, none⟩) (by simp)
    have c2 := hb.cell (p := ⟨w.heap.size, 2, none⟩) (by simp)
    have c3 := hb.cell (p := ⟨w.heap.size, 3, none⟩) (by simp)
    have c4 := hb.cell (p := ⟨w.heap.size, 4, none⟩) (by simp)
    have c5 := hb.cell (p := ⟨w.heap.size, 5, none⟩) (by simp)
    have c6 := hb.cell (p := ⟨w.heap.size, 6, none⟩) (by simp)
    simp at c1 c2 c3 c4 c5 c6
    have hb1 : Below w.heap.size w w1 := ((Below.refl _ _).alloc (Nat.le_refl _) _).step hb
    clear hb
    go_wp2
    go_ret
    exact ⟨rfl, hb1⟩
end Go.Proofs.YtefbedineniejaaDoor
end
