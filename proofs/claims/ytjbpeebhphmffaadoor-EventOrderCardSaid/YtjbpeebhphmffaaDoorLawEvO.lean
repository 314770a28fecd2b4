/- tallymankeep.EventOrder: the walk. -/
import Derived.Test.YtjbpeebhphmffaaDoorEvE
import Derived.Test.YtjbpeebhphmffaaDoorEvC
import Derived.Test.YtjbpeebhphmffaaDoorSince
import Derived.Test.YtjbpeebhphmffaaDoorSplit
namespace Go.Proofs.YtjbpeebhphmffaaDoor
open Go.RowKit
set_option linter.unusedVariables false

namespace Ev
theorem cmpE_bd (i k d i' k' d' : Int) : -1 ≤ cmpE i k d i' k' d' ∧ cmpE i k d i' k' d' ≤ 1 := by
  unfold cmpE or3 cmpI
  (repeat' split) <;> omega
theorem cmpE_swap (i k d i' k' d' : Int) : cmpE i' k' d' i k d = -cmpE i k d i' k' d' := by
  unfold cmpE or3 cmpI
  (repeat' split) <;> omega
theorem cmpE_zero {i k d i' k' d' : Int} : cmpE i k d i' k' d' = 0 ↔ d = d' ∧ k = k' ∧ i = i' := by
  unfold cmpE or3 cmpI
  (repeat' split) <;> omega
theorem cmpE_lt {i k d i' k' d' : Int} : cmpE i k d i' k' d' = -1 ↔ (d < d' ∨ (d = d' ∧ (k < k' ∨ (k = k' ∧ i < i')))) := by
  unfold cmpE or3 cmpI
  (repeat' split) <;> omega
theorem cmpE_gt {i k d i' k' d' : Int} : cmpE i k d i' k' d' = 1 ↔ (d' < d ∨ (d = d' ∧ (k' < k ∨ (k = k' ∧ i' < i)))) := by
  unfold cmpE or3 cmpI
  (repeat' split) <;> omega
theorem cmpE_trans {i k d i' k' d' i'' k'' d'' : Int} (h : cmpE i k d i' k' d' = cmpE i' k' d' i'' k'' d'') : cmpE i k d i'' k'' d'' = cmpE i k d i' k' d' := by
  have hb := cmpE_bd i k d i' k' d'
  have hc : cmpE i k d i' k' d' = -1 ∨ cmpE i k d i' k' d' = 0 ∨ cmpE i k d i' k' d' = 1 := by omega
  rcases hc with e | e | e
  · rw [e]
    have h2 := h.symm.trans e
    rw [cmpE_lt] at e h2 ⊢
    omega
  · rw [e]
    have h2 := h.symm.trans e
    rw [cmpE_zero] at e h2 ⊢
    omega
  · rw [e]
    have h2 := h.symm.trans e
    rw [cmpE_gt] at e h2 ⊢
    omega
end Ev

set_option maxHeartbeats 400000 in
theorem sign_any (n : Int) (w : World) (h0 : -1 ≤ n) (h1 : n ≤ 1) : Calls Tryd.prog 9 #[.int .i64 n] w fun e w' => e = .returned (.int .i64 n) ∧ w' = w := by
  go_enter Tryd.func9, Tryd.ntmps9
  go_wp2
  go_ret
  exact ⟨congrArg (fun z => Ending.returned (Value.int .i64 z)) (show min (max n (-1)) 1 = n by omega), rfl⟩

set_option maxHeartbeats 2000000 in
set_option maxRecDepth 100000 in
theorem eventOrder_a (i1 k1 q1 p1 o1 d1 q2 p2 o2 i3 k3 q3 p3 o3 d3 : Int) (s1 s2 s3 : ByteArray) (w : World) (hw : VW w) 
    (HAB : Hid (∀ w, Calls Tryd.prog 10 #[.agg #[.int .i64 i1, .string s1, .int .i64 k1, .int .i64 q1, .int .i64 p1, .int .i64 o1, .int .i64 d1], .agg #[.int .i64 i1, .string s2, .int .i64 k1, .int .i64 q2, .int .i64 p2, .int .i64 o2, .int .i64 d1]] w (Gives (.int .i64 0) w)))
    (HBC : Hid (∀ w, Calls Tryd.prog 10 #[.agg #[.int .i64 i1, .string s2, .int .i64 k1, .int .i64 q2, .int .i64 p2, .int .i64 o2, .int .i64 d1], .agg #[.int .i64 i3, .string s3, .int .i64 k3, .int .i64 q3, .int .i64 p3, .int .i64 o3, .int .i64 d3]] w (Gives (.int .i64 0) w)))
    (HAC : Hid (∀ w, Calls Tryd.prog 10 #[.agg #[.int .i64 i1, .string s1, .int .i64 k1, .int .i64 q1, .int .i64 p1, .int .i64 o1, .int .i64 d1], .agg #[.int .i64 i3, .string s3, .int .i64 k3, .int .i64 q3, .int .i64 p3, .int .i64 o3, .int .i64 d3]] w (Gives (.int .i64 0) w)))
    (HBA : Hid (∀ w, Calls Tryd.prog 10 #[.agg #[.int .i64 i1, .string s2, .int .i64 k1, .int .i64 q2, .int .i64 p2, .int .i64 o2, .int .i64 d1], .agg #[.int .i64 i1, .string s1, .int .i64 k1, .int .i64 q1, .int .i64 p1, .int .i64 o1, .int .i64 d1]] w (Gives (.int .i64 0) w))) :
    Calls Tryd.prog 4 #[.agg #[.int .i64 i1, .string s1, .int .i64 k1, .int .i64 q1, .int .i64 p1, .int .i64 o1, .int .i64 d1], .agg #[.int .i64 i1, .string s2, .int .i64 k1, .int .i64 q2, .int .i64 p2, .int .i64 o2, .int .i64 d1], .agg #[.int .i64 i3, .string s3, .int .i64 k3, .int .i64 q3, .int .i64 p3, .int .i64 o3, .int .i64 d3]] w (Gives (.bool true) w) := by
  have hb0 : Below w.heap.size w (((w.alloc (.cells #[.int .i64 i1, .string s1, .int .i64 k1, .int .i64 q1, .int .i64 p1, .int .i64 o1, .int .i64 d1] 23)).alloc (.cells #[.int .i64 i1, .string s2, .int .i64 k1, .int .i64 q2, .int .i64 p2, .int .i64 o2, .int .i64 d1] 23)).alloc (.cells #[.int .i64 i3, .string s3, .int .i64 k3, .int .i64 q3, .int .i64 p3, .int .i64 o3, .int .i64 d3] 23)) := (((Below.refl _ _).new _).new _).new _
  have HX := Lib.hid (fun w' => sign_any 0 w' (by omega) (by omega))
  have HY := Lib.hid (fun w' => sign_any 0 w' (by omega) (by omega))
  have HZ := Lib.hid (fun w' => sign_any 0 w' (by omega) (by omega))
  have HV := Lib.hid (fun w' => sign_any 0 w' (by omega) (by omega))
  go_enter Tryd.func4, Tryd.ntmps4
  go_wp2_with fail
  refine (happened_any _ (hw.below hb0)).mono ?_
  rintro e w1 ⟨rfl, hb1⟩
  have hb : Below w.heap.size w w1 := hb0.step hb1
  have hc := (bcell hb1).1
  simp only [World.size_alloc] at hc
  have hl : w.heap.size + 1 + 1 < w1.heap.size := by have := hb1.size; simp only [World.size_alloc] at this; omega
  have hl1 : w.heap.size + 1 < w1.heap.size := by omega
  have hl0 : w.heap.size < w1.heap.size := by omega
  clear hb1
  go_wp2_with fail
  have hcs := fun (p : Since w1) b o h => Since.cells p b o h
  refine wp_region_since (by kernel_rfl) (by kernel_rfl) ?_
  repeat (quiet_step (first
    | (with_reducible exact Calls.since_of (HAB.out _))
    | (with_reducible exact Calls.since_of (HBC.out _))
    | (with_reducible exact Calls.since_of (HAC.out _))
    | (with_reducible exact Calls.since_same (HX.out _))
    | (with_reducible exact Calls.since_same (HY.out _))
    | (with_reducible exact Calls.since_same (HZ.out _))))
  refine wpQuiet_nil ?_
  intro w2 hw'
  obtain ⟨p, hp⟩ := hw'
  have hb2 : Below w1.heap.size w1 w2 := by rw [hp]; exact p.h
  clear hp p hcs
  have hc2 := (bcell hb2).1
  have hm : w.heap.size + 1 + 1 < w2.heap.size := Nat.lt_of_lt_of_le hl hb2.size
  have hm1 : w.heap.size + 1 < w2.heap.size := by omega
  have hm0 : w.heap.size < w2.heap.size := by omega
  replace hb := hb.step hb2
  go_wp2_with fail
  refine (HBA.out _).mono ?_
  rintro e w3 ⟨rfl, hb3⟩
  have hc3 := (bcell hb3).1
  go_wp2_with fail
  refine (HV.out _).mono ?_
  rintro e w4 ⟨rfl, rfl⟩
  go_wp2_with fail
  go_ret
  exact ⟨rfl, hb.step hb3⟩

set_option maxHeartbeats 2000000 in
set_option maxRecDepth 100000 in
theorem eventOrder_b (i1 k1 q1 p1 o1 d1 q2 p2 o2 i3 k3 q3 p3 o3 d3 : Int) (s1 s2 s3 : ByteArray) (w : World) (hw : VW w) (y : Int) (y0 : -1 ≤ y) (y1 : y ≤ 1)
    (HAB : Hid (∀ w, Calls Tryd.prog 10 #[.agg #[.int .i64 i1, .string s1, .int .i64 k1, .int .i64 q1, .int .i64 p1, .int .i64 o1, .int .i64 d1], .agg #[.int .i64 i1, .string s2, .int .i64 k1, .int .i64 q2, .int .i64 p2, .int .i64 o2, .int .i64 d1]] w (Gives (.int .i64 0) w)))
    (HBC : Hid (∀ w, Calls Tryd.prog 10 #[.agg #[.int .i64 i1, .string s2, .int .i64 k1, .int .i64 q2, .int .i64 p2, .int .i64 o2, .int .i64 d1], .agg #[.int .i64 i3, .string s3, .int .i64 k3, .int .i64 q3, .int .i64 p3, .int .i64 o3, .int .i64 d3]] w (Gives (.int .i64 y) w)))
    (HAC : Hid (∀ w, Calls Tryd.prog 10 #[.agg #[.int .i64 i1, .string s1, .int .i64 k1, .int .i64 q1, .int .i64 p1, .int .i64 o1, .int .i64 d1], .agg #[.int .i64 i3, .string s3, .int .i64 k3, .int .i64 q3, .int .i64 p3, .int .i64 o3, .int .i64 d3]] w (Gives (.int .i64 y) w)))
    (HBA : Hid (∀ w, Calls Tryd.prog 10 #[.agg #[.int .i64 i1, .string s2, .int .i64 k1, .int .i64 q2, .int .i64 p2, .int .i64 o2, .int .i64 d1], .agg #[.int .i64 i1, .string s1, .int .i64 k1, .int .i64 q1, .int .i64 p1, .int .i64 o1, .int .i64 d1]] w (Gives (.int .i64 0) w)))
    (n1 : ((0 : Int) == y) = false) (n2 : ((0 : Int) != y) = true) :
    Calls Tryd.prog 4 #[.agg #[.int .i64 i1, .string s1, .int .i64 k1, .int .i64 q1, .int .i64 p1, .int .i64 o1, .int .i64 d1], .agg #[.int .i64 i1, .string s2, .int .i64 k1, .int .i64 q2, .int .i64 p2, .int .i64 o2, .int .i64 d1], .agg #[.int .i64 i3, .string s3, .int .i64 k3, .int .i64 q3, .int .i64 p3, .int .i64 o3, .int .i64 d3]] w (Gives (.bool true) w) := by
  have hb0 : Below w.heap.size w (((w.alloc (.cells #[.int .i64 i1, .string s1, .int .i64 k1, .int .i64 q1, .int .i64 p1, .int .i64 o1, .int .i64 d1] 23)).alloc (.cells #[.int .i64 i1, .string s2, .int .i64 k1, .int .i64 q2, .int .i64 p2, .int .i64 o2, .int .i64 d1] 23)).alloc (.cells #[.int .i64 i3, .string s3, .int .i64 k3, .int .i64 q3, .int .i64 p3, .int .i64 o3, .int .i64 d3] 23)) := (((Below.refl _ _).new _).new _).new _
  have HX := Lib.hid (fun w' => sign_any 0 w' (by omega) (by omega))
  have HY := Lib.hid (fun w' => sign_any y w' (by omega) (by omega))
  have HZ := Lib.hid (fun w' => sign_any y w' (by omega) (by omega))
  have HV := Lib.hid (fun w' => sign_any 0 w' (by omega) (by omega))
  go_enter Tryd.func4, Tryd.ntmps4
  go_wp2_with fail
  refine (happened_any _ (hw.below hb0)).mono ?_
  rintro e w1 ⟨rfl, hb1⟩
  have hb : Below w.heap.size w w1 := hb0.step hb1
  have hc := (bcell hb1).1
  simp only [World.size_alloc] at hc
  have hl : w.heap.size + 1 + 1 < w1.heap.size := by have := hb1.size; simp only [World.size_alloc] at this; omega
  have hl1 : w.heap.size + 1 < w1.heap.size := by omega
  have hl0 : w.heap.size < w1.heap.size := by omega
  clear hb1
  go_wp2_with fail
  have hcs := fun (p : Since w1) b o h => Since.cells p b o h
  refine wp_region_since (by kernel_rfl) (by kernel_rfl) ?_
  repeat (quiet_step (first
    | (with_reducible exact Calls.since_of (HAB.out _))
    | (with_reducible exact Calls.since_of (HBC.out _))
    | (with_reducible exact Calls.since_of (HAC.out _))
    | (with_reducible exact Calls.since_same (HX.out _))
    | (with_reducible exact Calls.since_same (HY.out _))
    | (with_reducible exact Calls.since_same (HZ.out _))))
  refine wpQuiet_nil ?_
  intro w2 hw'
  obtain ⟨p, hp⟩ := hw'
  have hb2 : Below w1.heap.size w1 w2 := by rw [hp]; exact p.h
  clear hp p hcs
  have hc2 := (bcell hb2).1
  have hm : w.heap.size + 1 + 1 < w2.heap.size := Nat.lt_of_lt_of_le hl hb2.size
  have hm1 : w.heap.size + 1 < w2.heap.size := by omega
  have hm0 : w.heap.size < w2.heap.size := by omega
  replace hb := hb.step hb2
  go_wp2_with fail
  refine (HBA.out _).mono ?_
  rintro e w3 ⟨rfl, hb3⟩
  have hc3 := (bcell hb3).1
  go_wp2_with fail
  refine (HV.out _).mono ?_
  rintro e w4 ⟨rfl, rfl⟩
  go_wp2_with fail
  go_ret
  exact ⟨rfl, hb.step hb3⟩

set_option maxHeartbeats 2000000 in
set_option maxRecDepth 100000 in
theorem eventOrder_c (i1 k1 q1 p1 o1 d1 i2 k2 q2 p2 o2 d2 i3 k3 q3 p3 o3 d3 : Int) (s1 s2 s3 : ByteArray) (w : World) (hw : VW w) (x : Int) (x0 : -1 ≤ x) (x1 : x ≤ 1)
    (HAB : Hid (∀ w, Calls Tryd.prog 10 #[.agg #[.int .i64 i1, .string s1, .int .i64 k1, .int .i64 q1, .int .i64 p1, .int .i64 o1, .int .i64 d1], .agg #[.int .i64 i2, .string s2, .int .i64 k2, .int .i64 q2, .int .i64 p2, .int .i64 o2, .int .i64 d2]] w (Gives (.int .i64 x) w)))
    (HBC : Hid (∀ w, Calls Tryd.prog 10 #[.agg #[.int .i64 i2, .string s2, .int .i64 k2, .int .i64 q2, .int .i64 p2, .int .i64 o2, .int .i64 d2], .agg #[.int .i64 i3, .string s3, .int .i64 k3, .int .i64 q3, .int .i64 p3, .int .i64 o3, .int .i64 d3]] w (Gives (.int .i64 x) w)))
    (HAC : Hid (∀ w, Calls Tryd.prog 10 #[.agg #[.int .i64 i1, .string s1, .int .i64 k1, .int .i64 q1, .int .i64 p1, .int .i64 o1, .int .i64 d1], .agg #[.int .i64 i3, .string s3, .int .i64 k3, .int .i64 q3, .int .i64 p3, .int .i64 o3, .int .i64 d3]] w (Gives (.int .i64 x) w)))
    (HBA : Hid (∀ w, Calls Tryd.prog 10 #[.agg #[.int .i64 i2, .string s2, .int .i64 k2, .int .i64 q2, .int .i64 p2, .int .i64 o2, .int .i64 d2], .agg #[.int .i64 i1, .string s1, .int .i64 k1, .int .i64 q1, .int .i64 p1, .int .i64 o1, .int .i64 d1]] w (Gives (.int .i64 (-x)) w)))
    (e1 : (d1 == d2) = false) (n1 : (x == 0) = false) (n2 : (x != 0) = true) :
    Calls Tryd.prog 4 #[.agg #[.int .i64 i1, .string s1, .int .i64 k1, .int .i64 q1, .int .i64 p1, .int .i64 o1, .int .i64 d1], .agg #[.int .i64 i2, .string s2, .int .i64 k2, .int .i64 q2, .int .i64 p2, .int .i64 o2, .int .i64 d2], .agg #[.int .i64 i3, .string s3, .int .i64 k3, .int .i64 q3, .int .i64 p3, .int .i64 o3, .int .i64 d3]] w (Gives (.bool true) w) := by
  have hb0 : Below w.heap.size w (((w.alloc (.cells #[.int .i64 i1, .string s1, .int .i64 k1, .int .i64 q1, .int .i64 p1, .int .i64 o1, .int .i64 d1] 23)).alloc (.cells #[.int .i64 i2, .string s2, .int .i64 k2, .int .i64 q2, .int .i64 p2, .int .i64 o2, .int .i64 d2] 23)).alloc (.cells #[.int .i64 i3, .string s3, .int .i64 k3, .int .i64 q3, .int .i64 p3, .int .i64 o3, .int .i64 d3] 23)) := (((Below.refl _ _).new _).new _).new _
  have HX := Lib.hid (fun w' => sign_any x w' (by omega) (by omega))
  have HY := Lib.hid (fun w' => sign_any x w' (by omega) (by omega))
  have HZ := Lib.hid (fun w' => sign_any x w' (by omega) (by omega))
  have HV := Lib.hid (fun w' => sign_any (-x) w' (by omega) (by omega))
  go_enter Tryd.func4, Tryd.ntmps4
  go_wp2_with fail
  refine (happened_any _ (hw.below hb0)).mono ?_
  rintro e w1 ⟨rfl, hb1⟩
  have hb : Below w.heap.size w w1 := hb0.step hb1
  have hc := (bcell hb1).1
  simp only [World.size_alloc] at hc
  have hl : w.heap.size + 1 + 1 < w1.heap.size := by have := hb1.size; simp only [World.size_alloc] at this; omega
  have hl1 : w.heap.size + 1 < w1.heap.size := by omega
  have hl0 : w.heap.size < w1.heap.size := by omega
  clear hb1
  go_wp2_with fail
  have hcs := fun (p : Since w1) b o h => Since.cells p b o h
  refine wp_region_since (by kernel_rfl) (by kernel_rfl) ?_
  repeat (quiet_step (first
    | (with_reducible exact Calls.since_of (HAB.out _))
    | (with_reducible exact Calls.since_of (HBC.out _))
    | (with_reducible exact Calls.since_of (HAC.out _))
    | (with_reducible exact Calls.since_same (HX.out _))
    | (with_reducible exact Calls.since_same (HY.out _))
    | (with_reducible exact Calls.since_same (HZ.out _))))
  refine wpQuiet_nil ?_
  intro w2 hw'
  obtain ⟨p, hp⟩ := hw'
  have hb2 : Below w1.heap.size w1 w2 := by rw [hp]; exact p.h
  clear hp p hcs
  have hc2 := (bcell hb2).1
  have hm : w.heap.size + 1 + 1 < w2.heap.size := Nat.lt_of_lt_of_le hl hb2.size
  have hm1 : w.heap.size + 1 < w2.heap.size := by omega
  have hm0 : w.heap.size < w2.heap.size := by omega
  replace hb := hb.step hb2
  go_wp2_with fail
  refine (HBA.out _).mono ?_
  rintro e w3 ⟨rfl, hb3⟩
  have hc3 := (bcell hb3).1
  go_wp2_with fail
  refine (HV.out _).mono ?_
  rintro e w4 ⟨rfl, rfl⟩
  go_wp2_with fail
  go_ret
  exact ⟨rfl, hb.step hb3⟩

set_option maxHeartbeats 2000000 in
set_option maxRecDepth 100000 in
theorem eventOrder_d (i1 k1 q1 p1 o1 d1 i2 k2 q2 p2 o2 d2 i3 k3 q3 p3 o3 d3 : Int) (s1 s2 s3 : ByteArray) (w : World) (hw : VW w) (x : Int) (x0 : -1 ≤ x) (x1 : x ≤ 1) (y : Int) (y0 : -1 ≤ y) (y1 : y ≤ 1) (z : Int) (z0 : -1 ≤ z) (z1 : z ≤ 1)
    (HAB : Hid (∀ w, Calls Tryd.prog 10 #[.agg #[.int .i64 i1, .string s1, .int .i64 k1, .int .i64 q1, .int .i64 p1, .int .i64 o1, .int .i64 d1], .agg #[.int .i64 i2, .string s2, .int .i64 k2, .int .i64 q2, .int .i64 p2, .int .i64 o2, .int .i64 d2]] w (Gives (.int .i64 x) w)))
    (HBC : Hid (∀ w, Calls Tryd.prog 10 #[.agg #[.int .i64 i2, .string s2, .int .i64 k2, .int .i64 q2, .int .i64 p2, .int .i64 o2, .int .i64 d2], .agg #[.int .i64 i3, .string s3, .int .i64 k3, .int .i64 q3, .int .i64 p3, .int .i64 o3, .int .i64 d3]] w (Gives (.int .i64 y) w)))
    (HAC : Hid (∀ w, Calls Tryd.prog 10 #[.agg #[.int .i64 i1, .string s1, .int .i64 k1, .int .i64 q1, .int .i64 p1, .int .i64 o1, .int .i64 d1], .agg #[.int .i64 i3, .string s3, .int .i64 k3, .int .i64 q3, .int .i64 p3, .int .i64 o3, .int .i64 d3]] w (Gives (.int .i64 z) w)))
    (HBA : Hid (∀ w, Calls Tryd.prog 10 #[.agg #[.int .i64 i2, .string s2, .int .i64 k2, .int .i64 q2, .int .i64 p2, .int .i64 o2, .int .i64 d2], .agg #[.int .i64 i1, .string s1, .int .i64 k1, .int .i64 q1, .int .i64 p1, .int .i64 o1, .int .i64 d1]] w (Gives (.int .i64 (-x)) w)))
    (e1 : (d1 == d2) = false) (n1 : (x == 0) = false) (n2 : (x != 0) = true) (n3 : (x == y) = false) (n4 : (x != y) = true) :
    Calls Tryd.prog 4 #[.agg #[.int .i64 i1, .string s1, .int .i64 k1, .int .i64 q1, .int .i64 p1, .int .i64 o1, .int .i64 d1], .agg #[.int .i64 i2, .string s2, .int .i64 k2, .int .i64 q2, .int .i64 p2, .int .i64 o2, .int .i64 d2], .agg #[.int .i64 i3, .string s3, .int .i64 k3, .int .i64 q3, .int .i64 p3, .int .i64 o3, .int .i64 d3]] w (Gives (.bool true) w) := by
  have hb0 : Below w.heap.size w (((w.alloc (.cells #[.int .i64 i1, .string s1, .int .i64 k1, .int .i64 q1, .int .i64 p1, .int .i64 o1, .int .i64 d1] 23)).alloc (.cells #[.int .i64 i2, .string s2, .int .i64 k2, .int .i64 q2, .int .i64 p2, .int .i64 o2, .int .i64 d2] 23)).alloc (.cells #[.int .i64 i3, .string s3, .int .i64 k3, .int .i64 q3, .int .i64 p3, .int .i64 o3, .int .i64 d3] 23)) := (((Below.refl _ _).new _).new _).new _
  have HX := Lib.hid (fun w' => sign_any x w' (by omega) (by omega))
  have HY := Lib.hid (fun w' => sign_any y w' (by omega) (by omega))
  have HZ := Lib.hid (fun w' => sign_any z w' (by omega) (by omega))
  have HV := Lib.hid (fun w' => sign_any (-x) w' (by omega) (by omega))
  go_enter Tryd.func4, Tryd.ntmps4
  go_wp2_with fail
  refine (happened_any _ (hw.below hb0)).mono ?_
  rintro e w1 ⟨rfl, hb1⟩
  have hb : Below w.heap.size w w1 := hb0.step hb1
  have hc := (bcell hb1).1
  simp only [World.size_alloc] at hc
  have hl : w.heap.size + 1 + 1 < w1.heap.size := by have := hb1.size; simp only [World.size_alloc] at this; omega
  have hl1 : w.heap.size + 1 < w1.heap.size := by omega
  have hl0 : w.heap.size < w1.heap.size := by omega
  clear hb1
  go_wp2_with fail
  have hcs := fun (p : Since w1) b o h => Since.cells p b o h
  refine wp_region_since (by kernel_rfl) (by kernel_rfl) ?_
  repeat (quiet_step (first
    | (with_reducible exact Calls.since_of (HAB.out _))
    | (with_reducible exact Calls.since_of (HBC.out _))
    | (with_reducible exact Calls.since_of (HAC.out _))
    | (with_reducible exact Calls.since_same (HX.out _))
    | (with_reducible exact Calls.since_same (HY.out _))
    | (with_reducible exact Calls.since_same (HZ.out _))))
  refine wpQuiet_nil ?_
  intro w2 hw'
  obtain ⟨p, hp⟩ := hw'
  have hb2 : Below w1.heap.size w1 w2 := by rw [hp]; exact p.h
  clear hp p hcs
  have hc2 := (bcell hb2).1
  have hm : w.heap.size + 1 + 1 < w2.heap.size := Nat.lt_of_lt_of_le hl hb2.size
  have hm1 : w.heap.size + 1 < w2.heap.size := by omega
  have hm0 : w.heap.size < w2.heap.size := by omega
  replace hb := hb.step hb2
  go_wp2_with fail
  refine (HBA.out _).mono ?_
  rintro e w3 ⟨rfl, hb3⟩
  have hc3 := (bcell hb3).1
  go_wp2_with fail
  refine (HV.out _).mono ?_
  rintro e w4 ⟨rfl, rfl⟩
  go_wp2_with fail
  go_ret
  exact ⟨rfl, hb.step hb3⟩

set_option maxHeartbeats 2000000 in
set_option maxRecDepth 100000 in
theorem eventOrder_ck (i1 k1 q1 p1 o1 d1 i2 k2 q2 p2 o2 i3 k3 q3 p3 o3 d3 : Int) (s1 s2 s3 : ByteArray) (w : World) (hw : VW w) (x : Int) (x0 : -1 ≤ x) (x1 : x ≤ 1)
    (HAB : Hid (∀ w, Calls Tryd.prog 10 #[.agg #[.int .i64 i1, .string s1, .int .i64 k1, .int .i64 q1, .int .i64 p1, .int .i64 o1, .int .i64 d1], .agg #[.int .i64 i2, .string s2, .int .i64 k2, .int .i64 q2, .int .i64 p2, .int .i64 o2, .int .i64 d1]] w (Gives (.int .i64 x) w)))
    (HBC : Hid (∀ w, Calls Tryd.prog 10 #[.agg #[.int .i64 i2, .string s2, .int .i64 k2, .int .i64 q2, .int .i64 p2, .int .i64 o2, .int .i64 d1], .agg #[.int .i64 i3, .string s3, .int .i64 k3, .int .i64 q3, .int .i64 p3, .int .i64 o3, .int .i64 d3]] w (Gives (.int .i64 x) w)))
    (HAC : Hid (∀ w, Calls Tryd.prog 10 #[.agg #[.int .i64 i1, .string s1, .int .i64 k1, .int .i64 q1, .int .i64 p1, .int .i64 o1, .int .i64 d1], .agg #[.int .i64 i3, .string s3, .int .i64 k3, .int .i64 q3, .int .i64 p3, .int .i64 o3, .int .i64 d3]] w (Gives (.int .i64 x) w)))
    (HBA : Hid (∀ w, Calls Tryd.prog 10 #[.agg #[.int .i64 i2, .string s2, .int .i64 k2, .int .i64 q2, .int .i64 p2, .int .i64 o2, .int .i64 d1], .agg #[.int .i64 i1, .string s1, .int .i64 k1, .int .i64 q1, .int .i64 p1, .int .i64 o1, .int .i64 d1]] w (Gives (.int .i64 (-x)) w)))
    (e1 : (k1 == k2) = false) (n1 : (x == 0) = false) (n2 : (x != 0) = true) :
    Calls Tryd.prog 4 #[.agg #[.int .i64 i1, .string s1, .int .i64 k1, .int .i64 q1, .int .i64 p1, .int .i64 o1, .int .i64 d1], .agg #[.int .i64 i2, .string s2, .int .i64 k2, .int .i64 q2, .int .i64 p2, .int .i64 o2, .int .i64 d1], .agg #[.int .i64 i3, .string s3, .int .i64 k3, .int .i64 q3, .int .i64 p3, .int .i64 o3, .int .i64 d3]] w (Gives (.bool true) w) := by
  have hb0 : Below w.heap.size w (((w.alloc (.cells #[.int .i64 i1, .string s1, .int .i64 k1, .int .i64 q1, .int .i64 p1, .int .i64 o1, .int .i64 d1] 23)).alloc (.cells #[.int .i64 i2, .string s2, .int .i64 k2, .int .i64 q2, .int .i64 p2, .int .i64 o2, .int .i64 d1] 23)).alloc (.cells #[.int .i64 i3, .string s3, .int .i64 k3, .int .i64 q3, .int .i64 p3, .int .i64 o3, .int .i64 d3] 23)) := (((Below.refl _ _).new _).new _).new _
  have HX := Lib.hid (fun w' => sign_any x w' (by omega) (by omega))
  have HY := Lib.hid (fun w' => sign_any x w' (by omega) (by omega))
  have HZ := Lib.hid (fun w' => sign_any x w' (by omega) (by omega))
  have HV := Lib.hid (fun w' => sign_any (-x) w' (by omega) (by omega))
  go_enter Tryd.func4, Tryd.ntmps4
  go_wp2_with fail
  refine (happened_any _ (hw.below hb0)).mono ?_
  rintro e w1 ⟨rfl, hb1⟩
  have hb : Below w.heap.size w w1 := hb0.step hb1
  have hc := (bcell hb1).1
  simp only [World.size_alloc] at hc
  have hl : w.heap.size + 1 + 1 < w1.heap.size := by have := hb1.size; simp only [World.size_alloc] at this; omega
  have hl1 : w.heap.size + 1 < w1.heap.size := by omega
  have hl0 : w.heap.size < w1.heap.size := by omega
  clear hb1
  go_wp2_with fail
  have hcs := fun (p : Since w1) b o h => Since.cells p b o h
  refine wp_region_since (by kernel_rfl) (by kernel_rfl) ?_
  repeat (quiet_step (first
    | (with_reducible exact Calls.since_of (HAB.out _))
    | (with_reducible exact Calls.since_of (HBC.out _))
    | (with_reducible exact Calls.since_of (HAC.out _))
    | (with_reducible exact Calls.since_same (HX.out _))
    | (with_reducible exact Calls.since_same (HY.out _))
    | (with_reducible exact Calls.since_same (HZ.out _))))
  refine wpQuiet_nil ?_
  intro w2 hw'
  obtain ⟨p, hp⟩ := hw'
  have hb2 : Below w1.heap.size w1 w2 := by rw [hp]; exact p.h
  clear hp p hcs
  have hc2 := (bcell hb2).1
  have hm : w.heap.size + 1 + 1 < w2.heap.size := Nat.lt_of_lt_of_le hl hb2.size
  have hm1 : w.heap.size + 1 < w2.heap.size := by omega
  have hm0 : w.heap.size < w2.heap.size := by omega
  replace hb := hb.step hb2
  go_wp2_with fail
  refine (HBA.out _).mono ?_
  rintro e w3 ⟨rfl, hb3⟩
  have hc3 := (bcell hb3).1
  go_wp2_with fail
  refine (HV.out _).mono ?_
  rintro e w4 ⟨rfl, rfl⟩
  go_wp2_with fail
  go_ret
  exact ⟨rfl, hb.step hb3⟩

set_option maxHeartbeats 2000000 in
set_option maxRecDepth 100000 in
theorem eventOrder_dk (i1 k1 q1 p1 o1 d1 i2 k2 q2 p2 o2 i3 k3 q3 p3 o3 d3 : Int) (s1 s2 s3 : ByteArray) (w : World) (hw : VW w) (x : Int) (x0 : -1 ≤ x) (x1 : x ≤ 1) (y : Int) (y0 : -1 ≤ y) (y1 : y ≤ 1) (z : Int) (z0 : -1 ≤ z) (z1 : z ≤ 1)
    (HAB : Hid (∀ w, Calls Tryd.prog 10 #[.agg #[.int .i64 i1, .string s1, .int .i64 k1, .int .i64 q1, .int .i64 p1, .int .i64 o1, .int .i64 d1], .agg #[.int .i64 i2, .string s2, .int .i64 k2, .int .i64 q2, .int .i64 p2, .int .i64 o2, .int .i64 d1]] w (Gives (.int .i64 x) w)))
    (HBC : Hid (∀ w, Calls Tryd.prog 10 #[.agg #[.int .i64 i2, .string s2, .int .i64 k2, .int .i64 q2, .int .i64 p2, .int .i64 o2, .int .i64 d1], .agg #[.int .i64 i3, .string s3, .int .i64 k3, .int .i64 q3, .int .i64 p3, .int .i64 o3, .int .i64 d3]] w (Gives (.int .i64 y) w)))
    (HAC : Hid (∀ w, Calls Tryd.prog 10 #[.agg #[.int .i64 i1, .string s1, .int .i64 k1, .int .i64 q1, .int .i64 p1, .int .i64 o1, .int .i64 d1], .agg #[.int .i64 i3, .string s3, .int .i64 k3, .int .i64 q3, .int .i64 p3, .int .i64 o3, .int .i64 d3]] w (Gives (.int .i64 z) w)))
    (HBA : Hid (∀ w, Calls Tryd.prog 10 #[.agg #[.int .i64 i2, .string s2, .int .i64 k2, .int .i64 q2, .int .i64 p2, .int .i64 o2, .int .i64 d1], .agg #[.int .i64 i1, .string s1, .int .i64 k1, .int .i64 q1, .int .i64 p1, .int .i64 o1, .int .i64 d1]] w (Gives (.int .i64 (-x)) w)))
    (e1 : (k1 == k2) = false) (n1 : (x == 0) = false) (n2 : (x != 0) = true) (n3 : (x == y) = false) (n4 : (x != y) = true) :
    Calls Tryd.prog 4 #[.agg #[.int .i64 i1, .string s1, .int .i64 k1, .int .i64 q1, .int .i64 p1, .int .i64 o1, .int .i64 d1], .agg #[.int .i64 i2, .string s2, .int .i64 k2, .int .i64 q2, .int .i64 p2, .int .i64 o2, .int .i64 d1], .agg #[.int .i64 i3, .string s3, .int .i64 k3, .int .i64 q3, .int .i64 p3, .int .i64 o3, .int .i64 d3]] w (Gives (.bool true) w) := by
  have hb0 : Below w.heap.size w (((w.alloc (.cells #[.int .i64 i1, .string s1, .int .i64 k1, .int .i64 q1, .int .i64 p1, .int .i64 o1, .int .i64 d1] 23)).alloc (.cells #[.int .i64 i2, .string s2, .int .i64 k2, .int .i64 q2, .int .i64 p2, .int .i64 o2, .int .i64 d1] 23)).alloc (.cells #[.int .i64 i3, .string s3, .int .i64 k3, .int .i64 q3, .int .i64 p3, .int .i64 o3, .int .i64 d3] 23)) := (((Below.refl _ _).new _).new _).new _
  have HX := Lib.hid (fun w' => sign_any x w' (by omega) (by omega))
  have HY := Lib.hid (fun w' => sign_any y w' (by omega) (by omega))
  have HZ := Lib.hid (fun w' => sign_any z w' (by omega) (by omega))
  have HV := Lib.hid (fun w' => sign_any (-x) w' (by omega) (by omega))
  go_enter Tryd.func4, Tryd.ntmps4
  go_wp2_with fail
  refine (happened_any _ (hw.below hb0)).mono ?_
  rintro e w1 ⟨rfl, hb1⟩
  have hb : Below w.heap.size w w1 := hb0.step hb1
  have hc := (bcell hb1).1
  simp only [World.size_alloc] at hc
  have hl : w.heap.size + 1 + 1 < w1.heap.size := by have := hb1.size; simp only [World.size_alloc] at this; omega
  have hl1 : w.heap.size + 1 < w1.heap.size := by omega
  have hl0 : w.heap.size < w1.heap.size := by omega
  clear hb1
  go_wp2_with fail
  have hcs := fun (p : Since w1) b o h => Since.cells p b o h
  refine wp_region_since (by kernel_rfl) (by kernel_rfl) ?_
  repeat (quiet_step (first
    | (with_reducible exact Calls.since_of (HAB.out _))
    | (with_reducible exact Calls.since_of (HBC.out _))
    | (with_reducible exact Calls.since_of (HAC.out _))
    | (with_reducible exact Calls.since_same (HX.out _))
    | (with_reducible exact Calls.since_same (HY.out _))
    | (with_reducible exact Calls.since_same (HZ.out _))))
  refine wpQuiet_nil ?_
  intro w2 hw'
  obtain ⟨p, hp⟩ := hw'
  have hb2 : Below w1.heap.size w1 w2 := by rw [hp]; exact p.h
  clear hp p hcs
  have hc2 := (bcell hb2).1
  have hm : w.heap.size + 1 + 1 < w2.heap.size := Nat.lt_of_lt_of_le hl hb2.size
  have hm1 : w.heap.size + 1 < w2.heap.size := by omega
  have hm0 : w.heap.size < w2.heap.size := by omega
  replace hb := hb.step hb2
  go_wp2_with fail
  refine (HBA.out _).mono ?_
  rintro e w3 ⟨rfl, hb3⟩
  have hc3 := (bcell hb3).1
  go_wp2_with fail
  refine (HV.out _).mono ?_
  rintro e w4 ⟨rfl, rfl⟩
  go_wp2_with fail
  go_ret
  exact ⟨rfl, hb.step hb3⟩

set_option maxHeartbeats 2000000 in
set_option maxRecDepth 100000 in
theorem eventOrder_ci (i1 k1 q1 p1 o1 d1 i2 q2 p2 o2 i3 k3 q3 p3 o3 d3 : Int) (s1 s2 s3 : ByteArray) (w : World) (hw : VW w) (x : Int) (x0 : -1 ≤ x) (x1 : x ≤ 1)
    (HAB : Hid (∀ w, Calls Tryd.prog 10 #[.agg #[.int .i64 i1, .string s1, .int .i64 k1, .int .i64 q1, .int .i64 p1, .int .i64 o1, .int .i64 d1], .agg #[.int .i64 i2, .string s2, .int .i64 k1, .int .i64 q2, .int .i64 p2, .int .i64 o2, .int .i64 d1]] w (Gives (.int .i64 x) w)))
    (HBC : Hid (∀ w, Calls Tryd.prog 10 #[.agg #[.int .i64 i2, .string s2, .int .i64 k1, .int .i64 q2, .int .i64 p2, .int .i64 o2, .int .i64 d1], .agg #[.int .i64 i3, .string s3, .int .i64 k3, .int .i64 q3, .int .i64 p3, .int .i64 o3, .int .i64 d3]] w (Gives (.int .i64 x) w)))
    (HAC : Hid (∀ w, Calls Tryd.prog 10 #[.agg #[.int .i64 i1, .string s1, .int .i64 k1, .int .i64 q1, .int .i64 p1, .int .i64 o1, .int .i64 d1], .agg #[.int .i64 i3, .string s3, .int .i64 k3, .int .i64 q3, .int .i64 p3, .int .i64 o3, .int .i64 d3]] w (Gives (.int .i64 x) w)))
    (HBA : Hid (∀ w, Calls Tryd.prog 10 #[.agg #[.int .i64 i2, .string s2, .int .i64 k1, .int .i64 q2, .int .i64 p2, .int .i64 o2, .int .i64 d1], .agg #[.int .i64 i1, .string s1, .int .i64 k1, .int .i64 q1, .int .i64 p1, .int .i64 o1, .int .i64 d1]] w (Gives (.int .i64 (-x)) w)))
    (e1 : (i1 == i2) = false) (n1 : (x == 0) = false) (n2 : (x != 0) = true) :
    Calls Tryd.prog 4 #[.agg #[.int .i64 i1, .string s1, .int .i64 k1, .int .i64 q1, .int .i64 p1, .int .i64 o1, .int .i64 d1], .agg #[.int .i64 i2, .string s2, .int .i64 k1, .int .i64 q2, .int .i64 p2, .int .i64 o2, .int .i64 d1], .agg #[.int .i64 i3, .string s3, .int .i64 k3, .int .i64 q3, .int .i64 p3, .int .i64 o3, .int .i64 d3]] w (Gives (.bool true) w) := by
  have hb0 : Below w.heap.size w (((w.alloc (.cells #[.int .i64 i1, .string s1, .int .i64 k1, .int .i64 q1, .int .i64 p1, .int .i64 o1, .int .i64 d1] 23)).alloc (.cells #[.int .i64 i2, .string s2, .int .i64 k1, .int .i64 q2, .int .i64 p2, .int .i64 o2, .int .i64 d1] 23)).alloc (.cells #[.int .i64 i3, .string s3, .int .i64 k3, .int .i64 q3, .int .i64 p3, .int .i64 o3, .int .i64 d3] 23)) := (((Below.refl _ _).new _).new _).new _
  have HX := Lib.hid (fun w' => sign_any x w' (by omega) (by omega))
  have HY := Lib.hid (fun w' => sign_any x w' (by omega) (by omega))
  have HZ := Lib.hid (fun w' => sign_any x w' (by omega) (by omega))
  have HV := Lib.hid (fun w' => sign_any (-x) w' (by omega) (by omega))
  go_enter Tryd.func4, Tryd.ntmps4
  go_wp2_with fail
  refine (happened_any _ (hw.below hb0)).mono ?_
  rintro e w1 ⟨rfl, hb1⟩
  have hb : Below w.heap.size w w1 := hb0.step hb1
  have hc := (bcell hb1).1
  simp only [World.size_alloc] at hc
  have hl : w.heap.size + 1 + 1 < w1.heap.size := by have := hb1.size; simp only [World.size_alloc] at this; omega
  have hl1 : w.heap.size + 1 < w1.heap.size := by omega
  have hl0 : w.heap.size < w1.heap.size := by omega
  clear hb1
  go_wp2_with fail
  have hcs := fun (p : Since w1) b o h => Since.cells p b o h
  refine wp_region_since (by kernel_rfl) (by kernel_rfl) ?_
  repeat (quiet_step (first
    | (with_reducible exact Calls.since_of (HAB.out _))
    | (with_reducible exact Calls.since_of (HBC.out _))
    | (with_reducible exact Calls.since_of (HAC.out _))
    | (with_reducible exact Calls.since_same (HX.out _))
    | (with_reducible exact Calls.since_same (HY.out _))
    | (with_reducible exact Calls.since_same (HZ.out _))))
  refine wpQuiet_nil ?_
  intro w2 hw'
  obtain ⟨p, hp⟩ := hw'
  have hb2 : Below w1.heap.size w1 w2 := by rw [hp]; exact p.h
  clear hp p hcs
  have hc2 := (bcell hb2).1
  have hm : w.heap.size + 1 + 1 < w2.heap.size := Nat.lt_of_lt_of_le hl hb2.size
  have hm1 : w.heap.size + 1 < w2.heap.size := by omega
  have hm0 : w.heap.size < w2.heap.size := by omega
  replace hb := hb.step hb2
  go_wp2_with fail
  refine (HBA.out _).mono ?_
  rintro e w3 ⟨rfl, hb3⟩
  have hc3 := (bcell hb3).1
  go_wp2_with fail
  refine (HV.out _).mono ?_
  rintro e w4 ⟨rfl, rfl⟩
  go_wp2_with fail
  go_ret
  exact ⟨rfl, hb.step hb3⟩

set_option maxHeartbeats 2000000 in
set_option maxRecDepth 100000 in
theorem eventOrder_di (i1 k1 q1 p1 o1 d1 i2 q2 p2 o2 i3 k3 q3 p3 o3 d3 : Int) (s1 s2 s3 : ByteArray) (w : World) (hw : VW w) (x : Int) (x0 : -1 ≤ x) (x1 : x ≤ 1) (y : Int) (y0 : -1 ≤ y) (y1 : y ≤ 1) (z : Int) (z0 : -1 ≤ z) (z1 : z ≤ 1)
    (HAB : Hid (∀ w, Calls Tryd.prog 10 #[.agg #[.int .i64 i1, .string s1, .int .i64 k1, .int .i64 q1, .int .i64 p1, .int .i64 o1, .int .i64 d1], .agg #[.int .i64 i2, .string s2, .int .i64 k1, .int .i64 q2, .int .i64 p2, .int .i64 o2, .int .i64 d1]] w (Gives (.int .i64 x) w)))
    (HBC : Hid (∀ w, Calls Tryd.prog 10 #[.agg #[.int .i64 i2, .string s2, .int .i64 k1, .int .i64 q2, .int .i64 p2, .int .i64 o2, .int .i64 d1], .agg #[.int .i64 i3, .string s3, .int .i64 k3, .int .i64 q3, .int .i64 p3, .int .i64 o3, .int .i64 d3]] w (Gives (.int .i64 y) w)))
    (HAC : Hid (∀ w, Calls Tryd.prog 10 #[.agg #[.int .i64 i1, .string s1, .int .i64 k1, .int .i64 q1, .int .i64 p1, .int .i64 o1, .int .i64 d1], .agg #[.int .i64 i3, .string s3, .int .i64 k3, .int .i64 q3, .int .i64 p3, .int .i64 o3, .int .i64 d3]] w (Gives (.int .i64 z) w)))
    (HBA : Hid (∀ w, Calls Tryd.prog 10 #[.agg #[.int .i64 i2, .string s2, .int .i64 k1, .int .i64 q2, .int .i64 p2, .int .i64 o2, .int .i64 d1], .agg #[.int .i64 i1, .string s1, .int .i64 k1, .int .i64 q1, .int .i64 p1, .int .i64 o1, .int .i64 d1]] w (Gives (.int .i64 (-x)) w)))
    (e1 : (i1 == i2) = false) (n1 : (x == 0) = false) (n2 : (x != 0) = true) (n3 : (x == y) = false) (n4 : (x != y) = true) :
    Calls Tryd.prog 4 #[.agg #[.int .i64 i1, .string s1, .int .i64 k1, .int .i64 q1, .int .i64 p1, .int .i64 o1, .int .i64 d1], .agg #[.int .i64 i2, .string s2, .int .i64 k1, .int .i64 q2, .int .i64 p2, .int .i64 o2, .int .i64 d1], .agg #[.int .i64 i3, .string s3, .int .i64 k3, .int .i64 q3, .int .i64 p3, .int .i64 o3, .int .i64 d3]] w (Gives (.bool true) w) := by
  have hb0 : Below w.heap.size w (((w.alloc (.cells #[.int .i64 i1, .string s1, .int .i64 k1, .int .i64 q1, .int .i64 p1, .int .i64 o1, .int .i64 d1] 23)).alloc (.cells #[.int .i64 i2, .string s2, .int .i64 k1, .int .i64 q2, .int .i64 p2, .int .i64 o2, .int .i64 d1] 23)).alloc (.cells #[.int .i64 i3, .string s3, .int .i64 k3, .int .i64 q3, .int .i64 p3, .int .i64 o3, .int .i64 d3] 23)) := (((Below.refl _ _).new _).new _).new _
  have HX := Lib.hid (fun w' => sign_any x w' (by omega) (by omega))
  have HY := Lib.hid (fun w' => sign_any y w' (by omega) (by omega))
  have HZ := Lib.hid (fun w' => sign_any z w' (by omega) (by omega))
  have HV := Lib.hid (fun w' => sign_any (-x) w' (by omega) (by omega))
  go_enter Tryd.func4, Tryd.ntmps4
  go_wp2_with fail
  refine (happened_any _ (hw.below hb0)).mono ?_
  rintro e w1 ⟨rfl, hb1⟩
  have hb : Below w.heap.size w w1 := hb0.step hb1
  have hc := (bcell hb1).1
  simp only [World.size_alloc] at hc
  have hl : w.heap.size + 1 + 1 < w1.heap.size := by have := hb1.size; simp only [World.size_alloc] at this; omega
  have hl1 : w.heap.size + 1 < w1.heap.size := by omega
  have hl0 : w.heap.size < w1.heap.size := by omega
  clear hb1
  go_wp2_with fail
  have hcs := fun (p : Since w1) b o h => Since.cells p b o h
  refine wp_region_since (by kernel_rfl) (by kernel_rfl) ?_
  repeat (quiet_step (first
    | (with_reducible exact Calls.since_of (HAB.out _))
    | (with_reducible exact Calls.since_of (HBC.out _))
    | (with_reducible exact Calls.since_of (HAC.out _))
    | (with_reducible exact Calls.since_same (HX.out _))
    | (with_reducible exact Calls.since_same (HY.out _))
    | (with_reducible exact Calls.since_same (HZ.out _))))
  refine wpQuiet_nil ?_
  intro w2 hw'
  obtain ⟨p, hp⟩ := hw'
  have hb2 : Below w1.heap.size w1 w2 := by rw [hp]; exact p.h
  clear hp p hcs
  have hc2 := (bcell hb2).1
  have hm : w.heap.size + 1 + 1 < w2.heap.size := Nat.lt_of_lt_of_le hl hb2.size
  have hm1 : w.heap.size + 1 < w2.heap.size := by omega
  have hm0 : w.heap.size < w2.heap.size := by omega
  replace hb := hb.step hb2
  go_wp2_with fail
  refine (HBA.out _).mono ?_
  rintro e w3 ⟨rfl, hb3⟩
  have hc3 := (bcell hb3).1
  go_wp2_with fail
  refine (HV.out _).mono ?_
  rintro e w4 ⟨rfl, rfl⟩
  go_wp2_with fail
  go_ret
  exact ⟨rfl, hb.step hb3⟩

theorem eventOrder_walk (i1 k1 q1 p1 o1 d1 i2 k2 q2 p2 o2 d2 i3 k3 q3 p3 o3 d3 : Int) (s1 s2 s3 : ByteArray) (w : World) (hw : VW w) :
    Calls Tryd.prog 4 #[.agg #[.int .i64 i1, .string s1, .int .i64 k1, .int .i64 q1, .int .i64 p1, .int .i64 o1, .int .i64 d1], .agg #[.int .i64 i2, .string s2, .int .i64 k2, .int .i64 q2, .int .i64 p2, .int .i64 o2, .int .i64 d2], .agg #[.int .i64 i3, .string s3, .int .i64 k3, .int .i64 q3, .int .i64 p3, .int .i64 o3, .int .i64 d3]] w (Gives (.bool true) w) := by
  have HAB := Lib.hid (fun w => compare_any i1 k1 q1 p1 o1 d1 i2 k2 q2 p2 o2 d2 s1 s2 w)
  have HBC := Lib.hid (fun w => compare_any i2 k2 q2 p2 o2 d2 i3 k3 q3 p3 o3 d3 s2 s3 w)
  have HAC := Lib.hid (fun w => compare_any i1 k1 q1 p1 o1 d1 i3 k3 q3 p3 o3 d3 s1 s3 w)
  have HBA := Lib.hid (fun w => compare_any i2 k2 q2 p2 o2 d2 i1 k1 q1 p1 o1 d1 s2 s1 w)
  rw [Ev.cmpE_swap] at HBA
  have hx := Ev.cmpE_bd i1 k1 d1 i2 k2 d2
  have hy := Ev.cmpE_bd i2 k2 d2 i3 k3 d3
  have hz := Ev.cmpE_bd i1 k1 d1 i3 k3 d3
  have hzero := @Ev.cmpE_zero i1 k1 d1 i2 k2 d2
  have htr := @Ev.cmpE_trans i1 k1 d1 i2 k2 d2 i3 k3 d3
  have hzy : Ev.cmpE i1 k1 d1 i2 k2 d2 = 0 → Ev.cmpE i1 k1 d1 i3 k3 d3 = Ev.cmpE i2 k2 d2 i3 k3 d3 := fun h => by
    obtain ⟨rfl, rfl, rfl⟩ := Ev.cmpE_zero.1 h
    rfl
  generalize Ev.cmpE i1 k1 d1 i2 k2 d2 = x at *
  generalize Ev.cmpE i2 k2 d2 i3 k3 d3 = y at *
  generalize Ev.cmpE i1 k1 d1 i3 k3 d3 = z at *
  by_cases h0 : x = 0
  · obtain ⟨rfl, rfl, rfl⟩ := hzero.1 h0
    obtain rfl := hzy h0
    subst h0
    by_cases h1 : z = 0
    · subst h1
      exact eventOrder_a i1 k1 q1 p1 o1 d1 q2 p2 o2 i3 k3 q3 p3 o3 d3 s1 s2 s3 w hw HAB HBC HAC HBA
    · exact eventOrder_b i1 k1 q1 p1 o1 d1 q2 p2 o2 i3 k3 q3 p3 o3 d3 s1 s2 s3 w hw z hy.1 hy.2 HAB HBC HAC HBA (by simpa using Ne.symm h1) (by simpa using Ne.symm h1)
  · have f1 : (x == 0) = false := by simpa using h0
    have f2 : (x != 0) = true := by simpa using h0
    by_cases h1 : x = y
    · obtain rfl := htr h1
      subst h1
      by_cases e1 : d1 = d2
      · subst e1
        by_cases e2 : k1 = k2
        · subst e2
          exact eventOrder_ci i1 k1 q1 p1 o1 d1 i2 q2 p2 o2 i3 k3 q3 p3 o3 d3 s1 s2 s3 w hw _ hx.1 hx.2 HAB HBC HAC HBA (by simpa using fun e3 => h0 (hzero.2 ⟨rfl, rfl, e3⟩)) f1 f2
        · exact eventOrder_ck i1 k1 q1 p1 o1 d1 i2 k2 q2 p2 o2 i3 k3 q3 p3 o3 d3 s1 s2 s3 w hw _ hx.1 hx.2 HAB HBC HAC HBA (by simpa using e2) f1 f2
      · exact eventOrder_c i1 k1 q1 p1 o1 d1 i2 k2 q2 p2 o2 d2 i3 k3 q3 p3 o3 d3 s1 s2 s3 w hw _ hx.1 hx.2 HAB HBC HAC HBA (by simpa using e1) f1 f2
    · have g1 : (x == y) = false := by simpa using h1
      have g2 : (x != y) = true := by simpa using h1
      by_cases e1 : d1 = d2
      · subst e1
        by_cases e2 : k1 = k2
        · subst e2
          exact eventOrder_di i1 k1 q1 p1 o1 d1 i2 q2 p2 o2 i3 k3 q3 p3 o3 d3 s1 s2 s3 w hw x hx.1 hx.2 y hy.1 hy.2 z hz.1 hz.2 HAB HBC HAC HBA (by simpa using fun e3 => h0 (hzero.2 ⟨rfl, rfl, e3⟩)) f1 f2 g1 g2
        · exact eventOrder_dk i1 k1 q1 p1 o1 d1 i2 k2 q2 p2 o2 i3 k3 q3 p3 o3 d3 s1 s2 s3 w hw x hx.1 hx.2 y hy.1 hy.2 z hz.1 hz.2 HAB HBC HAC HBA (by simpa using e2) f1 f2 g1 g2
      · exact eventOrder_d i1 k1 q1 p1 o1 d1 i2 k2 q2 p2 o2 d2 i3 k3 q3 p3 o3 d3 s1 s2 s3 w hw x hx.1 hx.2 y hy.1 hy.2 z hz.1 hz.2 HAB HBC HAC HBA (by simpa using e1) f1 f2 g1 g2
theorem eventOrder_go (i1 k1 q1 p1 o1 d1 : Int) (s1 : ByteArray) (i2 k2 q2 p2 o2 d2 : Int) (s2 : ByteArray) (i3 k3 q3 p3 o3 d3 : Int) (s3 : ByteArray) (w : World) (hw : VW w) (_ : s1.size ≤ maxLen) (_ : -9223372036854775808 ≤ i1 ∧ i1 ≤ 9223372036854775807) (_ : -9223372036854775808 ≤ k1 ∧ k1 ≤ 9223372036854775807) (_ : -9223372036854775808 ≤ q1 ∧ q1 ≤ 9223372036854775807) (_ : -9223372036854775808 ≤ p1 ∧ p1 ≤ 9223372036854775807) (_ : -9223372036854775808 ≤ o1 ∧ o1 ≤ 9223372036854775807) (_ : -9223372036854775808 ≤ d1 ∧ d1 ≤ 9223372036854775807) (_ : s2.size ≤ maxLen) (_ : -9223372036854775808 ≤ i2 ∧ i2 ≤ 9223372036854775807) (_ : -9223372036854775808 ≤ k2 ∧ k2 ≤ 9223372036854775807) (_ : -9223372036854775808 ≤ q2 ∧ q2 ≤ 9223372036854775807) (_ : -9223372036854775808 ≤ p2 ∧ p2 ≤ 9223372036854775807) (_ : -9223372036854775808 ≤ o2 ∧ o2 ≤ 9223372036854775807) (_ : -9223372036854775808 ≤ d2 ∧ d2 ≤ 9223372036854775807) (_ : s3.size ≤ maxLen) (_ : -9223372036854775808 ≤ i3 ∧ i3 ≤ 9223372036854775807) (_ : -9223372036854775808 ≤ k3 ∧ k3 ≤ 9223372036854775807) (_ : -9223372036854775808 ≤ q3 ∧ q3 ≤ 9223372036854775807) (_ : -9223372036854775808 ≤ p3 ∧ p3 ≤ 9223372036854775807) (_ : -9223372036854775808 ≤ o3 ∧ o3 ≤ 9223372036854775807) (_ : -9223372036854775808 ≤ d3 ∧ d3 ≤ 9223372036854775807) :
    Calls Tryd.prog 4 #[.agg #[.int .i64 i1, .string s1, .int .i64 k1, .int .i64 q1, .int .i64 p1, .int .i64 o1, .int .i64 d1], .agg #[.int .i64 i2, .string s2, .int .i64 k2, .int .i64 q2, .int .i64 p2, .int .i64 o2, .int .i64 d2], .agg #[.int .i64 i3, .string s3, .int .i64 k3, .int .i64 q3, .int .i64 p3, .int .i64 o3, .int .i64 d3]] w (Gives (.bool true) w) := eventOrder_walk i1 k1 q1 p1 o1 d1 i2 k2 q2 p2 o2 d2 i3 k3 q3 p3 o3 d3 s1 s2 s3 w hw
end Go.Proofs.YtjbpeebhphmffaaDoor
