/- Joined: EvC, EvG. -/
import Derived.Test.YtackpcohmmlkeaaGreatDoorBase
import Derived.Test.YtackpcohmmlkeaaGreatDoorLawLift
import Derived.StillTailTactics
import Derived.Handy
import Derived.WalkSpells
import Derived.WalkLawsBesides
import Derived.Lib.Hide
import Derived.Sort.Grow

/- EvC: event.Compare: what it hands back. -/
section
namespace Go.Proofs.YtackpcohmmlkeaaGreatDoor
open Go.RowKit

namespace Ev
/-- -1, 0, 1: less, alike, more. -/
def cmpI (x y : Int) : Int := if x < y then -1 else if y < x then 1 else 0
def or3 (a b c : Int) : Int := if a = 0 then (if b = 0 then c else b) else a
/-- The order of events: days, kinds, numbers. -/
def cmpE (i k d i' k' d' : Int) : Int := or3 (cmpI d d') (cmpI k k') (cmpI i i')
theorem cmpI_bd (x y : Int) : cmpI x y = -1 ∨ cmpI x y = 0 ∨ cmpI x y = 1 := by
  unfold cmpI
  split
  · exact Or.inl rfl
  · split
    · exact Or.inr (Or.inr rfl)
    · exact Or.inr (Or.inl rfl)
end Ev

set_option maxHeartbeats 400000 in
theorem nan_any (x : Int) (w : World) : Calls Tryz.prog 127 #[.int .i64 x] w fun e w' => e = .returned (.bool false) ∧ w' = w := by
  go_enter Tryz.func127, Tryz.ntmps127
  go_wp2
  go_ret
  exact ⟨rfl, rfl⟩

set_option maxHeartbeats 400000 in
theorem cmp_any (x y : Int) (w : World) : Calls Tryz.prog 82 #[.int .i64 x, .int .i64 y] w fun e w' => e = .returned (.int .i64 (Ev.cmpI x y)) ∧ w' = w := by
  by_cases h1 : x < y
  · have e : Ev.cmpI x y = -1 := by rw [Ev.cmpI, if_pos h1]
    rw [e]; clear e
    go_enter Tryz.func82, Tryz.ntmps82
    go_wp2_with (go_at_call 127; refine (nan_any _ _).mono ?_; rintro e w' ⟨rfl, rfl⟩)
    go_ret
    exact ⟨rfl, rfl⟩
  · by_cases h2 : y < x
    · have e : Ev.cmpI x y = 1 := by rw [Ev.cmpI, if_neg h1, if_pos h2]
      rw [e]; clear e
      go_enter Tryz.func82, Tryz.ntmps82
      go_wp2_with (go_at_call 127; refine (nan_any _ _).mono ?_; rintro e w' ⟨rfl, rfl⟩)
      go_ret
      exact ⟨rfl, rfl⟩
    · have e : Ev.cmpI x y = 0 := by rw [Ev.cmpI, if_neg h1, if_neg h2]
      rw [e]; clear e
      go_enter Tryz.func82, Tryz.ntmps82
      go_wp2_with (go_at_call 127; refine (nan_any _ _).mono ?_; rintro e w' ⟨rfl, rfl⟩)
      go_ret
      exact ⟨rfl, rfl⟩

set_option maxHeartbeats 1000000 in
set_option maxRecDepth 100000 in
theorem or_any (a b c : Int) (n : Nat) (w : World) (ha : w.cell? ⟨n, 0, none⟩ = some (.int .i64 a)) (hb : w.cell? ⟨n, 1, none⟩ = some (.int .i64 b)) (hc : w.cell? ⟨n, 2, none⟩ = some (.int .i64 c)) :
    Calls Tryz.prog 81 #[.slice (some ⟨n, 0, none⟩) 3 3] w fun e w' => e = .returned (.int .i64 (Ev.or3 a b c)) ∧ w' = w := by
  by_cases h1 : a = 0
  · subst h1
    by_cases h2 : b = 0
    · subst h2
      by_cases h3 : c = 0
      · subst h3
        show Calls _ _ _ _ fun e w' => e = .returned (.int .i64 0) ∧ w' = w
        go_enter Tryz.func81, Tryz.ntmps81
        go_wp2
        refine wp_loop_rounds 4 ?_
        rw [rounds_succ]
        go_wp2
        rw [rounds_succ]
        go_wp2
        rw [rounds_succ]
        go_wp2
        rw [rounds_succ]
        go_wp2
        go_ret
        exact ⟨rfl, rfl⟩
      · have e : Ev.or3 0 0 c = c := rfl
        rw [e]
        have n1 : (c == 0) = false := by simpa using h3
        have n2 : (c != 0) = true := by simpa using h3
        clear e
        go_enter Tryz.func81, Tryz.ntmps81
        go_wp2
        refine wp_loop_rounds 3 ?_
        rw [rounds_succ]
        go_wp2
        rw [rounds_succ]
        go_wp2
        rw [rounds_succ]
        go_wp2
        go_ret
        exact ⟨rfl, rfl⟩
    · have e : Ev.or3 0 b c = b := by rw [Ev.or3, if_pos rfl, if_neg h2]
      rw [e]
      have n1 : (b == 0) = false := by simpa using h2
      have n2 : (b != 0) = true := by simpa using h2
      clear e
      go_enter Tryz.func81, Tryz.ntmps81
      go_wp2
      refine wp_loop_rounds 2 ?_
      rw [rounds_succ]
      go_wp2
      rw [rounds_succ]
      go_wp2
      go_ret
      exact ⟨rfl, rfl⟩
  · have e : Ev.or3 a b c = a := by rw [Ev.or3, if_neg h1]
    rw [e]
    have n1 : (a == 0) = false := by simpa using h1
    have n2 : (a != 0) = true := by simpa using h1
    clear e
    go_enter Tryz.func81, Tryz.ntmps81
    go_wp2
    refine wp_loop_rounds 1 ?_
    rw [rounds_succ]
    go_wp2
    go_ret
    exact ⟨rfl, rfl⟩

set_option maxHeartbeats 4000000 in
set_option maxRecDepth 100000 in
theorem compare_any (i k q p o d i' k' q' p' o' d' : Int) (s s' : ByteArray) (w : World) :
    Calls Tryz.prog 52 #[.agg #[.int .i64 i, .string s, .int .i64 k, .int .i64 q, .int .i64 p, .int .i64 o, .int .i64 d], .agg #[.int .i64 i', .string s', .int .i64 k', .int .i64 q', .int .i64 p', .int .i64 o', .int .i64 d']] w
      (Gives (.int .i64 (Ev.cmpE i k d i' k' d')) w) := by
  have HO := Lib.hid (fun (a b c : Int) (n : Nat) (w : World) => or_any a b c n w)
  have h1 := Lib.hid (cmp_any d d')
  have h2 := Lib.hid (cmp_any k k')
  have h3 := Lib.hid (cmp_any i i')
  have hE : Hid (Ev.cmpE i k d i' k' d' = Ev.or3 (Ev.cmpI d d') (Ev.cmpI k k') (Ev.cmpI i i')) := rfl
  generalize Ev.cmpI d d' = x at h1 hE
  generalize Ev.cmpI k k' = y at h2 hE
  generalize Ev.cmpI i i' = z at h3 hE
  rw [hE.out]
  clear hE
  go_enter Tryz.func52, Tryz.ntmps52
  go_wp2
  refine wp_region_still_tail 15 (by kernel_rfl) (by kernel_rfl) ?_
  change wpStill _ _ (World.drew _) _ _ _
  generalize hW : World.drew _ = W
  have a6 : W.cell? ⟨w.heap.size, 6, none⟩ = some (.int .i64 d) := by rw [← hW]; simp
  have a2 : W.cell? ⟨w.heap.size, 2, none⟩ = some (.int .i64 k) := by rw [← hW]; simp
  have a0 : W.cell? ⟨w.heap.size, 0, none⟩ = some (.int .i64 i) := by rw [← hW]; simp
  have b6 : W.cell? ⟨w.heap.size + 1, 6, none⟩ = some (.int .i64 d') := by rw [← hW]; simp
  have b2 : W.cell? ⟨w.heap.size + 1, 2, none⟩ = some (.int .i64 k') := by rw [← hW]; simp
  have b0 : W.cell? ⟨w.heap.size + 1, 0, none⟩ = some (.int .i64 i') := by rw [← hW]; simp
  have hbW : Below w.heap.size w W := by rw [← hW]; exact below_drewN (((Below.refl _ _).alloc (Nat.le_refl _) _).alloc (by simp) _) 1
  have HW := Lib.hid hW
  clear hW
  simp only [List.take_succ_cons, List.take_zero, List.drop_succ_cons, List.drop_zero]
  still_step
  still_step
  still_step
  still_step
  still_call (h1.out _)
  still_step
  still_step
  still_step
  still_step
  still_call (h2.out _)
  still_step
  still_step
  still_step
  still_step
  still_call (h3.out _)
  refine wpStill_nil ?_
  change wpList _ _ _ _ _ (World.drew _)
  rw [HW.out]
  have hbs := hbW.size
  go_wp2_with fail
  refine (HO.out x y z W.heap.size _ (by simp) (by simp) (by simp)).mono ?_
  rintro e w' ⟨rfl, rfl⟩
  go_wp2_with fail
  go_ret
  exact ⟨rfl, hbW.new _⟩
end Go.Proofs.YtackpcohmmlkeaaGreatDoor
end

/- EvG: event.Compare: of the world it leaves: draws, and blocks of its own, no more. -/
section
namespace Go.Proofs.YtackpcohmmlkeaaGreatDoor
open Go.RowKit Go.Proofs Go.Sort
/-- Draws, and blocks laid behind all that was there. -/
def Gr (w W : World) : Prop := ∃ q os, W = grow (w.drewN q) os
theorem Gr.refl (w : World) : Gr w w := ⟨0, #[], by rw [grow_empty]; rfl⟩
theorem Gr.alloc {w W : World} (h : Gr w W) (o : Obj) : Gr w (W.alloc o) := by
  obtain ⟨q, os, rfl⟩ := h
  exact ⟨q, os ++ #[o], by rw [alloc_eq_grow, grow_grow]⟩
theorem Gr.drew {w W : World} (h : Gr w W) : Gr w W.drew := by
  obtain ⟨q, os, rfl⟩ := h
  exact ⟨q + 1, os, rfl⟩

set_option maxHeartbeats 1000000 in
set_option maxRecDepth 100000 in
/-- .. and of the world: draws, and blocks of the call's own. -/
theorem compare_grow (i k q p o d i' k' q' p' o' d' : Int) (s s' : ByteArray) (w : World) :
    Calls Tryz.prog 52 #[.agg #[.int .i64 i, .string s, .int .i64 k, .int .i64 q, .int .i64 p, .int .i64 o, .int .i64 d], .agg #[.int .i64 i', .string s', .int .i64 k', .int .i64 q', .int .i64 p', .int .i64 o', .int .i64 d']] w
      (fun e w' => e = .returned (.int .i64 (Ev.cmpE i k d i' k' d')) ∧ Gr w w') := by
  have HO := Lib.hid (fun (a b c : Int) (n : Nat) (w : World) => or_any a b c n w)
  have h1 := Lib.hid (cmp_any d d')
  have h2 := Lib.hid (cmp_any k k')
  have h3 := Lib.hid (cmp_any i i')
  have hE : Hid (Ev.cmpE i k d i' k' d' = Ev.or3 (Ev.cmpI d d') (Ev.cmpI k k') (Ev.cmpI i i')) := rfl
  generalize Ev.cmpI d d' = x at h1 hE
  generalize Ev.cmpI k k' = y at h2 hE
  generalize Ev.cmpI i i' = z at h3 hE
  rw [hE.out]
  clear hE
  go_enter Tryz.func52, Tryz.ntmps52
  go_wp2
  refine wp_region_still_tail 15 (by kernel_rfl) (by kernel_rfl) ?_
  change wpStill _ _ (World.drew _) _ _ _
  generalize hW : World.drew _ = W
  have a6 : W.cell? ⟨w.heap.size, 6, none⟩ = some (.int .i64 d) := by rw [← hW]; simp
  have a2 : W.cell? ⟨w.heap.size, 2, none⟩ = some (.int .i64 k) := by rw [← hW]; simp
  have a0 : W.cell? ⟨w.heap.size, 0, none⟩ = some (.int .i64 i) := by rw [← hW]; simp
  have b6 : W.cell? ⟨w.heap.size + 1, 6, none⟩ = some (.int .i64 d') := by rw [← hW]; simp
  have b2 : W.cell? ⟨w.heap.size + 1, 2, none⟩ = some (.int .i64 k') := by rw [← hW]; simp
  have b0 : W.cell? ⟨w.heap.size + 1, 0, none⟩ = some (.int .i64 i') := by rw [← hW]; simp
  have hbW : Gr w W := by rw [← hW]; exact (((Gr.refl w).alloc _).alloc _).drew
  have hbs : w.heap.size ≤ W.heap.size := by rw [← hW]; simp; omega
  have HW := Lib.hid hW
  clear hW
  simp only [List.take_succ_cons, List.take_zero, List.drop_succ_cons, List.drop_zero]
  still_step
  still_step
  still_step
  still_step
  still_call (h1.out _)
  still_step
  still_step
  still_step
  still_step
  still_call (h2.out _)
  still_step
  still_step
  still_step
  still_step
  still_call (h3.out _)
  refine wpStill_nil ?_
  change wpList _ _ _ _ _ (World.drew _)
  rw [HW.out]
  go_wp2_with fail
  refine (HO.out x y z W.heap.size _ (by simp) (by simp) (by simp)).mono ?_
  rintro e w' ⟨rfl, rfl⟩
  go_wp2_with fail
  go_ret
  exact ⟨rfl, hbW.alloc _⟩
end Go.Proofs.YtackpcohmmlkeaaGreatDoor
end
