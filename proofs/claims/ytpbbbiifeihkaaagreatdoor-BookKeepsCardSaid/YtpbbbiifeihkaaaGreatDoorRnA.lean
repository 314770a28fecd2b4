/- tallymanref.Ahead: what it hands back. -/
import Derived.Test.YtpbbbiifeihkaaaGreatDoorEvG
namespace Go.Proofs.YtpbbbiifeihkaaaGreatDoor
open Go.RowKit
set_option linter.unusedVariables false

namespace Ev
/-- The one is ahead of the other. -/
def aheadB (i k d i' k' d' : Int) : Bool := decide (cmpE i k d i' k' d' = -1)
end Ev
set_option maxHeartbeats 1000000 in
set_option maxRecDepth 100000 in
theorem ahead_gr (i k q p o d i' k' q' p' o' d' : Int) (s s' : ByteArray) (w : World) :
    Calls Tryz.prog 67 #[.agg #[.int .i64 i, .string s, .int .i64 k, .int .i64 q, .int .i64 p, .int .i64 o, .int .i64 d], .agg #[.int .i64 i', .string s', .int .i64 k', .int .i64 q', .int .i64 p', .int .i64 o', .int .i64 d']] w (fun e w' => e = .returned (.bool (Ev.aheadB i k d i' k' d')) ∧ Gr w w') := by
  have hb0 : Gr w ((w.alloc (.cells #[.int .i64 i, .string s, .int .i64 k, .int .i64 q, .int .i64 p, .int .i64 o, .int .i64 d] 24)).alloc (.cells #[.int .i64 i', .string s', .int .i64 k', .int .i64 q', .int .i64 p', .int .i64 o', .int .i64 d'] 24)) := ((Gr.refl w).alloc _).alloc _
  by_cases h1 : d = d'
  · subst h1
    by_cases h2 : k = k'
    · subst h2
      have e : Ev.aheadB i k d i' k d = decide (i < i') := by
        unfold Ev.aheadB Ev.cmpE Ev.or3 Ev.cmpI
        rw [decide_eq_decide]
        simp only [Int.lt_irrefl, if_false, if_true]
        (repeat' split) <;> omega
      have HE := Lib.hid e
      clear e
      rw [HE.out]
      go_enter Tryz.func67, Tryz.ntmps67
      go_wp2
      go_ret
      exact ⟨rfl, hb0⟩
    · have n2 : (k != k') = true := by simpa using h2
      have e : Ev.aheadB i k d i' k' d = decide (k < k') := by
        unfold Ev.aheadB Ev.cmpE Ev.or3 Ev.cmpI
        rw [decide_eq_decide]
        (repeat' split) <;> omega
      have HE := Lib.hid e
      clear e
      rw [HE.out]
      go_enter Tryz.func67, Tryz.ntmps67
      go_wp2
      go_ret
      exact ⟨rfl, hb0⟩
  · have n1 : (d != d') = true := by simpa using h1
    have e : Ev.aheadB i k d i' k' d' = decide (d < d') := by
      unfold Ev.aheadB Ev.cmpE Ev.or3 Ev.cmpI
      rw [decide_eq_decide]
      (repeat' split) <;> omega
    have HE := Lib.hid e
    clear e
    rw [HE.out]
    go_enter Tryz.func67, Tryz.ntmps67
    go_wp2
    go_ret
    exact ⟨rfl, hb0⟩
theorem gr_bl {w W : World} (h : Gr w W) : Below w.heap.size w W := by
  obtain ⟨q, os, rfl⟩ := h
  refine ⟨rfl, rfl, rfl, ?_, fun k hk => ?_⟩
  · show w.heap.size ≤ (w.heap ++ os).size
    simp
  · show (w.heap ++ os)[k]? = _
    rw [Array.getElem?_append, if_pos hk]
theorem ahead_any (i k q p o d i' k' q' p' o' d' : Int) (s s' : ByteArray) (w : World) :
    Calls Tryz.prog 67 #[.agg #[.int .i64 i, .string s, .int .i64 k, .int .i64 q, .int .i64 p, .int .i64 o, .int .i64 d], .agg #[.int .i64 i', .string s', .int .i64 k', .int .i64 q', .int .i64 p', .int .i64 o', .int .i64 d']] w (Gives (.bool (Ev.aheadB i k d i' k' d')) w) :=
  (ahead_gr i k q p o d i' k' q' p' o' d' s s' w).mono fun _ _ h => ⟨h.1, gr_bl h.2⟩
end Go.Proofs.YtpbbbiifeihkaaaGreatDoor
