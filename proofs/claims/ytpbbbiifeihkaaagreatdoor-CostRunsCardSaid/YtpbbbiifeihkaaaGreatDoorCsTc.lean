/- slices.Clone at events. -/
import Derived.Test.YtpbbbiifeihkaaaGreatDoorCsPa
import Derived.LoopTactic
namespace Go.Proofs.YtpbbbiifeihkaaaGreatDoor
open Go.RowKit
open Go.Maps (Keyed)
set_option linter.unusedVariables false

set_option maxHeartbeats 1000000 in
set_option maxRecDepth 100000 in
theorem cloneE_any (hi : Nat) (v : Value) (es : List Evt) (w : World) (h : RdE hi w v es) (hh : hi ≤ w.heap.size) (hl : es.length ≤ 1000) :
    Calls Tryz.prog 86 #[v] w fun e w' => ∃ v', e = .returned v' ∧ w'.ownsRow w.heap.size 24 7 v' es.length (flE es) ∧ Below w.heap.size w w' := by
  obtain ⟨i0, hinf, hiz, his, hib⟩ := info_parts info_evt
  have h' := h
  rcases h' with ⟨rfl, rfl⟩ | ⟨b, off, cap, rfl, hb, hc⟩
  · clear h
    go_enter Tryz.func86, Tryz.ntmps86
    have k0 := fun (w : World) => Lib.run_eql_slice_nil (P := Tryz.prog) w
    go_wp2
    go_ret
    exact ⟨_, rfl, World.ownsRow_nil _ _ _ _, Below.refl _ _⟩
  · have HCS := Lib.hid (rdE_cells (h.below (((Below.refl _ w).new (.cells #[] 24)).mono hh)))
    clear h hc
    have k0 := fun (w : World) => Lib.run_eql_slice_nil (P := Tryz.prog) w 22 24 (some ⟨b, off, none⟩) es.length cap 0 0 Tryz.underlying22
    go_enter Tryz.func86, Tryz.ntmps86
    go_wp2_with (first
      | (at_builtin; refine wpList_append_own _ rfl (.tmp 5) (.tmp 6) 22 rfl w.heap.size 24 i0 (.agg #[.int .i64 0, .string ⟨#[]⟩, .int .i64 0, .int .i64 0, .int .i64 0, .int .i64 0, .int .i64 0]) 7 64 Tryz.underlying22 hinf hiz his hib rfl (by decide) _ 0 [] rfl (own_empty_e _ _ _ _ (Nat.le_refl _)) ⟨b, off, none⟩ es.length cap (flE es) rfl (flE_len es) HCS.out (one_flE es) (by unfold maxLen; omega) (by omega) (by simp) ?_; intro v2 w2 hown2 hg2 _))
    go_ret
    refine ⟨v2, rfl, ?_, ((Below.refl _ w).new _).owngrown (own_empty_e _ _ 24 7 (Nat.le_refl _)) hg2 (by simp)⟩
    simpa using hown2
end Go.Proofs.YtpbbbiifeihkaaaGreatDoor
