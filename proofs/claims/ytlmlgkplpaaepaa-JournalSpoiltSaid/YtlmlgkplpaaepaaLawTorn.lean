/- tallymankeep.framed, JournalTorn: the walks. -/
import Derived.Test.YtlmlgkplpaaepaaFrames
namespace Go.Proofs.Ytlmlgkplpaaepaa
open Go.RowKit

theorem strv_lsts (zs : List ByteArray) : (lsts zs).map strv = zs.map Value.string := by
  simp [lsts, strv, List.map_map, Function.comp_def]

def ReadIs (ts : List (List UInt8)) (m : Nat) (w : World) (e : Ending) (w' : World) : Prop :=
  ∃ a c, e = .returned (.tuple #[.slice a ts.length c, .int .i64 (m : Nat)]) ∧ Rd w' a (ts.map strv) ∧ Below w.heap.size w w'
theorem read_is (s : ByteArray) (ts : List (List UInt8)) (m : Nat) {w : World} (hs : s.size ≤ 100000000) (h : Cr.Reads s.data.toList 0 ts m) :
    Calls Try.prog 15 #[.string s] w (ReadIs ts m w) := by
  refine (read_any s w hs).mono ?_
  rintro e w' ⟨v, ts', m', hr, rfl, ho, hb⟩
  obtain ⟨rfl, rfl⟩ := h.det hr
  obtain ⟨a, c, rfl, hrd, _, _⟩ := rd_of_own ho
  exact ⟨a, c, rfl, hrd, hb⟩

theorem crc_known : Cr.crc [49, 50, 51, 52, 53, 54, 55, 56, 57] = 3421780262 := by decide +kernel
theorem sum_known (w : World) : Calls Try.prog 32 #[.string ⟨#[49, 50, 51, 52, 53, 54, 55, 56, 57]⟩] w fun e w' => e = .returned (.int .u32 3421780262) ∧ w' = w := by
  refine (sum_at ⟨#[49, 50, 51, 52, 53, 54, 55, 56, 57]⟩ (by unfold maxLen; decide) 3421780262 crc_known.symm w).mono ?_
  rintro e w' ⟨rfl, rfl⟩
  exact ⟨rfl, rfl⟩
theorem reads_ab : Cr.Reads (Cr.frame 0 [97, 98] ++ [120]) 0 [[97, 98]] 18 := by
  have h := Cr.one_frame 0 [97, 98] [120] (by omega) (by decide)
  have := Cr.Reads.go h (ts := []) (k := 0) (Cr.Reads.stop (by
    rw [List.drop_left' (by rw [Cr.frame_len])]
    unfold Cr.one; rw [if_pos (by decide)]))
  exact this

set_option maxHeartbeats 400000 in
theorem framed_any (w : World) : Calls Try.prog 14 #[] w (Gives (.bool true) w) := by
  have hl := Cr.frame_len 0 [97, 98]
  obtain ⟨F, hF⟩ : ∃ F, F = Cr.frame 0 [97, 98] := ⟨_, rfl⟩
  have C1 := fun w => frame_ok_at 0 ⟨#[97, 98]⟩ (w := w) 0 rfl (by omega) (by decide)
  have C2 := fun w => read_is ⟨(F ++ [120]).toArray⟩ [[97, 98]] 18 (w := w) (by show (F ++ [120]).toArray.size ≤ _; simp [hF, hl]) (by simpa [hF] using reads_ab)
  have hcat := cat_lists F [120] (F ++ [120]) rfl
  simp only at C1
  rw [← hF] at C1 hl
  have hl18 : F.length = 18 := hl
  have HC1 := Lib.hid C1
  have HC2 := Lib.hid C2
  clear C1 C2 hF hl
  go_enter Try.func14, Try.ntmps14
  go_wp2_with fail
  refine (HC1.out _).mono ?_
  rintro e w1 ⟨rfl, hb1⟩
  go_wp2_with fail
  refine (sum_known _).mono ?_
  rintro e w' ⟨rfl, rfl⟩
  go_wp2_with fail
  refine (HC2.out _).mono ?_
  rintro e w2 ⟨a, c, rfl, hr, hb2⟩
  obtain ⟨b, off, rfl, hc⟩ := hr 0 (by simp)
  have hc' : w2.cell? ⟨b, off, none⟩ = some (.string ⟨#[97, 98]⟩) := by simpa [strv] using hc
  clear hc hr
  go_wp2_with fail
  go_ret
  exact ⟨rfl, hb1.step hb2⟩
end Go.Proofs.Ytlmlgkplpaaepaa
