/- journal.remainder, Sum, four, get: what they hand back. -/
import Derived.Test.YtmkkoccnnehkeaaDoorRows
import Derived.Test.YtmkkoccnnehkeaaDoorBase
import Derived.Test.YtmkkoccnnehkeaaDoorLawLift
import Derived.Test.YtmkkoccnnehkeaaDoorCrcM
import Derived.WalkKit
import Derived.WalkSpells
import Derived.WalkLawsBesides
import Derived.Deep.QuietTactic
import Derived.BigQuiet
import Derived.Deep.LoopGhost
import Derived.Handy
import Derived.Lib.Hide
namespace Go.Proofs.YtmkkoccnnehkeaaDoor
open Go.RowKit

theorem ret_int {k : IntKind} {a b : Int} (h : a = b) : Ending.returned (.int k a) = .returned (.int k b) := by rw [h]
theorem take_snoc' (s : ByteArray) (k : Nat) (h : k < s.size) : s.data.toList.take (k + 1) = s.data.toList.take k ++ [s[k]] := by
  rw [List.take_succ_eq_append_getElem (by simpa using h)]; rfl

set_option maxHeartbeats 400000 in
theorem remainder_any (x : Nat) (w : World) (hx : x < 4294967296) :
    Calls Tryd.prog 42 #[.int .u32 x] w fun e w' => e = .returned (.int .u32 (Cr.rem8 x : Nat)) ∧ w = w' := by
  have HX := Lib.hid hx
  clear hx
  go_enter Tryd.func42, Tryd.ntmps42
  go_wp2
  go_loop [0, 3] (fun c i => ∃ k : Nat, k ≤ 8 ∧ i = .int .i64 k ∧ c = .int .u32 ((Cr.gn k x : Nat) : Int)) (fun _ i => 8 - (intOf i).toNat)
  case atStart => exact ⟨0, by omega, rfl, rfl⟩
  case round =>
    obtain ⟨k, hk, rfl, rfl⟩ := hrel
    by_cases hlt : k < 8
    · have hy := Cr.gn_lt k x HX.out
      have hs : Cr.gn (k + 1) x = Cr.g (Cr.gn k x) := rfl
      obtain ⟨y, hy0⟩ : ∃ y, y = Cr.gn k x := ⟨_, rfl⟩
      rw [← hy0] at hy hs ⊢
      have HS := Lib.hid hs
      have Hy := Lib.hid hy
      clear hy0 hs hy
      by_cases hodd : y % 2 = 1
      · have hand : bits .and .u32 (y : Int) 1 = 1 := by
          have := u32_and_nat y 1 Hy.out (by omega)
          rw [nat_mask1, hodd] at this
          exact this
        go_wp2
        go_round
        case rel =>
          refine ⟨k + 1, by omega, by go_num, ?_⟩
          rw [HS.out]; exact Cr.val_of (Cr.g_odd y Hy.out hodd)
        case measure => simp [intOf]; omega
      · have hand : bits .and .u32 (y : Int) 1 = 0 := by
          have := u32_and_nat y 1 Hy.out (by omega)
          rw [nat_mask1, show y % 2 = 0 from by omega] at this
          exact this
        go_wp2
        go_round
        case rel =>
          refine ⟨k + 1, by omega, by go_num, ?_⟩
          rw [HS.out]; exact Cr.val_of (Cr.g_even y hodd)
        case measure => simp [intOf]; omega
    · obtain rfl : k = 8 := by omega
      go_wp2
      go_ret
      exact ⟨rfl, rfl⟩

theorem remainder_at (z : Int) {w : World} (h0 : 0 ≤ z) (h1 : z < 4294967296) :
    Calls Tryd.prog 42 #[.int .u32 z] w fun e w' => e = .returned (.int .u32 (Cr.rem8 z.toNat : Nat)) ∧ w = w' := by
  obtain ⟨x, rfl⟩ := Int.eq_ofNat_of_zero_le h0
  exact remainder_any x w (by omega)

set_option maxHeartbeats 400000 in
set_option maxRecDepth 100000 in
theorem sum_any (s : ByteArray) (w : World) (hs : s.size ≤ maxLen) :
    Calls Tryd.prog 16 #[.string s] w fun e w' => e = .returned (.int .u32 (Cr.crc s.data.toList : Nat)) ∧ w = w' := by
  unfold maxLen at hs
  go_enter Tryd.func16, Tryd.ntmps16
  go_wp2
  go_loop [3, 7] (fun c i => ∃ k : Nat, k ≤ s.size ∧ i = .int .i64 k ∧ c = .int .u32 ((Cr.crc0 (s.data.toList.take k) : Nat) : Int)) (fun _ i => s.size - (intOf i).toNat)
  case atStart => exact ⟨0, by omega, rfl, rfl⟩
  case round =>
    obtain ⟨k, hk, rfl, rfl⟩ := hrel
    have hc := Cr.crc0_lt (s.data.toList.take k)
    obtain ⟨c, hc0⟩ : ∃ c, c = Cr.crc0 (s.data.toList.take k) := ⟨_, rfl⟩
    rw [← hc0] at hc ⊢
    by_cases hlt : k < s.size
    · have hst : Cr.crc0 (s.data.toList.take (k + 1)) = Cr.sstep c s[k] := by rw [take_snoc' s k hlt, Cr.crc0_snoc, hc0]
      have HST := Lib.hid hst
      have Hc := Lib.hid hc
      clear hst hc0 hc
      have hlow := Cr.low_xor c s[k]
      have hx := Cr.byte_xor_lt (c % 256) s[k].toNat (by omega) (UInt8.toNat_lt _)
      obtain ⟨x, hx0⟩ : ∃ x, x = (c % 256) ^^^ s[k].toNat := ⟨_, rfl⟩
      rw [← hx0] at hlow hx
      have Hx0 := Lib.hid hx0
      clear hx0
      go_wp2_with fail
      refine (remainder_at _ (by omega) (by omega)).mono ?_
      rintro e w' ⟨rfl, rfl⟩
      go_wp2_with fail
      go_round
      case rel =>
        refine ⟨k + 1, by omega, by go_num, ?_⟩
        rw [HST.out]
        refine Cr.val_of (Cr.sstep_int c s[k] Hc.out _ ?_)
        rw [← Hx0.out]
      case measure => simp [intOf]; omega
    · obtain rfl : k = s.size := by omega
      rw [List.take_of_length_le (by simp)] at hc0
      have Hc0 := Lib.hid hc0
      have Hc := Lib.hid hc
      clear hc0 hc
      go_wp2
      go_ret
      refine ⟨?_, rfl⟩
      rw [show Cr.crc s.data.toList = Cr.ones - c from by rw [Hc0.out]; rfl]
      exact ret_int (Cr.turn c Hc.out)

theorem conv4 (w : World) (x0 x1 x2 x3 : Int) : (convert 74 9 (.slice (some ⟨w.heap.size, 0, none⟩) 4 4)).run Tryd.prog (w.alloc (.cells #[.int .u8 x0, .int .u8 x1, .int .u8 x2, .int .u8 x3] 5)) =
    .ok (.string ⟨#[UInt8.ofNat x0.toNat, UInt8.ofNat x1.toNat, UInt8.ofNat x2.toNat, UInt8.ofNat x3.toNat]⟩) (w.alloc (.cells #[.int .u8 x0, .int .u8 x1, .int .u8 x2, .int .u8 x3] 5)) := by
  have hb : (w.alloc (.cells #[.int .u8 x0, .int .u8 x1, .int .u8 x2, .int .u8 x3] 5)).heap[w.heap.size]? = some (.cells #[.int .u8 x0, .int .u8 x1, .int .u8 x2, .int .u8 x3] 5) := by
    show (w.heap.push _)[w.heap.size]? = _; simp
  have hH := holds_of_row (L := [x0, x1, x2, x3]) hb (by rfl)
  exact conv_holds (P := Tryd.prog) 74 9 5 Tryd.underlying74 Tryd.underlying5 Tryd.underlying9 hH rfl

set_option maxHeartbeats 400000 in
theorem four_at (z : Int) {w : World} (h0 : 0 ≤ z) (h1 : z < 4294967296) :
    Calls Tryd.prog 39 #[.int .u32 z] w (Gives (.string ⟨(Cr.four z.toNat).toArray⟩) w) := by
  have hcv := conv4
  go_enter Tryd.func39, Tryd.ntmps39
  go_wp2
  go_ret
  refine ⟨?_, (Below.refl _ _).alloc (Nat.le_refl _) _⟩
  rw [← Cr.four_val z h0 h1]
  rfl

set_option maxHeartbeats 400000 in
theorem get_any (s : ByteArray) (w : World) (hs : 4 ≤ s.size) :
    Calls Tryd.prog 59 #[.string s] w fun e w' => e = .returned (.int .u32 (Cr.get s.data.toList : Nat)) ∧ ∃ n, w' = w.drewN n := by
  have i0 := index_at (P := Tryd.prog) 9 Tryd.underlying9 s 0 0 rfl (by omega)
  have i1 := index_at (P := Tryd.prog) 9 Tryd.underlying9 s 1 1 rfl (by omega)
  have i2 := index_at (P := Tryd.prog) 9 Tryd.underlying9 s 2 2 rfl (by omega)
  have i3 := index_at (P := Tryd.prog) 9 Tryd.underlying9 s 3 3 rfl (by omega)
  have hj := Cr.join4 (s.data.toList.getD 0 0).toNat (s.data.toList.getD 1 0).toNat (s.data.toList.getD 2 0).toNat (s.data.toList.getD 3 0).toNat (UInt8.toNat_lt _) (UInt8.toNat_lt _) (UInt8.toNat_lt _) (UInt8.toNat_lt _)
  have hj2 : _ = ((Cr.get s.data.toList : Nat) : Int) := hj
  have b0 := UInt8.toNat_lt (s.data.toList.getD 0 0)
  have b1 := UInt8.toNat_lt (s.data.toList.getD 1 0)
  have b2 := UInt8.toNat_lt (s.data.toList.getD 2 0)
  have b3 := UInt8.toNat_lt (s.data.toList.getD 3 0)
  obtain ⟨x0, h0⟩ : ∃ x, x = (s.data.toList.getD 0 0).toNat := ⟨_, rfl⟩
  obtain ⟨x1, h1⟩ : ∃ x, x = (s.data.toList.getD 1 0).toNat := ⟨_, rfl⟩
  obtain ⟨x2, h2⟩ : ∃ x, x = (s.data.toList.getD 2 0).toNat := ⟨_, rfl⟩
  obtain ⟨x3, h3⟩ : ∃ x, x = (s.data.toList.getD 3 0).toNat := ⟨_, rfl⟩
  rw [← h0] at i0 b0 hj2
  rw [← h1] at i1 b1 hj2
  rw [← h2] at i2 b2 hj2
  rw [← h3] at i3 b3 hj2
  have HJ := Lib.hid hj2
  clear h0 h1 h2 h3 hj hj2
  go_enter Tryd.func59, Tryd.ntmps59
  go_wp2
  go_quiet (fail)
  go_wp2
  go_ret
  exact ⟨ret_int HJ.out, _, rfl⟩
end Go.Proofs.YtmkkoccnnehkeaaDoor
