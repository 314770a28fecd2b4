/- tallymanref.Sum, four: what they hand back. -/
import Derived.Test.YtmkkoccnnehkeaaDoorCrcG
import Derived.Test.YtmkkoccnnehkeaaDoorCrcL
import Derived.Test.YtmkkoccnnehkeaaDoorRefIn
namespace Go.Proofs.YtmkkoccnnehkeaaDoor
open Go.RowKit

theorem Cr.shr_nat (b k : Nat) : ((b : Int) / 2 ^ k) = ((b / 2 ^ k : Nat) : Int) := by
  rw [Int.natCast_ediv, Int.natCast_pow]; rfl
theorem Cr.crc_sub (c : Nat) (h : c < 4294967296) : (4294967295 : Int) - c = ((Cr.ones - c : Nat) : Int) := by
  rw [Cr.ones_val]; omega

set_option maxHeartbeats 1000000 in
set_option maxRecDepth 100000 in
theorem refSum_any (s : ByteArray) (w : World) (hs : s.size ≤ maxLen) :
    Calls Tryd.prog 17 #[.string s] w fun e w' => e = .returned (.int .u32 (Cr.crc s.data.toList : Nat)) ∧ w = w' := by
  unfold maxLen at hs
  go_enter Tryd.func17, Tryd.ntmps17
  go_wp2
  go_loop [3, 10] (fun c i => ∃ k : Nat, k ≤ s.size ∧ i = .int .i64 k ∧ c = .int .u32 ((Cr.crc0 (s.data.toList.take k) : Nat) : Int)) (fun _ i => s.size - (intOf i).toNat)
  case atStart => exact ⟨0, by omega, rfl, rfl⟩
  case round =>
    obtain ⟨k, hk, rfl, rfl⟩ := hrel
    have hc := Cr.crc0_lt (s.data.toList.take k)
    obtain ⟨c, hc0⟩ : ∃ c, c = Cr.crc0 (s.data.toList.take k) := ⟨_, rfl⟩
    rw [← hc0] at hc ⊢
    by_cases hlt : k < s.size
    · have hst : Cr.crc0 (s.data.toList.take (k + 1)) = Cr.bst c s[k].toNat 8 := by rw [take_snoc' s k hlt, Cr.crc0_snoc, hc0, Cr.bst_eight]
      have HST := Lib.hid hst
      have Hc := Lib.hid hc
      have hb := UInt8.toNat_lt s[k]
      clear hst hc0 hc
      go_wp2
      go_loop [3, 13] (fun c' i => ∃ j : Nat, j ≤ 8 ∧ i = .int .i64 j ∧ c' = .int .u32 ((Cr.bst c s[k].toNat j : Nat) : Int)) (fun _ i => 8 - (intOf i).toNat)
      case atStart => exact ⟨0, by omega, rfl, by rw [Cr.bst_zero]⟩
      case round =>
        obtain ⟨j, hj, rfl, rfl⟩ := hrel
        have hl := Cr.bst_lt c s[k].toNat j Hc.out hb
        have hss := Cr.bst_step c s[k].toNat j
        obtain ⟨x, hx⟩ : ∃ x, x = Cr.bst c s[k].toNat j := ⟨_, rfl⟩
        rw [← hx] at hl hss ⊢
        by_cases hlt8 : j < 8
        · have hsh := Cr.shr_nat s[k].toNat j
          obtain ⟨y, hy⟩ : ∃ y, y = s[k].toNat / 2 ^ j := ⟨_, rfl⟩
          have hy2 : y ≤ s[k].toNat := by rw [hy]; exact Nat.div_le_self _ _
          rw [← hy] at hsh hss
          have ha1 : bits .and .u32 (y : Int) 1 = ((y % 2 : Nat) : Int) := by
            have := u32_and_nat y 1 (by omega) (by omega)
            rw [nat_mask1] at this
            exact this
          obtain ⟨z, hz⟩ : ∃ z, z = y % 2 := ⟨_, rfl⟩
          rw [← hz] at ha1 hss
          have hz1 : z ≤ 1 := by omega
          have hxx := u32_xor_nat x z hl (by omega)
          obtain ⟨v, hv⟩ : ∃ v, v = x ^^^ z := ⟨_, rfl⟩
          rw [← hv] at hxx hss
          have hv2 : v < 4294967296 := by rw [hv]; exact Nat.xor_lt_two_pow (n := 32) (by omega) (by omega)
          have ha2 : bits .and .u32 (v : Int) 1 = ((v % 2 : Nat) : Int) := by
            have := u32_and_nat v 1 (by omega) (by omega)
            rw [nat_mask1] at this
            exact this
          have hpx := u32_xor_nat (x / 2) Cr.poly (by omega) (by rw [Cr.poly_val]; omega)
          have HP : Hid (bits .xor .u32 ((x : Int) / 2) 3988292384 = (((x / 2) ^^^ Cr.poly : Nat) : Int)) := Lib.hid (by rw [← hpx]; congr 1)
          have HSS := Lib.hid hss
          clear hx hy hz hv hss hpx
          by_cases ho : v % 2 = 1
          · rw [ho] at ha2
            have HO := Lib.hid ho
            clear ho
            go_wp2
            go_round
            case rel =>
              refine ⟨j + 1, by omega, by go_num, ?_⟩
              rw [HSS.out, if_pos HO.out]
              exact Cr.val_of HP.out
            case measure => simp [intOf]; omega
          · have ho' : v % 2 = 0 := by omega
            rw [ho'] at ha2
            have HO := Lib.hid ho
            clear ho ho'
            go_wp2
            go_round
            case rel =>
              refine ⟨j + 1, by omega, by go_num, ?_⟩
              rw [HSS.out, if_neg HO.out]
              exact Cr.val_of (by omega)
            case measure => simp [intOf]; omega
        · obtain rfl : j = 8 := by omega
          have HX := Lib.hid hx
          clear hx hss
          go_wp2
          go_round
          case rel => exact ⟨k + 1, by omega, by go_num, by rw [HST.out, HX.out]⟩
          case measure => simp [intOf]; omega
    · obtain rfl : k = s.size := by omega
      rw [List.take_of_length_le (by simp)] at hc0
      have Hc0 := Lib.hid hc0
      have Hc := Lib.hid hc
      clear hc0
      go_wp2
      go_ret
      refine ⟨?_, rfl⟩
      rw [show Cr.crc s.data.toList = Cr.ones - c from by rw [Hc0.out]; rfl]
      exact ret_int (Cr.crc_sub c Hc.out)

/-- The low bytes of a number. -/
def Cr.fourK (u : Nat) : Nat → List UInt8
  | 0 => []
  | k + 1 => Cr.fourK u k ++ [UInt8.ofNat (u / 256 ^ k % 256)]
theorem Cr.fourK_len (u k : Nat) : (Cr.fourK u k).length = k := by
  induction k with
  | zero => rfl
  | succ k ih => rw [Cr.fourK, List.length_append, ih]; rfl
theorem Cr.fourK_four (u : Nat) : Cr.fourK u 4 = Cr.four u := by
  simp only [Cr.fourK, Cr.four, List.nil_append, List.cons_append]
  simp

theorem conv1 (w : World) (x0 : Int) : (convert 74 9 (.slice (some ⟨w.heap.size, 0, none⟩) 1 1)).run Tryd.prog (w.alloc (.cells #[.int .u8 x0] 5)) =
    .ok (.string ⟨#[UInt8.ofNat x0.toNat]⟩) (w.alloc (.cells #[.int .u8 x0] 5)) := by
  have hb : (w.alloc (.cells #[.int .u8 x0] 5)).heap[w.heap.size]? = some (.cells #[.int .u8 x0] 5) := by
    show (w.heap.push _)[w.heap.size]? = _; simp
  have hH := holds_of_row (L := [x0]) hb (by rfl)
  exact conv_holds (P := Tryd.prog) 74 9 5 Tryd.underlying74 Tryd.underlying5 Tryd.underlying9 hH rfl

set_option maxHeartbeats 400000 in
set_option maxRecDepth 100000 in
theorem refFour_at (z : Int) {w : World} (h0 : 0 ≤ z) (h1 : z < 4294967296) :
    Calls Tryd.prog 38 #[.int .u32 z] w (Gives (.string ⟨(Cr.four z.toNat).toArray⟩) w) := by
  obtain ⟨u, rfl⟩ := Int.eq_ofNat_of_zero_le h0
  rw [Int.toNat_natCast]
  have hcv := conv1
  obtain ⟨L, hL⟩ : ∃ L, L = Cr.four u := ⟨_, rfl⟩
  rw [← hL]
  have HL := Lib.hid hL
  clear hL
  have H1 : Hid (u < 4294967296) := Lib.hid (by omega)
  clear h0 h1
  go_enter Tryd.func38, Tryd.ntmps38
  go_wp2
  go_loopw [0, 3, 4] (fun n x i wr => ∃ (k : Nat) (t : ByteArray), k ≤ 4 ∧ i = .int .i64 k ∧ n = .int .u32 ((u / 256 ^ k : Nat) : Int) ∧ x = .string t ∧ Hid (t.data.toList = Cr.fourK u k) ∧ Below w.heap.size w wr) (fun _ _ i _ => 4 - (intOf i).toNat)
  case atStart => exact ⟨0, ⟨#[]⟩, by omega, rfl, by simp, rfl, Lib.hid rfl, Below.refl _ _⟩
  case round =>
    obtain ⟨k, t, hk, rfl, hn, rfl, HT, hb⟩ := hrel
    have hts : t.size ≤ 4 := by
      have h1 := Cr.fourK_len u k
      rw [← HT.out] at h1
      simp at h1
      omega
    obtain ⟨V, hV⟩ : ∃ V : Int, V = ((u / 256 ^ k : Nat) : Int) := ⟨_, rfl⟩
    rw [← hV] at hn
    subst hn
    have hV0 : 0 ≤ V := by rw [hV]; exact Int.natCast_nonneg _
    have hV1 : V < 4294967296 := by
      have : u / 256 ^ k ≤ u := Nat.div_le_self _ _
      have := H1.out
      omega
    have HV := Lib.hid hV
    clear hV
    by_cases hlt : k < 4
    · have hbs := hb.size
      go_wp2
      go_roundw
      case rel =>
        refine ⟨k + 1, _, by omega, by go_num, ?_, rfl, Lib.hid ?_, hb.new _⟩
        · rw [Nat.pow_succ, ← Nat.div_div_eq_div_mul]
          exact Cr.val_of (by rw [HV.out]; omega)
        · rw [Cr.fourK, ← HT.out, ByteArray.data_append, show (V % 256).toNat = u / 256 ^ k % 256 by rw [HV.out]; omega]
          simp
      case measure => simp [intOf]; omega
    · obtain rfl : k = 4 := by omega
      go_wp2
      go_ret
      refine ⟨congrArg Ending.returned (congrArg Value.string (ByteArray.ext (Array.ext' ?_))), hb⟩
      rw [HT.out, Cr.fourK_four, HL.out]
end Go.Proofs.YtmkkoccnnehkeaaDoor
