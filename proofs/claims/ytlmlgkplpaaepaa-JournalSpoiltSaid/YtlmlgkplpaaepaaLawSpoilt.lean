/- tallymankeep.JournalSpoilt: the walk. -/
import Derived.Test.YtlmlgkplpaaepaaLawTornW
import Derived.Lib.ConvBytes
import Derived.Lib.SmallJoins
import Derived.Deep.RegionWith
namespace Go.Proofs.Ytlmlgkplpaaepaa
open Go.RowKit

theorem pick_is (a n : Int) (r : Int) (hr : r = IntKind.u64.wrap a % n) (h1 : 1 ≤ n) (h2 : n ≤ 1000000000) (w : World) :
    Calls Try.prog 10 #[.int .i64 a, .int .i64 n] w fun e w' => e = .returned (.int .i64 r) ∧ w' = w := by
  have hn : IntKind.u64.wrap n = n := IntWalk.u64_in _ ⟨by omega, by omega⟩
  have hp := pick_math a n h1
  have hu := u64_nonneg a
  have HR := Lib.hid hr
  clear hr
  go_enter Try.func10, Try.ntmps10
  go_wp2
  go_ret
  refine ⟨?_, rfl⟩
  rw [HR.out]
  first | rfl | (congr 2; exact IntWalk.i64_in _ ⟨by omega, by omega⟩)

/-- a text's bytes as numbers. -/
def nums (S : List UInt8) : List Int := S.map fun b => (b.toNat : Int)
theorem nums_back (S : List UInt8) (i : Nat) (x : UInt8) : ((nums S).set i (x.toNat : Int)).map (fun z => UInt8.ofNat z.toNat) = S.set i x := by
  unfold nums
  rw [List.map_set, List.map_map]
  simp only [Function.comp_def, Int.toNat_natCast, UInt8.ofNat_toNat, List.map_id']
theorem nums_len (S : List UInt8) : (nums S).length = S.length := by simp [nums]
theorem holds_bytes (w : World) (e : TypeId) (s : ByteArray) : Go.Sort.Holds (Value.int .u8) (Lib.bytesWorld w e s) w.heap.size 0 (nums s.data.toList).toArray := by
  intro j hj
  have hj' : j < s.size := by simpa [nums] using hj
  rw [Nat.zero_add]
  refine ⟨?_, ?_⟩
  · rw [Lib.bytesWorld_cell w e s j hj']
    simp [nums, List.getD, hj']
  · simp only [World.frozen?, Lib.bytesWorld_at_new]
    have : s.size ≤ (Lib.bytesCells w e s).size := by simp [Lib.bytesCells]
    simp
    omega
theorem holds_set {w : World} {g i : Nat} {L : List Int} {k : IntKind} (h : Go.Sort.Holds (Value.int k) w g 0 L.toArray) (x : Int) (hi : i < L.length) : Go.Sort.Holds (Value.int k) (w.setCell ⟨g, i, none⟩ (.int k x)) g 0 (L.set i x).toArray := by
  have h1 := Go.Sort.putRow_set (Value.int k) w g 0 L.toArray i x (by simpa using hi)
  rw [Go.Sort.putRow_self _ _ _ _ _ h, Nat.zero_add] at h1
  rw [h1]
  have h2 := Go.Sort.holds_putRow (Value.int k) w g 0 L.toArray (L.toArray.setIfInBounds i x) h (by simp)
  simpa using h2
theorem xor_other (b : UInt8) (d : Nat) (h1 : 1 ≤ d) (h2 : d < 256) : ∃ x : UInt8, x ≠ b ∧ bits .xor .u8 (b.toNat : Int) (d : Int) = (x.toNat : Int) := by
  have hx := Cr.byte_xor_lt b.toNat d (UInt8.toNat_lt b) h2
  refine ⟨UInt8.ofNat (b.toNat ^^^ d), ?_, ?_⟩
  · intro h
    have h3 := congrArg UInt8.toNat h
    rw [UInt8.toNat_ofNat', Nat.mod_eq_of_lt hx] at h3
    have h4 : d = 0 := Cr.xor_cancel_left (c := b.toNat) (by rw [h3]; simp)
    omega
  · rw [u8_xor_nat b.toNat d (UInt8.toNat_lt b) h2, UInt8.toNat_ofNat', Nat.mod_eq_of_lt hx]

set_option maxHeartbeats 1000000 in
set_option maxRecDepth 100000 in
theorem spoilt_walk (a : Option Addr) (c : Nat) (zs : List ByteArray) (at_ by_ : Int) (w : World) (hr : Rd w a (zs.map Value.string)) (_ : ∀ s ∈ zs, s.size ≤ maxLen) (hm : zs.length ≤ maxLen) (hcap : zs.length ≤ c ∧ c ≤ maxLen) (_ : (Lit.int .i64 at_).wf = true) (_ : (Lit.int .i64 by_).wf = true) :
    Calls Try.prog 6 #[.slice a zs.length c, .int .i64 at_, .int .i64 by_] w (Gives (.bool true) w) := by
  obtain ⟨hcap1, _⟩ := hcap
  have HR := Lib.hid hr
  by_cases hfit : fit zs
  · by_cases hzero : zs = []
    · subst hzero
      have C0 := frames_any a c [] w hr hm
      have HC0 := Lib.hid C0
      have HF := Lib.hid hfit
      clear C0 hr hm hfit hcap1
      go_enter Try.func6, Try.ntmps6
      go_wp2_with fail
      refine HC0.out.mono ?_
      rintro e w1 ⟨hor, hb1⟩
      have he : e = .returned (.tuple #[.string ⟨#[]⟩, .bool true]) := by
        rcases hor with ⟨_, h⟩ | ⟨h, _⟩
        · exact h
        · exact absurd HF.out h
      subst he
      clear hor
      go_wp2_with fail
      refine (framed_any _).mono ?_
      rintro e w2 ⟨rfl, hb2⟩
      go_wp2_with fail
      go_ret
      exact ⟨rfl, hb1.step hb2⟩
    · have hs := small_fit zs hfit
      have hlen := Cr.frs_len (lsts zs) 0
      rw [lsts_len] at hlen
      have hf20 := hfit.1
      have hlbd : Cr.lens (lsts zs) zs.length ≤ 216 * 20 := by
        rw [← hlen]
        have := frs_bd (lsts zs) hs.2 0
        rw [lsts_len] at this
        omega
      have hpos : 0 < Cr.lens (lsts zs) zs.length := by
        have hz : 0 < zs.length := List.length_pos_iff.2 hzero
        have := (Cr.lens_mono (lsts zs) zs.length (by rw [lsts_len]; omega) 0 (by omega)).2 hz
        omega
      obtain ⟨S, hS⟩ : ∃ S, S = Cr.frs 0 (lsts zs) := ⟨_, rfl⟩
      obtain ⟨L, hL⟩ : ∃ L, L = Cr.lens (lsts zs) zs.length := ⟨_, rfl⟩
      have C0 := frames_any a c zs w hr hm
      rw [← hL] at hlen hlbd hpos
      rw [← hS] at hlen
      have HC0 := Lib.hid C0
      have HF := Lib.hid hfit
      have HS := Lib.hid hS
      have HL := Lib.hid hL
      have HSM := Lib.hid hs
      clear C0 hfit hs hr hm hS hL hzero
      have hSs : (⟨S.toArray⟩ : ByteArray).size = L := by show S.toArray.size = L; simp [hlen]
      have HSs := Lib.hid hSs
      have hcv := fun w => Lib.run_convert_string_bytes (P := Try.prog) w 9 40 5 ⟨S.toArray⟩ Try.underlying9 Try.underlying40 Try.underlying5
      rw [hSs] at hcv
      clear hSs
      obtain ⟨P0, hP0⟩ : ∃ P0, P0 = IntKind.u64.wrap by_ % 255 := ⟨_, rfl⟩
      have hPb := pick_math by_ 255 (by omega)
      rw [← hP0] at hPb
      obtain ⟨hPa, hPc⟩ := hPb
      have CP := pick_is by_ 255 P0 hP0 (by omega) (by omega)
      have HCP := Lib.hid CP
      clear CP hP0
      have hL0 : ((L : Int) == 0) = false := by rw [beq_eq_false_iff_ne]; omega
      go_enter Try.func6, Try.ntmps6
      go_wp2_with fail
      refine HC0.out.mono ?_
      rintro e w1 ⟨hor, hb1⟩
      have he : e = .returned (.tuple #[.string ⟨S.toArray⟩, .bool true]) := by
        rcases hor with ⟨_, h⟩ | ⟨h, _⟩
        · rw [h, HS.out]
        · exact absurd HF.out h
      subst he
      clear hor
      go_wp2_with fail
      refine (framed_any _).mono ?_
      rintro e w2 ⟨rfl, hb2⟩
      go_wp2_with fail
      refine (pick_any at_ _ _ (by omega) (by omega)).mono ?_
      rintro e w' ⟨T, hT0, hT1, rfl, rfl⟩
      obtain ⟨i, rfl⟩ := Int.eq_ofNat_of_zero_le hT0
      have hd : ∃ x : UInt8, x ≠ S.getD i 0 ∧ bits .xor .u8 ((S.getD i 0).toNat : Int) (1 + P0) = (x.toNat : Int) := by
        obtain ⟨x, hx1, hx2⟩ := xor_other (S.getD i 0) (1 + P0).toNat (by omega) (by omega)
        rw [show ((1 + P0).toNat : Int) = 1 + P0 from by omega] at hx2
        exact ⟨x, hx1, hx2⟩
      obtain ⟨x, hx1, hxor⟩ := hd
      have hH := holds_bytes w2 5 ⟨S.toArray⟩
      have hb3 := Go.Joins.below_bytesWorld w2.heap.size w2 5 ⟨S.toArray⟩ (Nat.le_refl _)
      have hiL : i < (nums S).length := by rw [nums_len, hlen]; omega
      obtain ⟨hc0, hf0⟩ := hH i (by simpa using hiL)
      have hcell : (nums S).toArray[i]! = ((S.getD i 0).toNat : Int) := by
        have : i < S.length := by omega
        simp [nums, List.getD, this]
      rw [hcell, Nat.zero_add] at hc0
      rw [Nat.zero_add] at hf0
      obtain ⟨b0, hb0⟩ : ∃ b0, b0 = (S.getD i 0).toNat := ⟨_, rfl⟩
      rw [← hb0] at hc0 hxor
      obtain ⟨xn, hxn⟩ : ∃ xn, xn = x.toNat := ⟨_, rfl⟩
      have hxlt := UInt8.toNat_lt x
      rw [← hxn] at hxor hxlt
      have HX1 := Lib.hid hx1
      have HXN := Lib.hid hxn
      obtain ⟨w3, hw3⟩ : ∃ w3, w3 = Lib.bytesWorld w2 5 ⟨S.toArray⟩ := ⟨_, rfl⟩
      simp only [← hw3] at hH hb3 hc0 hf0 hcv
      have hcv2 := hcv w2
      rw [← hw3] at hcv2
      obtain ⟨cp, hcp⟩ : ∃ cp, cp = grownCap w2 L 0 5 := ⟨_, rfl⟩
      rw [← hcp] at hcv2
      have HH := Lib.hid hH
      have HIL := Lib.hid hiL
      have hwfi : IntKind.i64.wrap (1 + P0) = 1 + P0 := IntWalk.i64_in _ ⟨by omega, by omega⟩
      have hwfu : IntKind.u8.wrap (1 + P0) = 1 + P0 := IntWalk.u8_in _ ⟨by omega, by omega⟩
      clear hcv hw3 hx1 hxn hb0 hcell hH hiL hcp
      go_wp2_with fail
      go_region_with (go_at_call 10; refine (HCP.out _).mono ?_; rintro e w' ⟨rfl, rfl⟩)
      all_goals
        generalize hw4 : World.drew _ = w4
        have hW4 : w4 = (w3.setCell ⟨w2.heap.size, i, none⟩ (.int .u8 (xn : Int))).drew := hw4.symm
        have hH4 : Go.Sort.Holds (Value.int .u8) w4 w2.heap.size 0 ((nums S).set i (xn : Int)).toArray := by rw [hW4]; exact holds_set HH.out (xn : Int) HIL.out
        have hb24 : Below w2.heap.size w2 w4 := by rw [hW4]; exact (hb3.setCell (Nat.le_refl _) _).drew
        have hb4 : Below w.heap.size w w4 := (hb1.step hb2).step hb24
        have hcv4 := conv_holds (P := Try.prog) (n := L) (cap := cp) 40 9 5 Try.underlying40 Try.underlying5 Try.underlying9 hH4 (by simp [nums_len, hlen])
        rw [HXN.out, nums_back] at hcv4
        obtain ⟨S', hS'⟩ : ∃ S', S' = S.set i x := ⟨_, rfl⟩
        have hl' : S'.length = L := by rw [hS']; simp [hlen]
        obtain ⟨k, m, hk, hrk, hlk, hkm⟩ := Cr.reads_spoilt (lsts zs) 0 i x HSM.out (by rw [lsts_len, ← HL.out]; omega) (by rw [← HS.out]; exact HX1.out)
        rw [← HS.out, ← hS'] at hrk
        rw [lsts_len] at hk
        rw [← hS'] at hcv4
        have tlen : ((lsts zs).take k).length = k := by rw [List.length_take, lsts_len]; omega
        have CR := read_is ⟨S'.toArray⟩ ((lsts zs).take k) m (w := w4) (by show S'.toArray.size ≤ _; simp [hl']; omega) (by simpa using hrk)
        have HCR := Lib.hid CR
        have HKM := Lib.hid hkm
        have HLK := Lib.hid hlk
        clear CR hkm hlk hrk hw4 hW4 hH4 hS'
        go_wp2_with fail
        refine HCR.out.mono ?_
        rintro e w5 ⟨a5, c5, rfl, hr5, hb5⟩
        have hb45 := hb4.step hb5
        have CE := equal_strs_yes a5 a c5 c ((lsts zs).take k).length k (zs.take k) w5 (by rw [tlen, List.length_take]; omega) (by rw [List.length_take]; omega) (by rw [List.length_take]; omega)
          (by rw [List.map_take, ← strv_lsts, ← List.map_take]; exact hr5) (by rw [List.map_take]; exact (HR.out.below hb45).take k)
        rw [tlen] at CE
        have HCE := Lib.hid CE
        have HW5 := Lib.hid (HR.out.below hb45)
        clear CE hr5 HCR
        go_wp2_with fail
        go_loop [12, 13] (fun wh ii => ∃ j : Nat, j ≤ zs.length ∧ ii = .int .i64 j ∧ wh = .int .i64 (Cr.lens (lsts zs) j : Nat) ∧ Cr.lens (lsts zs) j ≤ i) (fun _ ii => zs.length - (intOf ii).toNat)
        case atStart => exact ⟨0, by omega, rfl, rfl, by rw [Cr.lens_zero]; omega⟩
        case round =>
          obtain ⟨j, hj, rfl, rfl, hjc⟩ := hrel
          have HJC := Lib.hid hjc
          have hjk : (j = zs.length ∨ i < Cr.lens (lsts zs) (j + 1)) → j = k := by
            intro hor
            have hjc := HJC.out
            have h1 := HKM.out
            have h2 := HLK.out
            rcases Nat.lt_trichotomy j k with h | h | h
            · rcases hor with h4 | h4
              · omega
              · have := (Cr.lens_mono (lsts zs) k (by rw [lsts_len]; omega) (j + 1) (by omega)).1
                omega
            · exact h
            · have := (Cr.lens_mono (lsts zs) j (by rw [lsts_len]; omega) (k + 1) (by omega)).1
              omega
          have HJK := Lib.hid hjk
          clear hjk hjc
          by_cases hlt : j < zs.length
          · obtain ⟨b, off, rfl, hc⟩ := HW5.out.strs j hlt
            have hsucc := Cr.lens_succ (lsts zs) j (by rw [lsts_len]; exact hlt)
            rw [lsts_get zs j hlt] at hsucc
            obtain ⟨t, ht⟩ : ∃ t, t = zs.getD j ByteArray.empty := ⟨_, rfl⟩
            rw [← ht] at hsucc hc
            have ht2 : t.size ≤ 200 := HF.out.2 t (by rw [ht]; simp [List.getD, hlt])
            obtain ⟨l0, hl0⟩ : ∃ l0, l0 = Cr.lens (lsts zs) j := ⟨_, rfl⟩
            have hjc : l0 ≤ i := by rw [hl0]; exact HJC.out
            rw [← hl0] at hsucc ⊢
            have HSU := Lib.hid hsucc
            clear hsucc ht hl0
            by_cases hfits : (l0 : Int) + 16 + t.size ≤ i
            · go_wp2_with fail
              go_round
              case rel => exact ⟨j + 1, by omega, by go_num, by rw [HSU.out]; go_num, by rw [HSU.out]; omega⟩
              case measure => simp [intOf]; omega
            · have hje : j = k := HJK.out (Or.inr (by rw [HSU.out]; omega))
              subst hje
              have hsl2 := slice_sl_to (P := Try.prog) 33 Try.underlying33 1 strs_size (some ⟨b, off, none⟩) zs.length c j (j : Int) rfl (by omega)
              go_wp2_with fail
              refine HCE.out.mono ?_
              rintro e w6 ⟨rfl, hw6⟩
              have hb6 : Below w.heap.size w w6 := by obtain ⟨q, rfl⟩ := hw6; exact below_drewN hb45 q
              clear hw6
              go_wp2_with fail
              go_ret
              exact ⟨rfl, hb6⟩
          · have hje : j = k := HJK.out (Or.inl (by omega))
            exact absurd hje (by omega)
  · have C0 := frames_any a c zs w hr hm
    have HC0 := Lib.hid C0
    have HF := Lib.hid hfit
    clear C0 hr hm hfit hcap1
    go_enter Try.func6, Try.ntmps6
    go_wp2_with fail
    refine HC0.out.mono ?_
    rintro e w1 ⟨hor, hb1⟩
    have he : e = .returned (.tuple #[.string ⟨#[]⟩, .bool false]) := by
      rcases hor with ⟨h, _⟩ | ⟨_, h⟩
      · exact absurd h HF.out
      · exact h
    subst he
    clear hor
    go_wp2_with fail
    refine (framed_any _).mono ?_
    rintro e w2 ⟨rfl, hb2⟩
    go_wp2_with fail
    go_ret
    exact ⟨rfl, hb1.step hb2⟩
end Go.Proofs.Ytlmlgkplpaaepaa
