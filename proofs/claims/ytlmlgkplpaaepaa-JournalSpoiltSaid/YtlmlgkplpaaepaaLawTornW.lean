/- tallymankeep.JournalTorn: the walk. -/
import Derived.Test.YtlmlgkplpaaepaaLawTorn
import Derived.Test.YtlmlgkplpaaepaaBase2
namespace Go.Proofs.Ytlmlgkplpaaepaa
open Go.RowKit

theorem lsts_len (zs : List ByteArray) : (lsts zs).length = zs.length := by simp [lsts]
theorem lsts_get (zs : List ByteArray) (k : Nat) (h : k < zs.length) : ((lsts zs).getD k []).length = (zs.getD k ByteArray.empty).size := by
  simp [lsts, List.getD, h]
theorem small_fit (zs : List ByteArray) (h : fit zs) : Cr.small 0 (lsts zs) := by
  refine ⟨by rw [lsts_len]; have := h.1; omega, ?_⟩
  intro t ht
  simp only [lsts, List.mem_map] at ht
  obtain ⟨s, hs, rfl⟩ := ht
  simpa using h.2 s hs
theorem strs_size (w : World) : (sizeOf (Try.prog.elem 33)).run Try.prog w = .ok 1 w := by kernel_rfl

set_option maxHeartbeats 1000000 in
set_option maxRecDepth 100000 in
theorem torn_walk (a : Option Addr) (c : Nat) (zs : List ByteArray) (cut : Int) (w : World) (hr : Rd w a (zs.map Value.string)) (_ : ∀ s ∈ zs, s.size ≤ maxLen) (hm : zs.length ≤ maxLen) (hcap : zs.length ≤ c ∧ c ≤ maxLen) (_ : (Lit.int .i64 cut).wf = true) :
    Calls Try.prog 5 #[.slice a zs.length c, .int .i64 cut] w (Gives (.bool true) w) := by
  obtain ⟨hcap1, _⟩ := hcap
  have HR := Lib.hid hr
  by_cases hfit : fit zs
  · have hs := small_fit zs hfit
    have hall := Cr.reads_all (lsts zs) 0 hs
    have hlen := Cr.frs_len (lsts zs) 0
    have htorn := fun c hc => Cr.reads_torn (lsts zs) 0 c hs hc
    rw [lsts_len] at hall hlen htorn
    have hf20 := hfit.1
    have hmono := Cr.lens_mono (lsts zs) zs.length (by rw [lsts_len]; omega)
    have hlbd : Cr.lens (lsts zs) zs.length ≤ 216 * 20 := by
      rw [← hlen]
      have := frs_bd (lsts zs) hs.2 0
      rw [lsts_len] at this
      omega
    obtain ⟨S, hS⟩ : ∃ S, S = Cr.frs 0 (lsts zs) := ⟨_, rfl⟩
    obtain ⟨L, hL⟩ : ∃ L, L = Cr.lens (lsts zs) zs.length := ⟨_, rfl⟩
    have C0 := frames_any a c zs w hr hm
    have C1 := fun w => read_is ⟨S.toArray⟩ (lsts zs) L (w := w) (by show S.toArray.size ≤ _; simp [hS, hlen]; omega) (by simpa [hS, hL] using hall)
    rw [← hL] at hlen hlbd htorn hmono
    rw [← hS] at hlen htorn
    have HC0 := Lib.hid C0
    have HC1 := Lib.hid C1
    have HT := Lib.hid htorn
    have HMo := Lib.hid hmono
    have HF := Lib.hid hfit
    have HS := Lib.hid hS
    have HL := Lib.hid hL
    clear C0 C1 htorn hmono hfit hs hall hr hm hS hL
    have hSs : (⟨S.toArray⟩ : ByteArray).size = L := by show S.toArray.size = L; simp [hlen]
    have HSs := Lib.hid hSs
    clear hSs
    go_enter Try.func5, Try.ntmps5
    go_wp2_with fail
    refine HC0.out.mono ?_
    rintro e w1 ⟨hor, hb1⟩
    have he : e = .returned (.tuple #[.string ⟨S.toArray⟩, .bool true]) := by
      rcases hor with ⟨_, h⟩ | ⟨h, _⟩
      · rw [h, HS.out]
      · exact absurd HF.out h
    subst he
    clear hor
    go_wp2_with fail
    refine (framed_any _).mono ?_
    rintro e w2 ⟨rfl, hb2⟩
    go_wp2_with fail
    refine (HC1.out _).mono ?_
    rintro e w3 ⟨a3, c3, rfl, hr3, hb3⟩
    have HR3 := Lib.hid hr3
    clear hr3
    have hb123 := (hb1.step hb2).step hb3
    have llen := lsts_len zs
    have CE := equal_strs_yes a3 a c3 c (lsts zs).length zs.length zs w3 llen rfl (by omega) (by rw [← strv_lsts]; exact HR3.out) (HR.out.below hb123)
    rw [llen] at CE
    have HCE := Lib.hid CE
    clear CE
    go_wp2_with fail
    refine HCE.out.mono ?_
    rintro e w4 ⟨rfl, hw4⟩
    have hb4 : Below w.heap.size w w4 := by obtain ⟨q, rfl⟩ := hw4; exact below_drewN hb123 q
    clear hw4
    go_wp2_with fail
    refine (pick_any cut _ _ (by omega) (by omega)).mono ?_
    rintro e w' ⟨C, hC0, hC1, rfl, rfl⟩
    obtain ⟨cN, rfl⟩ := Int.eq_ofNat_of_zero_le hC0
    obtain ⟨k, hk, hrk, hlk, hkm⟩ := HT.out cN (by omega)
    have hsl := slice_to (P := Try.prog) 9 Try.underlying9 (⟨S.toArray⟩ : ByteArray) cN (cN : Int) rfl (by rw [HSs.out]; omega)
    have hex : ((⟨S.toArray⟩ : ByteArray).extract 0 cN).data.toList = S.take cN := by rw [Lib.extract_data]; simp
    have CR := read_is ((⟨S.toArray⟩ : ByteArray).extract 0 cN) ((lsts zs).take k) (Cr.lens (lsts zs) k) (w := w4) (by rw [ByteArray.size_extract, HSs.out]; omega) (by rw [hex]; exact hrk)
    obtain ⟨X, hX⟩ : ∃ X, X = (⟨S.toArray⟩ : ByteArray).extract 0 cN := ⟨_, rfl⟩
    obtain ⟨Lk, hLk⟩ : ∃ Lk, Lk = Cr.lens (lsts zs) k := ⟨_, rfl⟩
    rw [← hX] at hsl CR
    rw [← hLk] at CR hlk
    have tlen : ((lsts zs).take k).length = k := by rw [List.length_take, lsts_len]; omega
    have HCR := Lib.hid CR
    have HKM := Lib.hid hkm
    have HLK := Lib.hid hLk
    clear CR hkm hrk hex hX hLk
    go_wp2_with fail
    refine HCR.out.mono ?_
    rintro e w5 ⟨a5, c5, rfl, hr5, hb5⟩
    have hb45 := hb4.step hb5
    have CE := equal_strs_yes a5 a c5 c ((lsts zs).take k).length k (zs.take k) w5 (by rw [tlen, List.length_take]; omega) (by rw [List.length_take]; omega) (by rw [List.length_take]; omega)
      (by rw [List.map_take, ← strv_lsts, ← List.map_take]; exact hr5) (by rw [List.map_take]; exact (HR.out.below hb45).take k)
    have hsl2 := slice_sl_to (P := Try.prog) 33 Try.underlying33 1 strs_size a zs.length c k (k : Int) rfl (by omega)
    rw [tlen] at CE
    have HCE := Lib.hid CE
    clear CE hr5 HCR
    go_wp2_with fail
    refine HCE.out.mono ?_
    rintro e w6 ⟨rfl, hw6⟩
    have hb6 : Below w.heap.size w w6 := by obtain ⟨q, rfl⟩ := hw6; exact below_drewN hb45 q
    have HW6 := Lib.hid (HR.out.below hb6)
    clear hw6 hsl hsl2
    go_wp2_with fail
    go_loop [9, 10] (fun wh i => ∃ j : Nat, j ≤ zs.length ∧ i = .int .i64 j ∧ wh = .int .i64 (Cr.lens (lsts zs) j : Nat) ∧ Cr.lens (lsts zs) j ≤ cN) (fun _ i => zs.length - (intOf i).toNat)
    case atStart => exact ⟨0, by omega, rfl, rfl, by rw [Cr.lens_zero]; omega⟩
    case round =>
      obtain ⟨j, hj, rfl, rfl, hjc⟩ := hrel
      by_cases hlt : j < zs.length
      · obtain ⟨b, off, rfl, hc⟩ := HW6.out.strs j hlt
        have hsucc := Cr.lens_succ (lsts zs) j (by rw [lsts_len]; exact hlt)
        rw [lsts_get zs j hlt] at hsucc
        obtain ⟨t, ht⟩ : ∃ t, t = zs.getD j ByteArray.empty := ⟨_, rfl⟩
        rw [← ht] at hsucc hc
        have ht2 : t.size ≤ 200 := HF.out.2 t (by rw [ht]; simp [List.getD, hlt])
        obtain ⟨l0, hl0⟩ : ∃ l0, l0 = Cr.lens (lsts zs) j := ⟨_, rfl⟩
        rw [← hl0] at hsucc hjc ⊢
        have HSU := Lib.hid hsucc
        have HL0 := Lib.hid hl0
        clear hsucc ht hl0
        by_cases hfits : (l0 : Int) + 16 + t.size ≤ cN
        · go_wp2_with fail
          go_round
          case rel => exact ⟨j + 1, by omega, by go_num, by rw [HSU.out]; go_num, by rw [HSU.out]; omega⟩
          case measure => simp [intOf]; omega
        · have hjk : j = k := by
            have h1 := HSU.out
            have h2 := HLK.out
            have h3 := HL0.out
            rcases Nat.lt_trichotomy j k with h | h | h
            · have := (Cr.lens_mono (lsts zs) k (by rw [lsts_len]; omega) (j + 1) (by omega)).1
              omega
            · exact h
            · rcases HKM.out with h4 | h4
              · omega
              · have := (Cr.lens_mono (lsts zs) j (by rw [lsts_len]; omega) (k + 1) (by omega)).1
                omega
          have hLe : ((Lk : Int) == (l0 : Int)) = true := by rw [beq_iff_eq, HLK.out, HL0.out, hjk]
          clear hjk
          go_wp2_with fail
          go_ret
          exact ⟨rfl, hb6⟩
      · have hjk : j = k := by
          rcases HKM.out with h4 | h4
          · omega
          · apply Classical.byContradiction
            intro hne
            have := (Cr.lens_mono (lsts zs) j (by rw [lsts_len]; omega) (k + 1) (by omega)).1
            omega
        have hLe : ((Lk : Int) == (Cr.lens (lsts zs) j : Nat)) = true := by rw [beq_iff_eq, HLK.out, hjk]
        clear hjk
        obtain ⟨l0, hl0⟩ : ∃ l0, l0 = Cr.lens (lsts zs) j := ⟨_, rfl⟩
        rw [← hl0] at hLe ⊢
        clear hl0 hjc
        go_wp2_with fail
        go_ret
        exact ⟨rfl, hb6⟩
  · have C0 := frames_any a c zs w hr hm
    have HC0 := Lib.hid C0
    have HF := Lib.hid hfit
    clear C0 hr hm hfit hcap1
    go_enter Try.func5, Try.ntmps5
    go_wp2_with fail
    refine HC0.out.mono ?_
    rintro e w1 ⟨hor, hb1⟩
    have he : e = .returned (.tuple #[.string ⟨#[]⟩, .bool false]) := by
      rcases hor with ⟨h, _⟩ | ⟨_, h⟩
      · exact absurd h HF.out
      · exact h
    subst he
    clear hor
    go_wp2_with fail
    refine (framed_any _).mono ?_
    rintro e w2 ⟨rfl, hb2⟩
    go_wp2_with fail
    go_ret
    exact ⟨rfl, hb1.step hb2⟩
end Go.Proofs.Ytlmlgkplpaaepaa
