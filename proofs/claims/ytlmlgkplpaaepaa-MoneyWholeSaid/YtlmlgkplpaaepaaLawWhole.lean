/- tallymankeep.MoneyWhole: the walk. -/
import Derived.Test.YtlmlgkplpaaepaaCounted
namespace Go.Proofs.Ytlmlgkplpaaepaa
open Go.RowKit

theorem share_bd (x y S : Int) (hS : 1 ≤ S) : y / S ≤ (x + y) / S - x / S ∧ (x + y) / S - x / S ≤ y / S + 1 := by
  have a1 := Int.mul_ediv_add_emod x S
  have a2 := Int.emod_nonneg x (show S ≠ 0 by omega)
  have a3 := Int.emod_lt_of_pos x (show 0 < S by omega)
  have b1 := Int.mul_ediv_add_emod y S
  have b2 := Int.emod_nonneg y (show S ≠ 0 by omega)
  have b3 := Int.emod_lt_of_pos y (show 0 < S by omega)
  have e : x + y = (x % S + y % S) + (x / S + y / S) * S := by rw [Int.add_mul, Int.mul_comm (x / S), Int.mul_comm (y / S)]; omega
  rw [e, Int.add_mul_ediv_right _ _ (by omega)]
  have c1 : 0 ≤ (x % S + y % S) / S := Int.ediv_nonneg (by omega) (by omega)
  have c2 : (x % S + y % S) / S < 2 := Int.ediv_lt_of_lt_mul (by omega) (by omega)
  omega

theorem spr_facts (t : Int) (zs : List Int) (h : SpreadOk t zs) (k : Nat) (hk : k < zs.length) :
    0 ≤ spr t zs k ∧ t * zs.getD k 0 / zs.sum ≤ spr t zs k ∧ spr t zs k ≤ t * zs.getD k 0 / zs.sum + 1 ∧ (zs.getD k 0 = 0 → spr t zs k = 0) ∧ 0 ≤ t * upto zs k / zs.sum ∧ t * upto zs (k + 1) / zs.sum ≤ t ∧ 0 ≤ t * zs.getD k 0 / zs.sum ∧ t * zs.getD k 0 / zs.sum ≤ t ∧ zs.getD k 0 ≤ zs.sum := by
  obtain ⟨h1, h2, hz, h3, h4⟩ := h
  have u0 := upto_bd zs k (by omega) (fun j hj => hz j (by omega))
  have u1 := upto_succ zs k hk
  have u2 := upto_mono zs zs.length (Nat.le_refl _) (k + 1) (by omega) hz
  have z0 := hz k hk
  rw [upto_all] at u2
  have b := share_bd (t * upto zs k) (t * zs.getD k 0) zs.sum h3
  have c := part_le t (zs.getD k 0) zs.sum h1 h3 z0.1 (by omega)
  have d := part_le t (upto zs k) zs.sum h1 h3 u0.1 (by omega)
  have d2 := part_le t (upto zs (k + 1)) zs.sum h1 h3 (by omega) u2
  have e : spr t zs k = (t * upto zs k + t * zs.getD k 0) / zs.sum - t * upto zs k / zs.sum := by unfold spr; rw [u1, Int.mul_add]
  rw [e]
  refine ⟨by omega, b.1, b.2, ?_, d.1, d2.2, c.1, c.2, by omega⟩
  intro hz0
  rw [hz0]; simp

set_option maxHeartbeats 800000 in
set_option maxRecDepth 100000 in
theorem whole_walk (t : Int) (a : Option Addr) (c : Nat) (zs : List Int) (w : World) (_ : (Lit.int .i64 t).wf = true) (hr : Rd w a (zs.map (Value.int .i64))) (_ : ∀ n ∈ zs, (Lit.int .i64 n).wf = true) (hm : zs.length ≤ maxLen) :
    Calls Try.prog 3 #[.int .i64 t, .slice a zs.length c] w (Gives (.bool true) w) := by
  unfold maxLen at hm
  have HR := Lib.hid hr
  clear hr
  by_cases h40 : 40 < zs.length
  · go_enter Try.func3, Try.ntmps3
    go_wp2
    go_ret
    exact ⟨rfl, Below.refl _ _⟩
  · have hm40 : zs.length ≤ 40 := by omega
    clear hm
    go_enter Try.func3, Try.ntmps3
    go_wp2_with fail
    refine (counted_any _).mono ?_
    rintro e w1 ⟨rfl, hb1⟩
    go_wp2_with fail
    refine (pick_any t 1000000000001 _ (by omega) (by omega)).mono ?_
    rintro e w' ⟨T, hT0, hT1, rfl, rfl⟩
    go_wp2_with fail
    refine (spread_any T a c zs w1 (HR.out.below hb1) (by omega)).mono ?_
    rintro e w2 (⟨hok, v, rfl, ho, hb2⟩ | ⟨hno, rfl, rfl⟩)
    · obtain ⟨al, cap, rfl, hr2, hc1, hc2⟩ := rd_of_own ho
      have HOK := Lib.hid hok
      have HR2 := Lib.hid hr2
      have HW2 := Lib.hid (HR.out.below (hb1.step hb2))
      have hS : 1 ≤ zs.sum ∧ zs.sum ≤ 100000000 := ⟨hok.2.2.2.1, hok.2.2.2.2⟩
      obtain ⟨S, hS0⟩ : ∃ S, S = zs.sum := ⟨_, rfl⟩
      rw [← hS0] at hS
      have HS := Lib.hid hS0
      clear hok hr2 ho hc1 hc2 hS0
      go_wp2_with fail
      go_loop [8, 9] (fun all i => ∃ k : Nat, k ≤ zs.length ∧ i = .int .i64 k ∧ all = .int .i64 (upto zs k)) (fun _ i => zs.length - (intOf i).toNat)
      case atStart => exact ⟨0, by omega, rfl, by rw [upto_zero]⟩
      case round =>
        obtain ⟨k, hk, rfl, rfl⟩ := hrel
        have hu := upto_bd zs k hk (fun j hj => HOK.out.2.2.1 j (by omega))
        by_cases hlt : k < zs.length
        · obtain ⟨b, off, rfl, hc⟩ := HW2.out.ints k hlt
          obtain ⟨z, hz⟩ : ∃ z, z = zs.getD k 0 := ⟨_, rfl⟩
          have hz1 : 0 ≤ z ∧ z ≤ 100000 := by rw [hz]; exact HOK.out.2.2.1 k hlt
          rw [← hz] at hc
          have Hz := Lib.hid hz
          clear hz
          go_wp2
          go_round
          case rel => exact ⟨k + 1, by omega, by go_num, by rw [upto_succ zs k hlt, ← Hz.out]⟩
          case measure => simp [intOf]; omega
        · obtain rfl : k = zs.length := by omega
          rw [upto_all, ← HS.out]
          clear hu hlt hk
          go_wp2
          go_loopw [7, 10] (fun sum i wr => ∃ k q : Nat, k ≤ zs.length ∧ i = .int .i64 k ∧ sum = .int .i64 (T * upto zs k / S) ∧ wr = w2.drewN q) (fun _ i _ => zs.length - (intOf i).toNat)
          case atStart => exact ⟨0, 0, by omega, rfl, by rw [upto_zero]; simp, rfl⟩
          case round =>
            obtain ⟨k, q, hk, rfl, rfl, rfl⟩ := hrel
            by_cases hlt : k < zs.length
            · obtain ⟨b, off, rfl, hc⟩ := HW2.out.ints k hlt
              obtain ⟨b2, off2, rfl, hc2⟩ := HR2.out.ints k (by rw [sprs_len]; exact hlt)
              have hf := spr_facts T zs HOK.out k hlt
              have hz1 : 0 ≤ zs.getD k 0 ∧ zs.getD k 0 ≤ 100000 := HOK.out.2.2.1 k hlt
              have he : (sprs T zs zs.length).getD k 0 = spr T zs k := by simp [sprs, List.getD, hlt]
              have hd : T * upto zs (k + 1) / S = T * upto zs k / S + spr T zs k := by unfold spr; rw [HS.out]; omega
              have hE := part_wrap T (zs.getD k 0) S 100000000 hT0 (by omega) hS.1 hS.2 (by omega) hz1.1 (by rw [HS.out]; omega)
              rw [he] at hc2
              rw [← HS.out] at hf
              obtain ⟨z, hz⟩ : ∃ z, z = zs.getD k 0 := ⟨_, rfl⟩
              rw [← hz] at hc hf hz1 hE
              obtain ⟨e, he⟩ : ∃ e, e = spr T zs k := ⟨_, rfl⟩
              rw [← he] at hc2 hf hd
              obtain ⟨sh, hsh⟩ : ∃ sh, sh = T * z / S := ⟨_, rfl⟩
              rw [← hsh] at hf hE
              obtain ⟨d, hd0⟩ : ∃ d, d = T * upto zs k / S := ⟨_, rfl⟩
              rw [← hd0] at hf hd
              rw [hd] at hf
              rw [← hd0]
              obtain ⟨f1, f2, f3, f4, f5, f6, f7, f8, f9⟩ := hf
              have Hd := Lib.hid hd
              have HE := Lib.hid hE
              have Hf4 := Lib.hid f4
              have Hd0 := Lib.hid hd0
              have He := Lib.hid he
              clear hd hE f4 hd0 he hz hsh
              by_cases hz0 : z = 0
              · have e0 : e = 0 := Hf4.out hz0
                subst hz0
                subst e0
                clear HE
                go_wp2
                go_quiet (fail)
                go_wp2
                go_roundw
                case rel => exact ⟨k + 1, _, by omega, by go_num, by rw [Hd.out]; first | rfl | simp, rfl⟩
                case measure => simp [intOf]; omega
              · have hz0' : (z == 0) = false := by simpa using hz0
                go_wp2
                go_quiet (fail)
                have hE := HE.out
                go_wp2
                go_roundw
                case rel => exact ⟨k + 1, _, by omega, by go_num, by rw [Hd.out], rfl⟩
                case measure => simp [intOf]; omega
            · obtain rfl : k = zs.length := by omega
              have hfin : T * upto zs zs.length / S = T := by rw [upto_all, ← HS.out]; exact Int.mul_ediv_cancel _ (by omega)
              rw [hfin]
              clear hfin hlt hk
              go_wp2
              go_ret
              exact ⟨rfl, below_drewN (hb1.step hb2) q⟩
    · go_wp2_with fail
      go_ret
      exact ⟨rfl, hb1⟩
end Go.Proofs.Ytlmlgkplpaaepaa
