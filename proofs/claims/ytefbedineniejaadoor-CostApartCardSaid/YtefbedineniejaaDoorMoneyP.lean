/- money.Print: what it hands back. -/
import Derived.Test.YtefbedineniejaaDoorRows
import Derived.Test.YtefbedineniejaaDoorMoneyM
import Derived.Test.YtefbedineniejaaDoorBase
import Derived.WalkKit
import Derived.WalkSpells
import Derived.WalkLawsBesides
import Derived.Deep.QuietTactic
import Derived.BigQuiet
import Derived.BigRegion
import Derived.Deep.LoopGhost
import Derived.Handy
import Derived.Sort.WalkC
import Derived.Lib.RowBridge
import Derived.Lib.SlicesMore
import Derived.Lib.Hide
namespace Go.Proofs.YtefbedineniejaaDoor
open Go.RowKit

theorem ret_str {s : ByteArray} {l : List UInt8} (h : s.data.toList = l) : Ending.returned (.string s) = .returned (.string ⟨l.toArray⟩) := by subst h; rfl
theorem info_u8 : (Tryd.prog.info? 5).map (fun i => (i.zero, i.size, i.bytes)) = some (some (.int .u8 0), 1, 1) := by kernel_rfl

set_option maxHeartbeats 400000 in
set_option maxRecDepth 100000 in
theorem print_neg (n : Int) (w : World) (hn : n < 0) (h0 : -9223372036854775808 ≤ n) (h1 : n ≤ 9223372036854775807) :
    Calls Tryd.prog 43 #[.int .i64 n] w fun e w' => e = .returned (.string ⟨(Mn.prt n).toArray⟩) ∧ Below w.heap.size w w' := by
  obtain ⟨i0, hi, hiz, his, hib⟩ := info_parts info_u8
  obtain ⟨U, hU⟩ : ∃ U, U = n.natAbs := ⟨_, rfl⟩
  have HU := Lib.hid hU
  have hU64 : U < 10 ^ 19 := by omega
  clear hU
  have HU64 := Lib.hid hU64
  clear hU64
  have H0 := Lib.hid h0
  have H1 := Lib.hid h1
  clear h0 h1
  go_enter Tryd.func43, Tryd.ntmps43
  go_wp2
  go_loopw [5, 3, 6] (fun v u i wr => ∃ k : Nat, k ≤ 20 ∧ i = .int .i64 k ∧ u = .int .u64 ((U / 10 ^ k : Nat) : Int) ∧ wr.ownsRow w.heap.size 5 1 v (Mn.rd U k).length ((Mn.rd U k).map (Value.int .u8)) ∧ Below w.heap.size w wr ∧ (k ≤ 3 ∨ 0 < U / 10 ^ (k - 1)))
    (fun _ _ i _ => 30 - (intOf i).toNat)
  case atStart =>
    refine ⟨0, by omega, rfl, ?_, World.ownsRow_nil _ _ _ _, Below.refl _ _, by omega⟩
    rw [Mn.wrap_u64_neg n hn H0.out, ← HU.out]; simp
  case round =>
    obtain ⟨k, hk, rfl, hu, hown, hb, hlast⟩ := hrel
    obtain ⟨q, hq⟩ : ∃ q, q = U / 10 ^ k := ⟨_, rfl⟩
    rw [← hq] at hu
    subst hu
    have hq1 : q / 10 = U / 10 ^ (k + 1) := by rw [hq, Nat.div_div_eq_div_mul, ← Nat.pow_succ]
    have Hq := Lib.hid hq
    have Hq1 := Lib.hid hq1
    clear hq hq1
    have hlen := Mn.rd_le U k
    have Hlast := Lib.hid hlast
    clear hlast
    by_cases c3 : k < 3
    · by_cases c2 : k = 2
      · subst c2
        go_wp2_with (first
          | (at_builtin; refine app_one rfl (.tmp 24) (.tmp 25) 84 rfl w.heap.size 5 i0 (.int .u8 0) 1 1 Tryd.underlying84 hi hiz his hib rfl (by decide) _ _ _ hown rfl [.int .u8 46] rfl rfl (one_int _ _) (by unfold maxLen; omega) (by omega) (by have := hb.size; omega) ?_; intro v1 w1 hown1 hg1)
          | (at_builtin; refine app_one rfl (.tmp 27) (.tmp 32) 84 rfl w.heap.size 5 i0 (.int .u8 0) 1 1 Tryd.underlying84 hi hiz his hib rfl (by decide) _ _ _ hown1 rfl [.int .u8 (48 + (q : Int) % 10)] rfl rfl (one_int _ _) (by unfold maxLen; omega) (by omega) (by have := hb.size; have := hg1.size; omega) ?_; intro v2 w2 hown2 hg2))
        go_roundw
        case rel => exact ⟨3, by omega, rfl, Mn.u64_div U 2 q HU64.out Hq.out Hq1.out, Mn.rd_own2 U q Hq.out hown2, (hb.owngrown hown hg1).owngrown hown1 hg2, by omega⟩
        case measure => simp [intOf]
      · go_wp2_with (first
          | (at_builtin; refine app_one rfl (.tmp 27) (.tmp 32) 84 rfl w.heap.size 5 i0 (.int .u8 0) 1 1 Tryd.underlying84 hi hiz his hib rfl (by decide) _ _ _ hown rfl [.int .u8 (48 + (q : Int) % 10)] rfl rfl (one_int _ _) (by unfold maxLen; omega) (by omega) (by have := hb.size; omega) ?_; intro v2 w2 hown2 hg2))
        go_roundw
        case rel => exact ⟨k + 1, by omega, by go_num, Mn.u64_div U k q HU64.out Hq.out Hq1.out, Mn.rd_own U k q Hq.out c2 hown2, hb.owngrown hown hg2, by omega⟩
        case measure => simp [intOf]; omega
    · by_cases c0 : 0 < q
      · have c2 : k ≠ 2 := by omega
        have ck : k < 20 := by
          have h1 := Hq.out
          have h2 := HU64.out
          apply Classical.byContradiction
          intro h3
          obtain rfl : k = 20 := by omega
          rw [Nat.div_eq_of_lt (by omega)] at h1
          omega
        go_wp2_with (first
          | (at_builtin; refine app_one rfl (.tmp 27) (.tmp 32) 84 rfl w.heap.size 5 i0 (.int .u8 0) 1 1 Tryd.underlying84 hi hiz his hib rfl (by decide) _ _ _ hown rfl [.int .u8 (48 + (q : Int) % 10)] rfl rfl (one_int _ _) (by unfold maxLen; omega) (by omega) (by have := hb.size; omega) ?_; intro v2 w2 hown2 hg2))
        go_roundw
        case rel => exact ⟨k + 1, by omega, by go_num, Mn.u64_div U k q HU64.out Hq.out Hq1.out, Mn.rd_own U k q Hq.out c2 hown2, hb.owngrown hown hg2, Or.inr (by rw [Nat.add_sub_cancel, ← Hq.out]; exact c0)⟩
        case measure => simp [intOf]; omega
      · have hend := Mn.rd_end U k (by omega) (by have := Hq.out; omega) (by have := Hlast.out; omega)
        have hrl := Mn.rd_len U k
        obtain ⟨_, hown⟩ := hown
        rcases hown with ⟨_, hn0⟩ | ⟨g, cap, cur, rfl, hgB, hcell, hnc, hcm, hcs, hct⟩
        · exact absurd hn0 (by rw [hrl]; omega)
        · obtain ⟨wo, hwo⟩ : ∃ wo : World, wo = wr := ⟨_, rfl⟩
          subst hwo
          rw [Nat.mul_one] at hct
          have hH := holds_of_row hcell hct
          obtain ⟨d, hd⟩ : ∃ d, d = (Mn.rd U k).toArray := ⟨_, rfl⟩
          have hds : d.size = k + 1 := by rw [hd, List.size_toArray, hrl, if_pos (by omega)]
          rw [← hd] at hH
          have hW0 := Go.Sort.putRow_self _ _ _ _ _ hH
          have HW0 := Lib.hid hW0
          have Hd := Lib.hid hd
          have Hend := Lib.hid hend
          have Hds := Lib.hid hds
          have HH := Lib.hid hH
          have hHf : ∀ dk : Array Int, dk.size = k + 1 → Go.Sort.Holds (Value.int .u8) (Go.Sort.putRow (Value.int .u8) wo g 0 dk) g 0 dk := fun dk h => Go.Sort.holds_putRow _ _ _ _ _ _ HH.out (by rw [h, Hds.out])
          have HHf := Lib.hid hHf
          rw [if_pos (by omega)] at hrl
          clear hW0 hd hend hds hH hcell hct hHf
          go_wp2
          go_loopw [39] (fun i wr => ∃ (j nq : Nat) (dk : Array Int), j ≤ (k + 1) / 2 ∧ i = .int .i64 j ∧ dk.size = k + 1 ∧ wr = (Go.Sort.putRow (Value.int .u8) wo g 0 dk).drewN nq ∧ Hid (Go.Sort.reverseLoop j (k - j) dk = d.reverse)) (fun i _ => k + 1 - (intOf i).toNat)
          case atStart => exact ⟨0, 0, d, by omega, rfl, Hds.out, by rw [World.drewN_zero, HW0.out], by show _ = _; rw [← Lib.reverseLoop_reverse, Hds.out]; rfl⟩
          case round =>
            obtain ⟨j, nq, dk, hj, rfl, hdk, hwr, HE⟩ := hrel
            by_cases hlt : j < (k + 1) / 2
            · obtain ⟨xi, hxi⟩ : ∃ x, dk[j]! = x := ⟨_, rfl⟩
              obtain ⟨xj, hxj⟩ : ∃ x, dk[k - j]! = x := ⟨_, rfl⟩
              have hc := HHf.out dk hdk
              have c1 : wr.cell? ⟨g, j, none⟩ = some (.int .u8 xi) := by rw [hwr, ← hxi]; simpa using (hc j (by omega)).1
              have c2 : wr.cell? ⟨g, k - j, none⟩ = some (.int .u8 xj) := by rw [hwr, ← hxj]; simpa using (hc (k - j) (by omega)).1
              have f1 : wr.frozen? ⟨g, j, none⟩ = false := by rw [hwr]; simpa using (hc j (by omega)).2
              have f2 : wr.frozen? ⟨g, k - j, none⟩ = false := by rw [hwr]; simpa using (hc (k - j) (by omega)).2
              have Hwr := Lib.hid hwr
              have Hxi := Lib.hid hxi
              have Hxj := Lib.hid hxj
              have Hdk := Lib.hid hdk
              clear hwr hxi hxj hdk hc
              go_wp2
              go_region
              go_wp2
              go_roundw
              case rel =>
                refine ⟨j + 1, nq + 1, Go.Sort.swp dk j (k - j), by omega, by go_num, by simp [Go.Sort.swp, Hdk.out], ?_, ?_⟩
                · rw [Hwr.out, ← Hxi.out, ← Hxj.out]
                  have := swap_worldC (Value.int .u8) wo g 0 dk nq j (k - j) (by have := Hdk.out; omega) (by have := Hdk.out; omega)
                  simpa using this
                · show _ = _
                  rw [← HE.out]
                  conv => rhs; rw [Go.Sort.reverseLoop, if_pos (by omega)]
                  rw [show k - (j + 1) = k - j - 1 from by omega]
              case measure => simp [intOf]; omega
            · have hH := HHf.out dk hdk
              have hdk2 : dk = ((Mn.rd U k).reverse).toArray := by
                have h1 := HE.out
                rw [Go.Sort.reverseLoop, if_neg (by omega)] at h1
                rw [h1, Hd.out]; simp
              subst hdk2
              have hcv := conv_holds (P := Tryd.prog) (w := wr) (n := k + 1) (cap := cap) 84 9 5 Tryd.underlying84 Tryd.underlying5 Tryd.underlying9 (by rw [hwr]; exact hH) (by rw [List.length_reverse, hrl])
              have hbw : Below w.heap.size w wr := by
                rw [hwr]
                refine below_drewN (hb.trans ?_) _
                exact ⟨rfl, rfl, rfl, by simp, fun b hlt => by
                  show (wo.heap.modify g _)[b]? = _
                  rw [Array.getElem?_modify, if_neg (by omega)]⟩
              have hfin := Hend.out
              obtain ⟨R, hR⟩ : ∃ R : List UInt8, R = (Mn.rd U k).reverse.map (fun x => UInt8.ofNat x.toNat) := ⟨_, rfl⟩
              have hRl : R.length ≤ 25 := by rw [hR]; simp [hrl]; omega
              rw [← hR] at hcv hfin
              have Hfin := Lib.hid hfin
              clear hfin hR hwr hH
              go_wp2
              go_ret
              refine ⟨?_, hbw⟩
              rw [Hfin.out, HU.out, Mn.prt, if_pos hn]
              exact ret_str rfl

set_option maxHeartbeats 400000 in
set_option maxRecDepth 100000 in
theorem print_pos (n : Int) (w : World) (hn : ¬ n < 0) (h0 : -9223372036854775808 ≤ n) (h1 : n ≤ 9223372036854775807) :
    Calls Tryd.prog 43 #[.int .i64 n] w fun e w' => e = .returned (.string ⟨(Mn.prt n).toArray⟩) ∧ Below w.heap.size w w' := by
  obtain ⟨i0, hi, hiz, his, hib⟩ := info_parts info_u8
  obtain ⟨U, hU⟩ : ∃ U, U = n.natAbs := ⟨_, rfl⟩
  have HU := Lib.hid hU
  have hU64 : U < 10 ^ 19 := by omega
  clear hU
  have HU64 := Lib.hid hU64
  clear hU64
  have H0 := Lib.hid h0
  have H1 := Lib.hid h1
  clear h0 h1
  go_enter Tryd.func43, Tryd.ntmps43
  go_wp2
  go_loopw [5, 3, 6] (fun v u i wr => ∃ k : Nat, k ≤ 20 ∧ i = .int .i64 k ∧ u = .int .u64 ((U / 10 ^ k : Nat) : Int) ∧ wr.ownsRow w.heap.size 5 1 v (Mn.rd U k).length ((Mn.rd U k).map (Value.int .u8)) ∧ Below w.heap.size w wr ∧ (k ≤ 3 ∨ 0 < U / 10 ^ (k - 1)))
    (fun _ _ i _ => 30 - (intOf i).toNat)
  case atStart =>
    refine ⟨0, by omega, rfl, ?_, World.ownsRow_nil _ _ _ _, Below.refl _ _, by omega⟩
    rw [Mn.wrap_u64_pos n (by omega) H1.out, ← HU.out]; simp
  case round =>
    obtain ⟨k, hk, rfl, hu, hown, hb, hlast⟩ := hrel
    obtain ⟨q, hq⟩ : ∃ q, q = U / 10 ^ k := ⟨_, rfl⟩
    rw [← hq] at hu
    subst hu
    have hq1 : q / 10 = U / 10 ^ (k + 1) := by rw [hq, Nat.div_div_eq_div_mul, ← Nat.pow_succ]
    have Hq := Lib.hid hq
    have Hq1 := Lib.hid hq1
    clear hq hq1
    have hlen := Mn.rd_le U k
    have Hlast := Lib.hid hlast
    clear hlast
    by_cases c3 : k < 3
    · by_cases c2 : k = 2
      · subst c2
        go_wp2_with (first
          | (at_builtin; refine app_one rfl (.tmp 24) (.tmp 25) 84 rfl w.heap.size 5 i0 (.int .u8 0) 1 1 Tryd.underlying84 hi hiz his hib rfl (by decide) _ _ _ hown rfl [.int .u8 46] rfl rfl (one_int _ _) (by unfold maxLen; omega) (by omega) (by have := hb.size; omega) ?_; intro v1 w1 hown1 hg1)
          | (at_builtin; refine app_one rfl (.tmp 27) (.tmp 32) 84 rfl w.heap.size 5 i0 (.int .u8 0) 1 1 Tryd.underlying84 hi hiz his hib rfl (by decide) _ _ _ hown1 rfl [.int .u8 (48 + (q : Int) % 10)] rfl rfl (one_int _ _) (by unfold maxLen; omega) (by omega) (by have := hb.size; have := hg1.size; omega) ?_; intro v2 w2 hown2 hg2))
        go_roundw
        case rel => exact ⟨3, by omega, rfl, Mn.u64_div U 2 q HU64.out Hq.out Hq1.out, Mn.rd_own2 U q Hq.out hown2, (hb.owngrown hown hg1).owngrown hown1 hg2, by omega⟩
        case measure => simp [intOf]
      · go_wp2_with (first
          | (at_builtin; refine app_one rfl (.tmp 27) (.tmp 32) 84 rfl w.heap.size 5 i0 (.int .u8 0) 1 1 Tryd.underlying84 hi hiz his hib rfl (by decide) _ _ _ hown rfl [.int .u8 (48 + (q : Int) % 10)] rfl rfl (one_int _ _) (by unfold maxLen; omega) (by omega) (by have := hb.size; omega) ?_; intro v2 w2 hown2 hg2))
        go_roundw
        case rel => exact ⟨k + 1, by omega, by go_num, Mn.u64_div U k q HU64.out Hq.out Hq1.out, Mn.rd_own U k q Hq.out c2 hown2, hb.owngrown hown hg2, by omega⟩
        case measure => simp [intOf]; omega
    · by_cases c0 : 0 < q
      · have c2 : k ≠ 2 := by omega
        have ck : k < 20 := by
          have h1 := Hq.out
          have h2 := HU64.out
          apply Classical.byContradiction
          intro h3
          obtain rfl : k = 20 := by omega
          rw [Nat.div_eq_of_lt (by omega)] at h1
          omega
        go_wp2_with (first
          | (at_builtin; refine app_one rfl (.tmp 27) (.tmp 32) 84 rfl w.heap.size 5 i0 (.int .u8 0) 1 1 Tryd.underlying84 hi hiz his hib rfl (by decide) _ _ _ hown rfl [.int .u8 (48 + (q : Int) % 10)] rfl rfl (one_int _ _) (by unfold maxLen; omega) (by omega) (by have := hb.size; omega) ?_; intro v2 w2 hown2 hg2))
        go_roundw
        case rel => exact ⟨k + 1, by omega, by go_num, Mn.u64_div U k q HU64.out Hq.out Hq1.out, Mn.rd_own U k q Hq.out c2 hown2, hb.owngrown hown hg2, Or.inr (by rw [Nat.add_sub_cancel, ← Hq.out]; exact c0)⟩
        case measure => simp [intOf]; omega
      · have hend := Mn.rd_end U k (by omega) (by have := Hq.out; omega) (by have := Hlast.out; omega)
        have hrl := Mn.rd_len U k
        obtain ⟨_, hown⟩ := hown
        rcases hown with ⟨_, hn0⟩ | ⟨g, cap, cur, rfl, hgB, hcell, hnc, hcm, hcs, hct⟩
        · exact absurd hn0 (by rw [hrl]; omega)
        · obtain ⟨wo, hwo⟩ : ∃ wo : World, wo = wr := ⟨_, rfl⟩
          subst hwo
          rw [Nat.mul_one] at hct
          have hH := holds_of_row hcell hct
          obtain ⟨d, hd⟩ : ∃ d, d = (Mn.rd U k).toArray := ⟨_, rfl⟩
          have hds : d.size = k + 1 := by rw [hd, List.size_toArray, hrl, if_pos (by omega)]
          rw [← hd] at hH
          have hW0 := Go.Sort.putRow_self _ _ _ _ _ hH
          have HW0 := Lib.hid hW0
          have Hd := Lib.hid hd
          have Hend := Lib.hid hend
          have Hds := Lib.hid hds
          have HH := Lib.hid hH
          have hHf : ∀ dk : Array Int, dk.size = k + 1 → Go.Sort.Holds (Value.int .u8) (Go.Sort.putRow (Value.int .u8) wo g 0 dk) g 0 dk := fun dk h => Go.Sort.holds_putRow _ _ _ _ _ _ HH.out (by rw [h, Hds.out])
          have HHf := Lib.hid hHf
          rw [if_pos (by omega)] at hrl
          clear hW0 hd hend hds hH hcell hct hHf
          go_wp2
          go_loopw [39] (fun i wr => ∃ (j nq : Nat) (dk : Array Int), j ≤ (k + 1) / 2 ∧ i = .int .i64 j ∧ dk.size = k + 1 ∧ wr = (Go.Sort.putRow (Value.int .u8) wo g 0 dk).drewN nq ∧ Hid (Go.Sort.reverseLoop j (k - j) dk = d.reverse)) (fun i _ => k + 1 - (intOf i).toNat)
          case atStart => exact ⟨0, 0, d, by omega, rfl, Hds.out, by rw [World.drewN_zero, HW0.out], by show _ = _; rw [← Lib.reverseLoop_reverse, Hds.out]; rfl⟩
          case round =>
            obtain ⟨j, nq, dk, hj, rfl, hdk, hwr, HE⟩ := hrel
            by_cases hlt : j < (k + 1) / 2
            · obtain ⟨xi, hxi⟩ : ∃ x, dk[j]! = x := ⟨_, rfl⟩
              obtain ⟨xj, hxj⟩ : ∃ x, dk[k - j]! = x := ⟨_, rfl⟩
              have hc := HHf.out dk hdk
              have c1 : wr.cell? ⟨g, j, none⟩ = some (.int .u8 xi) := by rw [hwr, ← hxi]; simpa using (hc j (by omega)).1
              have c2 : wr.cell? ⟨g, k - j, none⟩ = some (.int .u8 xj) := by rw [hwr, ← hxj]; simpa using (hc (k - j) (by omega)).1
              have f1 : wr.frozen? ⟨g, j, none⟩ = false := by rw [hwr]; simpa using (hc j (by omega)).2
              have f2 : wr.frozen? ⟨g, k - j, none⟩ = false := by rw [hwr]; simpa using (hc (k - j) (by omega)).2
              have Hwr := Lib.hid hwr
              have Hxi := Lib.hid hxi
              have Hxj := Lib.hid hxj
              have Hdk := Lib.hid hdk
              clear hwr hxi hxj hdk hc
              go_wp2
              go_region
              go_wp2
              go_roundw
              case rel =>
                refine ⟨j + 1, nq + 1, Go.Sort.swp dk j (k - j), by omega, by go_num, by simp [Go.Sort.swp, Hdk.out], ?_, ?_⟩
                · rw [Hwr.out, ← Hxi.out, ← Hxj.out]
                  have := swap_worldC (Value.int .u8) wo g 0 dk nq j (k - j) (by have := Hdk.out; omega) (by have := Hdk.out; omega)
                  simpa using this
                · show _ = _
                  rw [← HE.out]
                  conv => rhs; rw [Go.Sort.reverseLoop, if_pos (by omega)]
                  rw [show k - (j + 1) = k - j - 1 from by omega]
              case measure => simp [intOf]; omega
            · have hH := HHf.out dk hdk
              have hdk2 : dk = ((Mn.rd U k).reverse).toArray := by
                have h1 := HE.out
                rw [Go.Sort.reverseLoop, if_neg (by omega)] at h1
                rw [h1, Hd.out]; simp
              subst hdk2
              have hcv := conv_holds (P := Tryd.prog) (w := wr) (n := k + 1) (cap := cap) 84 9 5 Tryd.underlying84 Tryd.underlying5 Tryd.underlying9 (by rw [hwr]; exact hH) (by rw [List.length_reverse, hrl])
              have hbw : Below w.heap.size w wr := by
                rw [hwr]
                refine below_drewN (hb.trans ?_) _
                exact ⟨rfl, rfl, rfl, by simp, fun b hlt => by
                  show (wo.heap.modify g _)[b]? = _
                  rw [Array.getElem?_modify, if_neg (by omega)]⟩
              have hfin := Hend.out
              obtain ⟨R, hR⟩ : ∃ R : List UInt8, R = (Mn.rd U k).reverse.map (fun x => UInt8.ofNat x.toNat) := ⟨_, rfl⟩
              have hRl : R.length ≤ 25 := by rw [hR]; simp [hrl]; omega
              rw [← hR] at hcv hfin
              have Hfin := Lib.hid hfin
              clear hfin hR hwr hH
              go_wp2
              go_ret
              refine ⟨?_, hbw⟩
              rw [Hfin.out, HU.out, Mn.prt, if_neg (by omega)]
              exact ret_str rfl

theorem print_any (n : Int) (w : World) (h0 : -9223372036854775808 ≤ n) (h1 : n ≤ 9223372036854775807) :
    Calls Tryd.prog 43 #[.int .i64 n] w fun e w' => e = .returned (.string ⟨(Mn.prt n).toArray⟩) ∧ Below w.heap.size w w' := by
  by_cases hn : n < 0
  · exact print_neg n w hn h0 h1
  · exact print_pos n w hn h0 h1
end Go.Proofs.YtefbedineniejaaDoor
