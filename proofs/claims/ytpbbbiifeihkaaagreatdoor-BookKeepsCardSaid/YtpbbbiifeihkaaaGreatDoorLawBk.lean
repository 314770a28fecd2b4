/- BookKeeps: the law's own walk. (Printed by wip/gen_lawbk.py.) -/
import Derived.Test.YtpbbbiifeihkaaaGreatDoorBfE
import Derived.Test.YtpbbbiifeihkaaaGreatDoorBfB
import Derived.Test.YtpbbbiifeihkaaaGreatDoorBkH
import Derived.Test.YtpbbbiifeihkaaaGreatDoorOpenAl
namespace Go.Proofs.YtpbbbiifeihkaaaGreatDoor
open Go.RowKit
open Go.Maps (Keyed)
set_option linter.unusedVariables false

set_option maxHeartbeats 16000000 in
set_option maxRecDepth 100000 in
theorem bookKeeps_any (hi : Nat) (v : Value) (l : List ActV) (ta : Option Addr) (tc : Nat) (zs : List Int) (w : World) (hw : EW w) (hr : RdA hi w v l) (hh : hi ≤ w.heap.size) (hz : Rd w ta (zs.map (Value.int .i64))) (hzl : zs.length ≤ 9223372036854775807) :
    Calls Tryz.prog 4 #[v, .slice ta zs.length tc] w (Gives (.bool true) w) := by
  have HS := Lib.hid (short_any hi v l w hr hh)
  have HR := Lib.hid hr
  have HZ := Lib.hid hz
  have HW := Lib.hid hw
  have hgw : 1 < w.heap.size := cell_lt hw
  obtain ⟨a, c, rfl, -⟩ := hr
  clear hz hw
  cases hsm : shortA l with
  | false =>
    rw [hsm] at HS
    clear hsm
    go_enter Tryz.func4, Tryz.ntmps4
    go_wp2_with (go_at_call 12; refine HS.out.mono ?_; rintro x w1 ⟨rfl, hb1⟩)
    go_ret
    exact ⟨rfl, hb1⟩
  | true =>
    rw [hsm] at HS
    by_cases hz10 : zs.length ≤ 10
    case neg =>
      have hzz : (zs.length : Int) > 10 := by omega
      clear hsm
      go_enter Tryz.func4, Tryz.ntmps4
      go_wp2_with (go_at_call 12; refine HS.out.mono ?_; rintro x w1 ⟨rfl, hb1⟩)
      go_ret
      exact ⟨rfl, hb1⟩
    have hzz : ¬ (zs.length : Int) > 10 := by omega
    simp only [shortA, Bool.and_eq_true, decide_eq_true_eq, List.all_eq_true] at hsm
    obtain ⟨hlen, hit⟩ := hsm
    have HIT := Lib.hid hit
    clear hit
    go_enter Tryz.func4, Tryz.ntmps4
    go_upto_region 5 with (go_at_call 12; refine HS.out.mono ?_; rintro x w1 ⟨rfl, hb1⟩)
    have HK0 := Lib.hid ((bkW_newF w1).below ((Below.refl _ (w1.alloc bookObF)).new fbookOb))
    have hf0 := fw_new (w1.alloc bookObF)
    rw [World.size_alloc] at hf0
    have HF0 := Lib.hid hf0
    have HB0 := Lib.hid ((hb1.new bookObF).new fbookOb)
    have hB1w := hb1.size
    clear hf0 hb1 HS
    generalize ((w1.alloc bookObF).alloc fbookOb) = W3 at HK0 HF0 HB0 ⊢
    generalize w1.heap.size = B1 at HK0 HF0 hB1w ⊢
    obtain ⟨B2, hB2e⟩ : ∃ B2, B2 = B1 + 1 := ⟨_, rfl⟩
    rw [← hB2e] at HF0 ⊢
    have hlt12 : B1 < B2 := by omega
    clear hB2e
    go_wp2_with fail
    go_loopg [7] l.length (fun kx i wr => ∃ (k : Nat) (b : Bk), k ≤ l.length ∧ i = .int .i64 k ∧ l.length - k ≤ kx ∧ Hid (BkI b) ∧ b.turn ≤ k ∧ b.next ≤ k ∧ Hid (BkW wr B1 b) ∧ Hid (FW wr B2 b) ∧ Hid (Below w.heap.size w wr))
    case atStart => exact ⟨0, bk0, by omega, rfl, by omega, Lib.hid bkI0, by decide, by decide, HK0, HF0, HB0⟩
    case round =>
      clear HK0 HF0 HB0
      obtain ⟨k, b, hk, rfl, hkx, HI, ht, hn, HB, HF, HBR⟩ := hrel
      by_cases hlt : k < l.length
      · have hltz : (k : Int) < (l.length : Int) := by omega
        obtain ⟨a', c', ea, hcell⟩ := HR.out
        injection ea with ea1 ea2 ea3
        subst ea1 ea3
        obtain ⟨g, off, rfl, hgl, hc⟩ := hcell k hlt
        clear hcell
        have HCC := Lib.hid hc
        have hits := HIT.out l[k] (List.getElem_mem hlt)
        obtain ⟨x, hx⟩ : ∃ x, x = l[k] := ⟨_, rfl⟩
        rw [← hx] at HCC hits
        clear hx hc
        have hits2 : x.e.item.size ≤ 60 := by simpa using hits
        have HACTS : Hid (∀ W, Below wr.heap.size wr W → Calls Tryz.prog 13 #[.pointer (some ⟨B1, 0, none⟩), .pointer (some ⟨B2, 0, none⟩), x.agg] W fun r w' => r = .returned (.bool true) ∧ BkW w' B1 (b.act x).1 ∧ FW w' B2 (b.act x).1 ∧ Lo B1 W w') := fun W hW =>
          acts_any B1 B2 b x W (HB.out.below hW) (HF.out.below hW) hlt12 HI.out (by omega) (by omega) (by omega) (by omega) ((HW.out.below HBR.out).below hW)
        have HAT := act_turn b x
        have hnx := next_actF b x
        have HI2 := Lib.hid (HI.out.act x)
        have ht2 : (b.act x).1.turn ≤ k + 1 := by
          rcases HAT with h | h
          · omega
          · rw [h.2]; omega
        have hn2 : (b.act x).1.next ≤ k + 1 := by omega
        clear HAT hnx
        generalize (b.act x).1 = b' at HACTS HI2 ht2 hn2
        obtain ⟨wh, id, ⟨xi, xs, xk, xq, xp, xo, xd⟩⟩ := x
        simp only [ActV.agg] at HACTS
        have hnt : ((b'.turn : Int) != b'.turn) = false := by simp
        go_upto_region 8 with fail
        go_cut [42] (fun s42 wc => s42 = .bool false ∧ BkW wc B1 b' ∧ FW wc B2 b' ∧ Below w.heap.size w wc)
        case first =>
          obtain ⟨W1, hW1⟩ : ∃ W1, W1 = wr.drew := ⟨_, rfl⟩
          have hb1 : Below wr.heap.size wr wr.drew := (Below.refl _ wr).drew
          rw [← hW1] at hb1
          refine wp_region_held_drew (S := fun W => Below w.heap.size w W) (by kernel_rfl) (by rw [← hW1]; exact HBR.out.step hb1) (fun hHeld => ?_)
          rw [← hW1] at hHeld ⊢
          clear hW1
          refine wpAnyH_take (i := 0) (v := ?_) rfl (by kernel_rfl) (by kernel_rfl) (by kernel_rfl) (fun _ _ _ h => h) (Or.inl ⟨by rfl, ?_⟩) hHeld ?_
          rotate_left
          · intro W hSw; go_simp; try (with_reducible rfl)
          refine wpAnyH_take (i := 1) (v := ?_) rfl (by kernel_rfl) (by kernel_rfl) (by kernel_rfl) (fun _ _ _ h => h) (Or.inl ⟨by rfl, ?_⟩) hHeld ?_
          rotate_left
          · intro W hSw; go_simp; try (with_reducible rfl)
          refine wpAnyH_take (i := 2) (v := ?_) rfl (by kernel_rfl) (by kernel_rfl) (by kernel_rfl) (fun _ _ _ h => h) (Or.inl ⟨by rfl, ?_⟩) hHeld ?_
          rotate_left
          · intro W hSw; go_simp; try (with_reducible rfl)
          refine wpAnyH_take (i := 3) (v := ?_) rfl (by kernel_rfl) (by kernel_rfl) (by kernel_rfl) (fun _ _ _ h => h) (Or.inl ⟨by rfl, ?_⟩) hHeld ?_
          rotate_left
          · intro W hSw; go_simp; try (with_reducible rfl)
          refine wpAnyH_take (i := 4) (v := ?_) rfl (by kernel_rfl) (by kernel_rfl) (by kernel_rfl) (fun _ _ _ h => h) (Or.inl ⟨by rfl, ?_⟩) hHeld ?_
          rotate_left
          · intro W hSw; have cc := fun j u hu => (hSw.cell (p := ⟨g, off + k * 9 + j, none⟩) (by show g < w.heap.size; omega)).trans (HCC.out j u hu); have c0 := cc 0 _ rfl; have c1 := cc 1 _ rfl; have c2 := cc 2 _ rfl; have c3 := cc 3 _ rfl; have c4 := cc 4 _ rfl; have c5 := cc 5 _ rfl; have c6 := cc 6 _ rfl; have c7 := cc 7 _ rfl; have c8 := cc 8 _ rfl; rw [Nat.add_zero] at c0; clear cc; go_simp; try (with_reducible rfl)
          refine wpAnyH_ready (rs := [5]) (by kernel_rfl) (by simp) (AllReadyH.cons rfl (fun K hK => ?_) AllReadyH.nil)
          go_simp
          refine (HACTS.out _ hb1).mono ?_
          rintro r w2 ⟨rfl, hB2, hF2, hlo⟩
          have hbel2 : Below w.heap.size w w2 := (Lo.mono hlo hB1w).below (HBR.out.step hb1)
          refine hK.out _ _ hbel2 (fun hHeld => ?_)
          clear hK K
          refine wpAnyH_take (i := 6) (v := ?_) rfl (by kernel_rfl) (by kernel_rfl) (by kernel_rfl) (fun _ _ _ h => h) (Or.inl ⟨by rfl, ?_⟩) hHeld ?_
          rotate_left
          · intro W hSw; go_simp; try (with_reducible rfl)
          refine wpAnyH_take (i := 7) (v := ?_) rfl (by kernel_rfl) (by kernel_rfl) (by kernel_rfl) (fun _ _ _ h => h) (Or.inl ⟨by rfl, ?_⟩) hHeld ?_
          rotate_left
          · intro W hSw; go_simp; try (with_reducible rfl)
          refine wpAnyH_take (i := 9) (v := ?_) rfl (by kernel_rfl) (by kernel_rfl) (by kernel_rfl) (fun _ _ _ h => h) (Or.inl ⟨by rfl, ?_⟩) hHeld ?_
          rotate_left
          · intro W hSw; go_simp; try (with_reducible rfl)
          refine wpAnyH_take (i := 10) (v := ?_) rfl (by kernel_rfl) (by kernel_rfl) (by kernel_rfl) (fun _ _ _ h => h) (Or.inl ⟨by rfl, ?_⟩) hHeld ?_
          rotate_left
          · intro W hSw; go_simp; try (with_reducible rfl)
          refine wpAnyH_take (i := 11) (v := ?_) rfl (by kernel_rfl) (by kernel_rfl) (by kernel_rfl) (fun _ _ _ h => h) (Or.inl ⟨by rfl, ?_⟩) hHeld ?_
          rotate_left
          · intro W hSw; go_simp; try (with_reducible rfl)
          refine wpAnyH_ready (rs := [8, 12]) (by kernel_rfl) (by simp) ?_
          refine AllReadyH.cons rfl (fun K hK => ?_) (AllReadyH.cons rfl (fun K hK => ?_) AllReadyH.nil)
          · go_simp
            refine (turn_any B1 b' w2 hB2).mono ?_
            rintro r w3 ⟨rfl, rfl⟩
            refine hK.out _ _ hHeld (fun hHeld => ?_)
            clear hK K
            refine wpAnyH_ready (rs := [12]) (by kernel_rfl) (by simp) (AllReadyH.cons rfl (fun K hK => ?_) AllReadyH.nil)
            obtain ⟨fa, fc, hfb, -⟩ := hF2.row
            have q1 := (fb_cells hfb).2.1
            go_simp
            refine hK.out _ _ hHeld (fun hHeld => ?_)
            clear hK K
            refine wpAnyH_take (i := 13) (v := ?_) rfl (by kernel_rfl) (by kernel_rfl) (by kernel_rfl) (fun _ _ _ h => h) (Or.inl ⟨by rfl, ?_⟩) hHeld ?_
            rotate_left
            · intro W hSw; go_simp; try (with_reducible rfl)
            refine wpAnyH_take (i := 14) (v := ?_) rfl (by kernel_rfl) (by kernel_rfl) (by kernel_rfl) (fun _ _ _ h => h) (Or.inl ⟨by rfl, ?_⟩) hHeld ?_
            rotate_left
            · intro W hSw; go_simp; try (with_reducible rfl)
            refine wpAnyH_done (by kernel_rfl) ?_ _
            go_wp2_with fail
            go_meet
            case rel => exact ⟨by first | rfl | (rw [hnt]), hB2, hF2, hHeld⟩
          · obtain ⟨fa, fc, hfb, -⟩ := hF2.row
            have q1 := (fb_cells hfb).2.1
            go_simp
            refine hK.out _ _ hHeld (fun hHeld => ?_)
            clear hK K
            refine wpAnyH_ready (rs := [8]) (by kernel_rfl) (by simp) (AllReadyH.cons rfl (fun K hK => ?_) AllReadyH.nil)
            go_simp
            refine (turn_any B1 b' w2 hB2).mono ?_
            rintro r w3 ⟨rfl, rfl⟩
            refine hK.out _ _ hHeld (fun hHeld => ?_)
            clear hK K
            refine wpAnyH_take (i := 13) (v := ?_) rfl (by kernel_rfl) (by kernel_rfl) (by kernel_rfl) (fun _ _ _ h => h) (Or.inl ⟨by rfl, ?_⟩) hHeld ?_
            rotate_left
            · intro W hSw; go_simp; try (with_reducible rfl)
            refine wpAnyH_take (i := 14) (v := ?_) rfl (by kernel_rfl) (by kernel_rfl) (by kernel_rfl) (fun _ _ _ h => h) (Or.inl ⟨by rfl, ?_⟩) hHeld ?_
            rotate_left
            · intro W hSw; go_simp; try (with_reducible rfl)
            refine wpAnyH_done (by kernel_rfl) ?_ _
            go_wp2_with fail
            go_meet
            case rel => exact ⟨by first | rfl | (rw [hnt]), hB2, hF2, hHeld⟩
        case rest =>
          obtain ⟨rfl, hb', hf', hbc⟩ := hcut
          have HB := Lib.hid hb'
          have HF := Lib.hid hf'
          have HBC := Lib.hid hbc
          clear hb' hf' hbc HACTS
          go_upto_region 10 with fail
          obtain ⟨W1, hW1⟩ : ∃ W1, W1 = wc.drew := ⟨_, rfl⟩
          have hb1 : Below wc.heap.size wc wc.drew := (Below.refl _ wc).drew
          rw [← hW1] at hb1
          refine wp_region_held_drew (S := fun W => Below w.heap.size w W) (by kernel_rfl) (by rw [← hW1]; exact HBC.out.step hb1) (fun hHeld => ?_)
          rw [← hW1] at hHeld ⊢
          clear hW1
          refine wpAnyH_take (i := 0) (v := ?_) rfl (by kernel_rfl) (by kernel_rfl) (by kernel_rfl) (fun _ _ _ h => h) (Or.inl ⟨by rfl, ?_⟩) hHeld ?_
          rotate_left
          · intro W hSw; go_simp; try (with_reducible rfl)
          refine wpAnyH_take (i := 1) (v := ?_) rfl (by kernel_rfl) (by kernel_rfl) (by kernel_rfl) (fun _ _ _ h => h) (Or.inl ⟨by rfl, ?_⟩) hHeld ?_
          rotate_left
          · intro W hSw; go_simp; try (with_reducible rfl)
          refine wpAnyH_take (i := 2) (v := ?_) rfl (by kernel_rfl) (by kernel_rfl) (by kernel_rfl) (fun _ _ _ h => h) (Or.inl ⟨by rfl, ?_⟩) hHeld ?_
          rotate_left
          · intro W hSw; go_simp; try (with_reducible rfl)
          refine wpAnyH_take (i := 3) (v := ?_) rfl (by kernel_rfl) (by kernel_rfl) (by kernel_rfl) (fun _ _ _ h => h) (Or.inl ⟨by rfl, ?_⟩) hHeld ?_
          rotate_left
          · intro W hSw; go_simp; try (with_reducible rfl)
          refine wpAnyH_take (i := 4) (v := ?_) rfl (by kernel_rfl) (by kernel_rfl) (by kernel_rfl) (fun _ _ _ h => h) (Or.inl ⟨by rfl, ?_⟩) hHeld ?_
          rotate_left
          · intro W hSw; have cc := fun j u hu => (hSw.cell (p := ⟨g, off + k * 9 + j, none⟩) (by show g < w.heap.size; omega)).trans (HCC.out j u hu); have c0 := cc 0 _ rfl; have c1 := cc 1 _ rfl; have c2 := cc 2 _ rfl; have c3 := cc 3 _ rfl; have c4 := cc 4 _ rfl; have c5 := cc 5 _ rfl; have c6 := cc 6 _ rfl; have c7 := cc 7 _ rfl; have c8 := cc 8 _ rfl; rw [Nat.add_zero] at c0; clear cc; go_simp; try (with_reducible rfl)
          refine wpAnyH_take (i := 6) (v := ?_) rfl (by kernel_rfl) (by kernel_rfl) (by kernel_rfl) (fun _ _ _ h => h) (Or.inl ⟨by rfl, ?_⟩) hHeld ?_
          rotate_left
          · intro W hSw; go_simp; try (with_reducible rfl)
          refine wpAnyH_take (i := 7) (v := ?_) rfl (by kernel_rfl) (by kernel_rfl) (by kernel_rfl) (fun _ _ _ h => h) (Or.inl ⟨by rfl, ?_⟩) hHeld ?_
          rotate_left
          · intro W hSw; go_simp; try (with_reducible rfl)
          refine wpAnyH_take (i := 8) (v := ?_) rfl (by kernel_rfl) (by kernel_rfl) (by kernel_rfl) (fun _ _ _ h => h) (Or.inl ⟨by rfl, ?_⟩) hHeld ?_
          rotate_left
          · intro W hSw; go_simp; try (with_reducible rfl)
          refine wpAnyH_take (i := 9) (v := ?_) rfl (by kernel_rfl) (by kernel_rfl) (by kernel_rfl) (fun _ _ _ h => h) (Or.inl ⟨by rfl, ?_⟩) hHeld ?_
          rotate_left
          · intro W hSw; go_simp; try (with_reducible rfl)
          refine wpAnyH_take (i := 10) (v := ?_) rfl (by kernel_rfl) (by kernel_rfl) (by kernel_rfl) (fun _ _ _ h => h) (Or.inl ⟨by rfl, ?_⟩) hHeld ?_
          rotate_left
          · intro W hSw; go_simp; try (with_reducible rfl)
          refine wpAnyH_take (i := 11) (v := ?_) rfl (by kernel_rfl) (by kernel_rfl) (by kernel_rfl) (fun _ _ _ h => h) (Or.inl ⟨by rfl, ?_⟩) hHeld ?_
          rotate_left
          · intro W hSw; have cc := fun j u hu => (hSw.cell (p := ⟨g, off + k * 9 + j, none⟩) (by show g < w.heap.size; omega)).trans (HCC.out j u hu); have c0 := cc 0 _ rfl; have c1 := cc 1 _ rfl; have c2 := cc 2 _ rfl; have c3 := cc 3 _ rfl; have c4 := cc 4 _ rfl; have c5 := cc 5 _ rfl; have c6 := cc 6 _ rfl; have c7 := cc 7 _ rfl; have c8 := cc 8 _ rfl; rw [Nat.add_zero] at c0; clear cc; go_simp; try (with_reducible rfl)
          refine wpAnyH_ready (rs := [5]) (by kernel_rfl) (by simp) (AllReadyH.cons rfl (fun K hK => ?_) AllReadyH.nil)
          go_simp
          refine (history_any B1 b' id W1 (HB.out.below hb1) (by have := HI2.out.len; omega)).mono ?_
          rintro r w2 ⟨v1, rfl, ho2, hb2⟩
          refine hK.out _ _ (hHeld.step hb2) (fun hHeld => ?_)
          clear hK K
          refine wpAnyH_ready (rs := [12]) (by kernel_rfl) (by simp) (AllReadyH.cons rfl (fun K hK => ?_) AllReadyH.nil)
          go_simp
          refine (refHistory_any B2 b' id w2 (HF.out.below (hb1.step hb2)) (by have := HI2.out.len; omega)).mono ?_
          rintro r w3 ⟨v2, rfl, ho3, hb3⟩
          refine hK.out _ _ (hHeld.step hb3) (fun hHeld => ?_)
          clear hK K
          refine wpAnyH_take (i := 13) (v := ?_) rfl (by kernel_rfl) (by kernel_rfl) (by kernel_rfl) (fun _ _ _ h => h) (Or.inl ⟨by rfl, ?_⟩) hHeld ?_
          rotate_left
          · intro W hSw; go_simp; try (with_reducible rfl)
          refine wpAnyH_take (i := 14) (v := ?_) rfl (by kernel_rfl) (by kernel_rfl) (by kernel_rfl) (fun _ _ _ h => h) (Or.inl ⟨by rfl, ?_⟩) hHeld ?_
          rotate_left
          · intro W hSw; go_simp; try (with_reducible rfl)
          refine wpAnyH_done (by kernel_rfl) ?_ _
          obtain ⟨y1, n1, rfl⟩ := own_slice ho2
          obtain ⟨y2, n2, rfl⟩ := own_slice ho3
          have hrA := (rdV_of_own ho2).below hb3
          have hrB := rdF_of_own ho3
          have hbW : Below wc.heap.size wc w3 := (hb1.step hb2).step hb3
          have HB3 := Lib.hid (HB.out.below hbW)
          have HF3 := Lib.hid (HF.out.below hbW)
          have HBR3 := Lib.hid (HBC.out.step hbW)
          have hFl : (b'.l.filter (·.ev.id == id)).length ≤ 120 := Nat.le_trans (List.length_filter_le _ _) HI2.out.len
          generalize b'.l.filter (·.ev.id == id) = F at hrA hrB hFl ho2 ho3 ⊢
          have HRA := Lib.hid hrA
          have HRB := Lib.hid hrB
          have hnl : ((F.length : Int) != (F.length : Int)) = false := by simp
          clear hrA hrB ho2 ho3 hb1 hb2 hb3 hbW HB HF HBC hHeld HBR
          go_wp2_with fail
          go_loopg [10] F.length (fun kx i w' => ∃ m q : Nat, m ≤ F.length ∧ i = .int .i64 m ∧ F.length - m ≤ kx ∧ w' = w3.drewN q)
          case atStart => exact ⟨0, 0, Nat.zero_le _, rfl, by omega, rfl⟩
          case round =>
            obtain ⟨m, q, hm, rfl, hmx, rfl⟩ := hrel
            by_cases hml : m < F.length
            · have hmz : (m : Int) < (F.length : Int) := by omega
              obtain ⟨g1, o1, rfl, hg1, p0, p1, p2, p3, p4, p5, p6, p7, p8⟩ := HRA.out.nine m hml
              obtain ⟨g2, o2, rfl, hg2, q0, q1, q2, q3, q4, q5, q6, q7, q8⟩ := HRB.out.nine m hml
              obtain ⟨x, hx⟩ : ∃ x, x = F[m] := ⟨_, rfl⟩
              rw [← hx] at p0 p1 p2 p3 p4 p5 p6 p7 p8 q0 q1 q2 q3 q4 q5 q6 q7 q8
              clear hx
              have hs := ev_same x.ev.id x.ev.kind x.ev.qty x.ev.price x.ev.ofn x.ev.day x.ev.item
              have hnf : ((x.frm : Int) != x.frm) = false := by simp
              have hno : ((x.to : Int) != x.to) = false := by simp
              go_upto_region 16 with fail
              go_quiet (fail)
              go_wp2_with fail
              go_roundg (F.length - (m + 1))
              case measure => omega
              case rel => exact ⟨m + 1, _, hml, by first | rfl | go_num | (congr 1; omega), Nat.le_refl _, rfl⟩
            · have hmz : ¬ (m : Int) < (F.length : Int) := by omega
              have hbq : Below w3.heap.size w3 (w3.drewN q) := below_drewN (Below.refl _ w3) q
              go_wp2_with fail
              go_roundg (l.length - (k + 1))
              case measure => omega
              case rel => exact ⟨k + 1, b', hlt, by first | rfl | go_num | (congr 1; omega), Nat.le_refl _, HI2, by omega, by omega, HB3.out.below hbq, HF3.out.below hbq, HBR3.out.step hbq⟩
      · have hltz : ¬ (k : Int) < (l.length : Int) := by omega
        go_wp2_with fail
        have HZ2 := HZ
        go_loopg [11] zs.length (fun kx i w' => ∃ m : Nat, m ≤ zs.length ∧ i = .int .i64 m ∧ zs.length - m ≤ kx ∧ Hid (BkW w' B1 b) ∧ Hid (FW w' B2 b) ∧ Hid (Below w.heap.size w w'))
        case atStart => exact ⟨0, Nat.zero_le _, rfl, by omega, HB, HF, HBR⟩
        case round =>
          clear HB HF HBR
          obtain ⟨k, hk, rfl, hkx, HB, HF, HBR⟩ := hrel
          by_cases hlt : k < zs.length
          · have hltz : (k : Int) < (zs.length : Int) := by omega
            obtain ⟨g, off, rfl, hcc⟩ := HZ.out.ints k hlt
            obtain ⟨z, hz⟩ : ∃ z, z = zs.getD k 0 := ⟨_, rfl⟩
            rw [← hz] at hcc
            have HCC := Lib.hid hcc
            have hgl : g < w.heap.size := cell_lt hcc
            clear hz hcc
            go_upto_region 21 with fail
            obtain ⟨W1, hW1⟩ : ∃ W1, W1 = wr.drew := ⟨_, rfl⟩
            have hb1 : Below wr.heap.size wr wr.drew := (Below.refl _ wr).drew
            rw [← hW1] at hb1
            refine wp_region_held_drew (S := fun W => Below w.heap.size w W) (by kernel_rfl) (by rw [← hW1]; exact HBR.out.step hb1) (fun hHeld => ?_)
            rw [← hW1] at hHeld ⊢
            clear hW1
            refine wpAnyH_take (i := 0) (v := ?_) rfl (by kernel_rfl) (by kernel_rfl) (by kernel_rfl) (fun _ _ _ h => h) (Or.inl ⟨by rfl, ?_⟩) hHeld ?_
            rotate_left
            · intro W hSw; go_simp; try (with_reducible rfl)
            refine wpAnyH_take (i := 1) (v := ?_) rfl (by kernel_rfl) (by kernel_rfl) (by kernel_rfl) (fun _ _ _ h => h) (Or.inl ⟨by rfl, ?_⟩) hHeld ?_
            rotate_left
            · intro W hSw; go_simp; try (with_reducible rfl)
            refine wpAnyH_take (i := 2) (v := ?_) rfl (by kernel_rfl) (by kernel_rfl) (by kernel_rfl) (fun _ _ _ h => h) (Or.inl ⟨by rfl, ?_⟩) hHeld ?_
            rotate_left
            · intro W hSw; go_simp; try (with_reducible rfl)
            refine wpAnyH_take (i := 3) (v := ?_) rfl (by kernel_rfl) (by kernel_rfl) (by kernel_rfl) (fun _ _ _ h => h) (Or.inl ⟨by rfl, ?_⟩) hHeld ?_
            rotate_left
            · intro W hSw; have c0 := (hSw.cell (p := ⟨g, off + k, none⟩) (by show g < w.heap.size; omega)).trans HCC.out; go_simp; try (with_reducible rfl)
            refine wpAnyH_take (i := 5) (v := ?_) rfl (by kernel_rfl) (by kernel_rfl) (by kernel_rfl) (fun _ _ _ h => h) (Or.inl ⟨by rfl, ?_⟩) hHeld ?_
            rotate_left
            · intro W hSw; go_simp; try (with_reducible rfl)
            refine wpAnyH_take (i := 6) (v := ?_) rfl (by kernel_rfl) (by kernel_rfl) (by kernel_rfl) (fun _ _ _ h => h) (Or.inl ⟨by rfl, ?_⟩) hHeld ?_
            rotate_left
            · intro W hSw; go_simp; try (with_reducible rfl)
            refine wpAnyH_take (i := 7) (v := ?_) rfl (by kernel_rfl) (by kernel_rfl) (by kernel_rfl) (fun _ _ _ h => h) (Or.inl ⟨by rfl, ?_⟩) hHeld ?_
            rotate_left
            · intro W hSw; go_simp; try (with_reducible rfl)
            refine wpAnyH_take (i := 8) (v := ?_) rfl (by kernel_rfl) (by kernel_rfl) (by kernel_rfl) (fun _ _ _ h => h) (Or.inl ⟨by rfl, ?_⟩) hHeld ?_
            rotate_left
            · intro W hSw; go_simp; try (with_reducible rfl)
            refine wpAnyH_take (i := 9) (v := ?_) rfl (by kernel_rfl) (by kernel_rfl) (by kernel_rfl) (fun _ _ _ h => h) (Or.inl ⟨by rfl, ?_⟩) hHeld ?_
            rotate_left
            · intro W hSw; have c0 := (hSw.cell (p := ⟨g, off + k, none⟩) (by show g < w.heap.size; omega)).trans HCC.out; go_simp; try (with_reducible rfl)
            refine wpAnyH_ready (rs := [4]) (by kernel_rfl) (by simp) (AllReadyH.cons rfl (fun K hK => ?_) AllReadyH.nil)
            go_simp
            refine (as_any B1 b z W1 (HB.out.below hb1) HI.out).mono ?_
            rintro r w2 ⟨v1, rfl, ho2, hb2⟩
            refine hK.out _ _ (hHeld.step hb2) (fun hHeld => ?_)
            clear hK K
            refine wpAnyH_ready (rs := [10]) (by kernel_rfl) (by simp) (AllReadyH.cons rfl (fun K hK => ?_) AllReadyH.nil)
            go_simp
            refine (refAs_any B2 b z w2 (HF.out.below (hb1.step hb2)) (by have := HI.out.len; omega) HI.out.turn0).mono ?_
            rintro r w3 ⟨v2, rfl, ho3, hb3⟩
            refine hK.out _ _ (hHeld.step hb3) (fun hHeld => ?_)
            clear hK K
            refine wpAnyH_ready (rs := [11]) (by kernel_rfl) (by simp) (AllReadyH.cons rfl (fun K hK => ?_) AllReadyH.nil)
            go_simp
            refine (sameEvents_any w3.heap.size (b.as z) v1 v2 w3 (as_len HI.out z) (Nat.le_refl _) ((rdE_of_own (own_below ho2 hb3) rfl)) (rdE_of_own ho3 rfl)).mono ?_
            rintro r w4 ⟨rfl, hb4⟩
            refine hK.out _ _ (hHeld.step hb4) (fun hHeld => ?_)
            clear hK K
            refine wpAnyH_take (i := 12) (v := ?_) rfl (by kernel_rfl) (by kernel_rfl) (by kernel_rfl) (fun _ _ _ h => h) (Or.inl ⟨by rfl, ?_⟩) hHeld ?_
            rotate_left
            · intro W hSw; go_simp; try (with_reducible rfl)
            refine wpAnyH_done (by kernel_rfl) ?_ _
            go_wp2_with fail
            go_roundg (zs.length - (k + 1))
            case measure => omega
            case rel => exact ⟨k + 1, hlt, by first | rfl | go_num | (congr 1; omega), Nat.le_refl _, HB.out.below (((hb1.step hb2).step hb3).step hb4), HF.out.below (((hb1.step hb2).step hb3).step hb4), hHeld⟩
          · have hltz : ¬ (k : Int) < (zs.length : Int) := by omega
            have hlen2 := HI.out.len
            have ht0 := HI.out.turn0
            go_wp2_with (first
              | (go_at_call 18; refine (as_any B1 b (-1) _ HB.out HI.out).mono ?_; rintro r w2 ⟨v1, rfl, ho2, hb2⟩; have hF2 := HF.out.below hb2)
              | (go_at_call 19; refine (refAs_any B2 b (-1) w2 hF2 (by omega) ht0).mono ?_; rintro r w3 ⟨v2, rfl, ho3, hb3⟩; have hE2 := rdE_of_own (own_below ho2 hb3) rfl; have hE3 := rdE_of_own ho3 rfl)
              | (go_at_call 17; refine (sameEvents_any w3.heap.size (b.as (-1)) v1 v2 w3 (as_len HI.out (-1)) (Nat.le_refl _) hE2 hE3).mono ?_; rintro r w4 ⟨rfl, hb4⟩))
            go_ret
            exact ⟨rfl, HBR.out.step ((hb2.step hb3).step hb4)⟩
/-- .. as the row of the law asks it. -/
theorem bookKeeps_go (hi : Nat) (v : Value) (l : List ActV) (ta : Option Addr) (tc : Nat) (zs : List Int) (w : World) (hw : EW w) (hr : RdA hi w v l) (hh : hi ≤ w.heap.size) (hz : Rd w ta (zs.map (Value.int .i64))) (_ : ∀ n ∈ zs, (Lit.int .i64 n).wf = true) (hzl : zs.length ≤ maxLen) :
    Calls Tryz.prog 4 #[v, .slice ta zs.length tc] w (Gives (.bool true) w) :=
  bookKeeps_any hi v l ta tc zs w hw hr hh hz hzl
end Go.Proofs.YtpbbbiifeihkaaaGreatDoor
