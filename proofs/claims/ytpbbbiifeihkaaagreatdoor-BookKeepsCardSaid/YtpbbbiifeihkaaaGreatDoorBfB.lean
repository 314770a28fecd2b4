/- tallymanref.Book.As: a row of the call's own that holds what was known behind a turn. -/
import Derived.Test.YtpbbbiifeihkaaaGreatDoorBfA
import Derived.Deep.DeepCutAuto
namespace Go.Proofs.YtpbbbiifeihkaaaGreatDoor
open Go.RowKit
open Go.Maps (Keyed)
set_option linter.unusedVariables false

set_option maxHeartbeats 4000000 in
set_option maxRecDepth 100000 in
theorem refAs_any (B : Nat) (b : Bk) (t : Int) (w : World) (h : FW w B b) (hlen : b.l.length ≤ 1000) (h0 : 0 ≤ b.turn) :
    Calls Tryz.prog 19 #[.pointer (some ⟨B, 0, none⟩), .int .i64 t] w fun e w' => ∃ v, e = .returned v ∧ w'.ownsRow w.heap.size 24 7 v (b.as t).length (flE (b.as t)) ∧ Below w.heap.size w w' := by
  obtain ⟨a, c, h1, h2⟩ := h.row
  have hR := rdF_of_own h2
  obtain ⟨i0, hinf, hiz, his, hib⟩ := info_parts info_evt
  obtain ⟨c0, c1, c2, -⟩ := fb_cells h1
  obtain ⟨T, hT⟩ : ∃ T, T = b.at t := ⟨_, rfl⟩
  have hAS : b.as t = Stb.isort leE ((b.l.filter (knownAt T)).map Ver.ev) := by rw [hT]; rfl
  obtain ⟨R, hRR⟩ : ∃ R, R = b.as t := ⟨_, rfl⟩
  rw [← hRR] at hAS ⊢
  have HAS := Lib.hid hAS
  obtain ⟨bb, hbb⟩ : ∃ bb, bb = decide (0 ≤ t ∧ t ≤ b.turn) := ⟨_, rfl⟩
  have HIN : Hid (∀ W, Calls Tryz.prog 53 #[.int .i64 t, .int .i64 0, .int .i64 b.turn] W (Same (.bool bb) W)) := fun W => by
    by_cases hc : 0 ≤ t ∧ t ≤ b.turn
    · rw [hbb, decide_eq_true hc]; exact in_yes t 0 b.turn W hc.1 hc.2
    · rw [hbb, decide_eq_false hc]; exact in_no t 0 b.turn W (by omega)
  have HTT : Hid (bb = true → T = t) := fun hb => by
    rw [hT]; unfold Bk.at
    have := of_decide_eq_true (hbb.symm.trans hb)
    rw [if_neg (by omega)]
  have HTF : Hid (bb = false → T = b.turn) := fun hb => by
    rw [hT]; unfold Bk.at
    have := of_decide_eq_false (hbb.symm.trans hb)
    rw [if_pos (by omega)]
  obtain ⟨ls, tn, nx⟩ := b
  simp only at hR hlen c0 c1 c2 HAS HIN HTF
  have HR : Aside (RdV w a ls) := hR
  clear h h1 h2 hR hT hAS hRR hbb
  go_enter Tryz.func19, Tryz.ntmps19
  go_upto_if 14 with (go_at_call 53; refine (HIN.out _).mono ?_; rintro e w1 ⟨rfl, rfl⟩)
  go_cut [1] (fun s1 wc => s1 = .int .i64 T ∧ wc = w)
  case first =>
    cases bb with
    | true =>
      have hz := HTT.out rfl
      go_wp2_with fail
      go_meet
      case rel => exact ⟨by rw [hz], rfl⟩
    | false =>
      have hz := HTF.out rfl
      go_wp2_with fail
      go_meet
      case rel => exact ⟨by rw [hz], rfl⟩
  case rest =>
    obtain ⟨rfl, hwc⟩ := hcut
    have hwc := hwc.symm
    subst hwc
    clear HIN HTT HTF
    go_wp2_with fail
    go_loopg [5, 24] ls.length (fun kx v i wr => ∃ k : Nat, k ≤ ls.length ∧ i = .int .i64 k ∧ ls.length - k ≤ kx ∧ Below w.heap.size w wr ∧ Aside (wr.ownsRow w.heap.size 24 7 v (((ls.take k).filter (knownAt T)).map Ver.ev).length (flE (((ls.take k).filter (knownAt T)).map Ver.ev))))
    case atStart => exact ⟨0, Nat.zero_le _, rfl, by omega, Below.refl _ _, World.ownsRow_nil _ _ _ _⟩
    case round =>
      obtain ⟨k, hk, rfl, hkx, hb, HO⟩ := hrel
      by_cases hlt : k < ls.length
      · have hltz : (k : Int) < (ls.length : Int) := by omega
        obtain ⟨g, off, rfl, -, p0, p1, p2, p3, p4, p5, p6, p7, p8⟩ := (HR.out.below hb).nine k hlt
        obtain ⟨x, hx⟩ : ∃ x, x = ls[k] := ⟨_, rfl⟩
        rw [← hx] at p0 p1 p2 p3 p4 p5 p6 p7 p8
        have HTK : Hid (ls.take (k + 1) = ls.take k ++ [x]) := by show _ = _; rw [List.take_succ_eq_append_getElem hlt, hx]
        have hbx := hb.new (Ver.obF x)
        have hln : (((ls.take k).filter (knownAt T)).map Ver.ev).length ≤ 1000 := by
          have h1 := List.length_filter_le (knownAt T) (ls.take k)
          rw [List.length_take] at h1
          rw [List.length_map]
          omega
        have hO5 := own_below HO.out ((Below.refl _ wr).new (Ver.obF x))
        have hz5 := hbx.size
        obtain ⟨M, hM⟩ : ∃ M, M = ((ls.take k).filter (knownAt T)).map Ver.ev := ⟨_, rfl⟩
        rw [← hM] at hln hO5
        have HM := Lib.hid hM
        have HO5 : Aside _ := hO5
        have hyes : knownAt T x = true → Hid (((ls.take (k + 1)).filter (knownAt T)).map Ver.ev = M ++ [x.ev]) := fun hh => by show _ = _; rw [HTK.out, List.filter_append, List.map_append, ← HM.out]; simp [hh]
        have hno : knownAt T x = false → Hid (((ls.take (k + 1)).filter (knownAt T)).map Ver.ev = M) := fun hh => by show _ = _; rw [HTK.out, List.filter_append, List.map_append, ← HM.out]; simp [hh]
        have HY := Lib.hid hyes
        have HN := Lib.hid hno
        clear hx hM HO hO5 hyes hno
        obtain ⟨⟨xi, xs, xk, xq, xp, xo, xd⟩, xf, xt⟩ := x
        simp only at p0 p1 p2 p3 p4 p5 p6 p7 p8 HY
        obtain ⟨kb, hkb⟩ : ∃ kb, kb = knownAt T ⟨⟨xi, xs, xk, xq, xp, xo, xd⟩, xf, xt⟩ := ⟨_, rfl⟩
        rw [← hkb] at HY HN
        have HKB := Lib.hid hkb
        clear hkb
        go_upto_region 7 with fail
        have hcl := World.alloc_heap_new wr (Ver.obF ⟨⟨xi, xs, xk, xq, xp, xo, xd⟩, xf, xt⟩)
        generalize wr.alloc (Ver.obF ⟨⟨xi, xs, xk, xq, xp, xo, xd⟩, xf, xt⟩) = W5 at hbx HO5 hz5 hcl ⊢
        obtain ⟨d0, d1, d2, d3, d4, d5, d6, d7, d8⟩ := vf_cells hcl
        clear hcl
        go_cut [42] (fun s42 wd => s42 = .bool kb ∧ wd = W5)
        case first =>
          have hk0 := HKB.out
          unfold knownAt at hk0
          simp only at hk0
          clear HKB HY HN
          by_cases e1 : xf ≤ T
          · have e1d : decide (xf ≤ T) = true := decide_eq_true e1
            by_cases e2 : xt = 0
            · have e2d : (xt == 0) = true := by simpa using e2
              rw [e1d, e2d] at hk0
              clear e2
              go_wp2_with fail
              go_meet
              case rel => exact ⟨by rw [hk0]; rfl, rfl⟩
            · have e2d : (xt == 0) = false := by simpa using e2
              clear e2
              by_cases e3 : T < xt
              · have e3d : decide (T < xt) = true := decide_eq_true e3
                rw [e1d, e2d, e3d] at hk0
                go_wp2_with fail
                go_meet
                case rel => exact ⟨by rw [hk0]; rfl, rfl⟩
              · have e3d : decide (T < xt) = false := decide_eq_false e3
                rw [e1d, e2d, e3d] at hk0
                go_wp2_with fail
                go_meet
                case rel => exact ⟨by rw [hk0]; rfl, rfl⟩
          · have e1d : decide (xf ≤ T) = false := decide_eq_false e1
            rw [e1d] at hk0
            go_wp2_with fail
            go_meet
            case rel => exact ⟨by rw [hk0]; rfl, rfl⟩
        case rest =>
          obtain ⟨rfl, hwd⟩ := hcut
          have hwd := hwd.symm
          subst hwd
          cases kb with
          | true =>
            have hfl := HY.out rfl
            clear HY HN HKB
            go_wp2_with (first
              | (at_builtin; refine app_one (w := W5) rfl (.tmp 43) (.tmp 46) 22 rfl w.heap.size 24 i0 (.agg #[.int .i64 0, .string ⟨#[]⟩, .int .i64 0, .int .i64 0, .int .i64 0, .int .i64 0, .int .i64 0]) 7 64 Tryz.underlying22 hinf hiz his hib rfl (by decide) _ _ _ HO5.out rfl (Evt.cells ⟨xi, xs, xk, xq, xp, xo, xd⟩) rfl rfl (one_evt _) (by unfold maxLen; omega) (by omega) hz5 ?_; intro v2 w2 hown2 hg2))
            have hb2 := hbx.owngrown HO5.out hg2
            go_roundg (ls.length - (k + 1))
            case measure => omega
            case rel =>
              refine ⟨k + 1, hlt, by first | rfl | go_num | (congr 1; omega), Nat.le_refl _, hb2, (show Aside _ from ?_)⟩
              rw [hfl.out]
              show World.ownsRow _ _ _ _ _ _ _
              rw [flE_snoc, List.length_append]
              exact hown2
          | false =>
            have hfl := HN.out rfl
            clear HY HN HKB
            go_wp2_with fail
            go_roundg (ls.length - (k + 1))
            case measure => omega
            case rel =>
              refine ⟨k + 1, hlt, by first | rfl | go_num | (congr 1; omega), Nat.le_refl _, hbx, (show Aside _ from ?_)⟩
              rw [hfl.out]
              exact HO5.out
      · have hltz : ¬ (k : Int) < (ls.length : Int) := by omega
        have hke : k = ls.length := by omega
        subst hke
        have hO := HO.out
        rw [List.take_length] at hO
        obtain ⟨M, hM⟩ : ∃ M, M = (ls.filter (knownAt T)).map Ver.ev := ⟨_, rfl⟩
        rw [← hM] at hO HAS
        have hlm : M.length ≤ 1000 := by
          rw [hM, List.length_map]
          exact Nat.le_trans (List.length_filter_le _ _) hlen
        have HORD := Lib.hid (ordered_any _ M wr ((rdE_of_own hO rfl)) hlm)
        clear hO HO hM
        go_wp2_with (go_at_call 35; refine HORD.out.mono ?_; rintro e w4 ⟨v4, rfl, ho4, hb4⟩)
        go_ret
        rw [HAS.out]
        exact ⟨_, rfl, own_base_cK ho4 hb.size, hb.step hb4⟩
end Go.Proofs.YtpbbbiifeihkaaaGreatDoor
