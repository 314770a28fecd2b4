/- Joined: CsQ, CsR. -/
import Derived.Test.YtackpcohmmlkeaaGreatDoorCsRp
import Derived.Test.YtackpcohmmlkeaaGreatDoorEvX
import Derived.Test.YtackpcohmmlkeaaGreatDoorCsP
import Derived.Deep.QuietTactic
import Derived.BigQuiet

/- CsQ: Events numbered. -/
section
namespace Go.Proofs.YtackpcohmmlkeaaGreatDoor
open Go.RowKit
open Go.Maps (Keyed)
set_option linter.unusedVariables false

set_option maxHeartbeats 2000000 in
set_option maxRecDepth 100000 in
theorem numbered_any (hi : Nat) (v : Value) (es : List Evt) (w : World) (hr : RdE hi w v es) (hh : hi ≤ w.heap.size) (hsz : ∀ e ∈ es, e.item.size ≤ 1000000) (hlen : es.length ≤ 1000) :
    Calls Tryz.prog 9 #[v] w fun e w' => ∃ v', e = .returned v' ∧ w'.ownsRow w.heap.size 49 7 v' (numF es).length (flE (numF es)) ∧ Below w.heap.size w w' := by
  obtain ⟨a, c, rfl⟩ := hr.shape
  have HR := Lib.hid hr
  have HSZ := Lib.hid hsz
  obtain ⟨i0, hinf, hiz, his, hib⟩ := info_parts info_evt
  clear hr hsz
  go_enter Tryz.func9, Tryz.ntmps9
  go_wp2
  go_loopg [3, 4] es.length (fun kx v3 i wr => ∃ k : Nat, k ≤ es.length ∧ i = .int .i64 k ∧ es.length - k ≤ kx ∧ wr.ownsRow w.heap.size 49 7 v3 (numF (es.take k)).length (flE (numF (es.take k))) ∧ Below w.heap.size w wr)
  case atStart => exact ⟨0, by omega, rfl, by omega, World.ownsRow_nil _ _ _ _, Below.refl _ _⟩
  case round =>
    obtain ⟨k, hk, rfl, hkx, ho, hb⟩ := hrel
    obtain ⟨va, vc, rfl⟩ := own_slice ho
    by_cases hlt : k < es.length
    · have hltz : (k : Int) < (es.length : Int) := by omega
      obtain ⟨b, off, rfl, hbh, h7⟩ := HR.out.seven k hlt
      obtain ⟨c0, c1, c2, c3, c4, c5, c6⟩ := h7 wr (hb.mono hh)
      have H7 := Lib.hid h7
      have HTK : Hid (numF (es.take (k + 1)) = numS (numF (es.take k)) es[k]) := by show _ = _; rw [List.take_succ_eq_append_getElem hlt, numF_snoc]
      have hnl := numF_len (es.take k)
      rw [List.length_take] at hnl
      have hnl2 : (numF (es.take k)).length ≤ 1000 := by omega
      have hs1 := HSZ.out es[k] (List.getElem_mem hlt)
      generalize numF (es.take k) = out at ho HTK hnl2 ⊢
      clear hnl h7
      generalize es[k] = e at c0 c1 c2 c3 c4 c5 c6 H7 HTK hs1
      obtain ⟨evr, hevr⟩ : ∃ evr, evr = e.right := ⟨_, rfl⟩
      have HEV := Lib.hid hevr
      have HRT : Hid (∀ W, Calls Tryz.prog 40 #[e.agg] W (Gives (.bool evr) W)) := Lib.hid (fun W => by rw [hevr]; exact right_any e.id e.item e.kind e.qty e.price e.ofn e.day W hs1)
      clear hevr
      obtain ⟨i, s, kd, q, p, o, d⟩ := e
      simp only [Evt.agg] at HRT
      simp only at c0 c1 c2 c3 c4 c5 c6
      have HO := Lib.hid ho
      have HBR := Lib.hid hb
      clear ho hb
      cases evr with
      | false =>
        go_wp2_with (go_at_call 40; refine (HRT.out _).mono ?_; rintro e w5 ⟨rfl, hb5⟩)
        go_roundg (es.length - (k + 1))
        case measure => omega
        case rel =>
          refine ⟨k + 1, hlt, by first | rfl | go_num | (congr 1; omega), Nat.le_refl _, ?_, HBR.out.step hb5⟩
          rw [HTK.out, numS, if_neg (by rw [← HEV.out]; simp)]
          exact own_below HO.out hb5
      | true =>
        obtain ⟨m, hm⟩ : ∃ m, m = out.length := ⟨_, rfl⟩
        have HM := Lib.hid hm
        rw [← hm] at HO ⊢ hnl2
        clear hm
        go_wp2_with (first
          | (go_at_call 40; refine (HRT.out _).mono ?_; rintro e w5 ⟨rfl, hb5⟩; obtain ⟨c0, c1, c2, c3, c4, c5, c6⟩ := H7.out w5 ((HBR.out.step hb5).mono hh); have ho5 := own_below HO.out hb5; have hbl5 : b < w5.heap.size := cell_blk c0; have hbs5 := (HBR.out.step hb5).size)
          | (at_builtin; refine wpList_append_own _ rfl (.tmp 25) (.tmp 27) 22 rfl w.heap.size 49 i0 (.agg #[.int .i64 0, .string ⟨#[]⟩, .int .i64 0, .int .i64 0, .int .i64 0, .int .i64 0, .int .i64 0]) 7 64 Tryz.underlying22 hinf hiz his hib rfl (by decide) _ m (flE out) rfl ((ho5.alloc _).alloc _) ⟨w5.heap.size + 1, 0, none⟩ 1 1 (Evt.cells ⟨m + 1, s, kd, q, p, o, d⟩) rfl rfl ?cells (one_evt _) (by unfold maxLen; omega) (by omega) (by simp; omega) ?app))
        case cells =>
          intro j u hj
          have := new_evt (w5.alloc (.cells #[.int .i64 (m + 1), .string s, .int .i64 kd, .int .i64 q, .int .i64 p, .int .i64 o, .int .i64 d] 49)) ⟨m + 1, s, kd, q, p, o, d⟩ hj
          rw [World.size_alloc] at this
          exact this
        case app =>
          intro v' w6 ho6 hg6 _
          obtain ⟨xa, xc, rfl⟩ := own_slice ho6
          have hb6 : Below w.heap.size w w6 := (((HBR.out.step hb5).new _).new _).owngrown ((ho5.alloc _).alloc _) hg6
          have HO6 := Lib.hid ho6
          clear ho6 hg6
          go_wp2
          go_roundg (es.length - (k + 1))
          case measure => omega
          case rel =>
            refine ⟨k + 1, hlt, by first | rfl | go_num | (congr 1; omega), Nat.le_refl _, ?_, hb6⟩
            rw [HTK.out, numS, if_pos (by rw [← HEV.out]), flE_snoc, List.length_append]
            have := HO6.out
            rw [HM.out] at this ⊢
            exact this
    · have hltz : ¬ (k : Int) < (es.length : Int) := by omega
      have hke : k = es.length := by omega
      subst hke
      rw [List.take_length] at ho
      have HO := Lib.hid ho
      clear ho
      go_wp2
      go_ret
      refine ⟨_, rfl, ?_, hb⟩
      exact HO.out
end Go.Proofs.YtackpcohmmlkeaaGreatDoor
end

/- CsR: Which items there are; events cloned; layers alike; which event is late. -/
section
namespace Go.Proofs.YtackpcohmmlkeaaGreatDoor
open Go.RowKit
open Go.Maps (Keyed)
set_option linter.unusedVariables false

end Go.Proofs.YtackpcohmmlkeaaGreatDoor
end
