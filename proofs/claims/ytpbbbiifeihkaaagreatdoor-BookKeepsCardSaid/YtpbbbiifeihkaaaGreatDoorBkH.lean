/- book.History: a row of the call's own that holds a number's versions. -/
import Derived.Test.YtpbbbiifeihkaaaGreatDoorBfA
namespace Go.Proofs.YtpbbbiifeihkaaaGreatDoor
open Go.RowKit
open Go.Maps (Keyed)
set_option linter.unusedVariables false

theorem vb_cells {W : World} {b : Nat} {i k q p o d f t : Int} {s : ByteArray} (h : W.heap[b]? = some (.cells #[.int .i64 i, .string s, .int .i64 k, .int .i64 q, .int .i64 p, .int .i64 o, .int .i64 d, .int .i64 f, .int .i64 t] 57 (0, 0))) :
    W.cell? ⟨b, 0, none⟩ = some (.int .i64 i) ∧ W.cell? ⟨b, 1, none⟩ = some (.string s) ∧ W.cell? ⟨b, 2, none⟩ = some (.int .i64 k) ∧ W.cell? ⟨b, 3, none⟩ = some (.int .i64 q) ∧ W.cell? ⟨b, 4, none⟩ = some (.int .i64 p) ∧ W.cell? ⟨b, 5, none⟩ = some (.int .i64 o) ∧ W.cell? ⟨b, 6, none⟩ = some (.int .i64 d) ∧ W.cell? ⟨b, 7, none⟩ = some (.int .i64 f) ∧ W.cell? ⟨b, 8, none⟩ = some (.int .i64 t) := by
  refine ⟨?_, ?_, ?_, ?_, ?_, ?_, ?_, ?_, ?_⟩ <;> simp [World.cell?, h]
set_option maxHeartbeats 2000000 in
set_option maxRecDepth 100000 in
theorem history_any (B : Nat) (b : Bk) (id : Int) (w : World) (h : BkW w B b) (hlen : b.l.length ≤ 1000) :
    Calls Tryz.prog 15 #[.pointer (some ⟨B, 0, none⟩), .int .i64 id] w fun e w' => ∃ v, e = .returned v ∧ w'.ownsRow w.heap.size 57 9 v (b.l.filter (·.ev.id == id)).length (flV (b.l.filter (·.ev.id == id))) ∧ Below w.heap.size w w' := by
  obtain ⟨v0, c0, h2⟩ := h.row
  obtain ⟨a, c, rfl⟩ := own_slice h2
  have hR := rdV_of_own h2
  obtain ⟨i0, hinf, hiz, his, hib⟩ := info_parts info_ver
  obtain ⟨ls, t, nx⟩ := b
  simp only at hR hlen c0
  have HR : Aside (RdV w a ls) := hR
  clear h h2 hR
  go_enter Tryz.func15, Tryz.ntmps15
  go_wp2_with fail
  go_loopg [5, 13] ls.length (fun kx v i wr => ∃ k : Nat, k ≤ ls.length ∧ i = .int .i64 k ∧ ls.length - k ≤ kx ∧ Below w.heap.size w wr ∧ Aside (wr.ownsRow w.heap.size 57 9 v ((ls.take k).filter (·.ev.id == id)).length (flV ((ls.take k).filter (·.ev.id == id)))))
  case atStart => exact ⟨0, Nat.zero_le _, rfl, by omega, Below.refl _ _, World.ownsRow_nil _ _ _ _⟩
  case round =>
    obtain ⟨k, hk, rfl, hkx, hb, HO⟩ := hrel
    by_cases hlt : k < ls.length
    · have hltz : (k : Int) < (ls.length : Int) := by omega
      obtain ⟨g, off, rfl, -, p0, p1, p2, p3, p4, p5, p6, p7, p8⟩ := (HR.out.below hb).nine k hlt
      obtain ⟨x, hx⟩ : ∃ x, x = ls[k] := ⟨_, rfl⟩
      rw [← hx] at p0 p1 p2 p3 p4 p5 p6 p7 p8
      have HTK : Hid (ls.take (k + 1) = ls.take k ++ [x]) := by show _ = _; rw [List.take_succ_eq_append_getElem hlt, hx]
      have hbx := hb.new (Ver.ob x)
      have hln : ((ls.take k).filter (·.ev.id == id)).length ≤ 1000 := by
        have h1 := List.length_filter_le (fun v : Ver => v.ev.id == id) (ls.take k)
        rw [List.length_take] at h1
        omega
      have hO5 := own_below HO.out ((Below.refl _ wr).new (Ver.ob x))
      have hz5 := hbx.size
      obtain ⟨M, hM⟩ : ∃ M, M = (ls.take k).filter (·.ev.id == id) := ⟨_, rfl⟩
      rw [← hM] at hln hO5
      have HM := Lib.hid hM
      have HX := Lib.hid hx
      have HO5 : Aside _ := hO5
      clear hx hM HO hO5
      by_cases e1 : x.ev.id = id
      · have e1b : (x.ev.id == id) = true := by simpa using e1
        have hfl : Hid ((ls.take (k + 1)).filter (·.ev.id == id) = M ++ [x]) := by show _ = _; rw [HTK.out, List.filter_append, ← HM.out]; simp [e1]
        obtain ⟨⟨xi, xs, xk, xq, xp, xo, xd⟩, xf, xt⟩ := x
        simp only at p0 p1 p2 p3 p4 p5 p6 p7 p8 e1b
        clear e1
        go_upto_region 6 with fail
        have hcl := World.alloc_heap_new wr (Ver.ob ⟨⟨xi, xs, xk, xq, xp, xo, xd⟩, xf, xt⟩)
        generalize wr.alloc (Ver.ob ⟨⟨xi, xs, xk, xq, xp, xo, xd⟩, xf, xt⟩) = W5 at hbx HO5 hz5 hcl ⊢
        obtain ⟨d0, d1, d2, d3, d4, d5, d6, d7, d8⟩ := vb_cells hcl
        clear hcl
        go_wp2_with (first
          | (at_builtin; refine app_one (w := W5) rfl (.tmp 22) (.tmp 24) 42 rfl w.heap.size 57 i0 (.agg #[.int .i64 0, .string ⟨#[]⟩, .int .i64 0, .int .i64 0, .int .i64 0, .int .i64 0, .int .i64 0, .int .i64 0, .int .i64 0]) 9 80 Tryz.underlying42 hinf hiz his hib rfl (by decide) _ _ _ HO5.out rfl (Ver.cells ⟨⟨xi, xs, xk, xq, xp, xo, xd⟩, xf, xt⟩) rfl rfl (one_ver _) (by unfold maxLen; omega) (by omega) hz5 ?_; intro v2 w2 hown2 hg2))
        have hb2 := hbx.owngrown HO5.out hg2
        go_roundg (ls.length - (k + 1))
        case measure => omega
        case rel =>
          refine ⟨k + 1, hlt, by first | rfl | go_num | (congr 1; omega), Nat.le_refl _, hb2, (show Aside _ from ?_)⟩
          rw [hfl.out]
          show World.ownsRow _ _ _ _ _ _ _
          rw [List.length_append, show flV (M ++ [(⟨⟨xi, xs, xk, xq, xp, xo, xd⟩, xf, xt⟩ : Ver)]) = flV M ++ Ver.cells ⟨⟨xi, xs, xk, xq, xp, xo, xd⟩, xf, xt⟩ by simp [flV, flK]]
          exact hown2
      · have e1b : (x.ev.id == id) = false := by simpa using e1
        have hfl : Hid ((ls.take (k + 1)).filter (·.ev.id == id) = M) := by show _ = _; rw [HTK.out, List.filter_append, ← HM.out]; simp [e1]
        obtain ⟨⟨xi, xs, xk, xq, xp, xo, xd⟩, xf, xt⟩ := x
        simp only at p0 p1 p2 p3 p4 p5 p6 p7 p8 e1b
        clear e1
        go_wp2_with fail
        go_roundg (ls.length - (k + 1))
        case measure => omega
        case rel =>
          refine ⟨k + 1, hlt, by first | rfl | go_num | (congr 1; omega), Nat.le_refl _, hbx, (show Aside _ from ?_)⟩
          rw [hfl.out]
          exact HO5.out
    · have hltz : ¬ (k : Int) < (ls.length : Int) := by omega
      have hke : k = ls.length := by omega
      subst hke
      have hO := HO.out
      rw [List.take_length] at hO
      have HO2 := Lib.hid hO
      clear hO HO
      go_wp2_with fail
      go_ret
      exact ⟨_, rfl, HO2.out, hb⟩
end Go.Proofs.YtpbbbiifeihkaaaGreatDoor
