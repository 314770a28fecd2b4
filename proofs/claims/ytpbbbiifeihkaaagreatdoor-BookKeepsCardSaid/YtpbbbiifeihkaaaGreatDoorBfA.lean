/- tallymanref.Book: what it holds; known, History, As. -/
import Derived.Test.YtpbbbiifeihkaaaGreatDoorBkU
import Derived.Test.YtpbbbiifeihkaaaGreatDoorSrP
import Derived.Test.YtpbbbiifeihkaaaGreatDoorRefIn
namespace Go.Proofs.YtpbbbiifeihkaaaGreatDoor
open Go.RowKit
open Go.Maps (Keyed)
set_option linter.unusedVariables false

abbrev Ver.obF (v : Ver) : Obj := .cells #[.int .i64 v.ev.id, .string v.ev.item, .int .i64 v.ev.kind, .int .i64 v.ev.qty, .int .i64 v.ev.price, .int .i64 v.ev.ofn, .int .i64 v.ev.day, .int .i64 v.frm, .int .i64 v.to] 59
theorem info_vf : (Tryz.prog.info? 59).map (fun i => (i.zero, i.size, i.bytes)) = some (some (.agg #[.int .i64 0, .string ⟨#[]⟩, .int .i64 0, .int .i64 0, .int .i64 0, .int .i64 0, .int .i64 0, .int .i64 0, .int .i64 0]), 9, 80) := by kernel_rfl
/-- The document's book at block B. -/
structure FW (w : World) (B : Nat) (b : Bk) : Prop where
  row : ∃ a c, w.heap[B]? = some (.cells #[.slice a b.l.length c, .int .i64 b.turn, .int .i64 b.next] 48 (0, 0)) ∧ w.ownsRow (B + 1) 59 9 (.slice a b.l.length c) b.l.length (flV b.l)
theorem FW.below {w w' : World} {B : Nat} {b : Bk} (h : FW w B b) (hb : Below w.heap.size w w') : FW w' B b := by
  obtain ⟨a, c, h1, h2⟩ := h.row
  exact ⟨a, c, (hb.block B (Array.getElem?_eq_some_iff.1 h1).1).trans h1, own_below h2 hb⟩
theorem fb_cells {W : World} {B : Nat} {v : Value} {t n : Int} (h : W.heap[B]? = some (.cells #[v, .int .i64 t, .int .i64 n] 48 (0, 0))) :
    W.cell? ⟨B, 0, none⟩ = some v ∧ W.cell? ⟨B, 1, none⟩ = some (.int .i64 t) ∧ W.cell? ⟨B, 2, none⟩ = some (.int .i64 n) ∧ W.frozen? ⟨B, 0, none⟩ = false ∧ W.frozen? ⟨B, 1, none⟩ = false ∧ W.frozen? ⟨B, 2, none⟩ = false := by
  refine ⟨?_, ?_, ?_, ?_, ?_, ?_⟩ <;> simp [World.cell?, World.frozen?, h]
theorem vf_cells {W : World} {b : Nat} {i k q p o d f t : Int} {s : ByteArray} (h : W.heap[b]? = some (.cells #[.int .i64 i, .string s, .int .i64 k, .int .i64 q, .int .i64 p, .int .i64 o, .int .i64 d, .int .i64 f, .int .i64 t] 59 (0, 0))) :
    W.cell? ⟨b, 0, none⟩ = some (.int .i64 i) ∧ W.cell? ⟨b, 1, none⟩ = some (.string s) ∧ W.cell? ⟨b, 2, none⟩ = some (.int .i64 k) ∧ W.cell? ⟨b, 3, none⟩ = some (.int .i64 q) ∧ W.cell? ⟨b, 4, none⟩ = some (.int .i64 p) ∧ W.cell? ⟨b, 5, none⟩ = some (.int .i64 o) ∧ W.cell? ⟨b, 6, none⟩ = some (.int .i64 d) ∧ W.cell? ⟨b, 7, none⟩ = some (.int .i64 f) ∧ W.cell? ⟨b, 8, none⟩ = some (.int .i64 t) := by
  refine ⟨?_, ?_, ?_, ?_, ?_, ?_, ?_, ?_, ?_⟩ <;> simp [World.cell?, h]
theorem rdF_of_own {w : World} {base n : Nat} {xa : Option Addr} {xc : Nat} {ls : List Ver} (h : w.ownsRow base 59 9 (.slice xa n xc) n (flV ls)) : RdV w xa ls := fun k hk => by
  have hl := flK_len ver_len ls
  rcases h.2 with ⟨-, h0⟩ | ⟨g, cap, cur, e1, hB, hc, hn, hm, hs, ht⟩
  · rw [h.1, h0] at hl; omega
  injection e1 with e1
  subst e1
  refine ⟨g, 0, rfl, (Array.getElem?_eq_some_iff.1 hc).1, fun j u hu => ?_⟩
  have hj : j < 9 := (List.getElem?_eq_some_iff.1 hu).1
  have h1 := flK_get ver_len ls k hk j hj
  have hlt : k * 9 + j < n * 9 := by rw [← h.1, hl]; omega
  rw [show flK Ver.cells ls = flV ls from rfl, hu, ← ht, List.getElem?_take_of_lt hlt, Array.getElem?_toList] at h1
  simp only [World.cell?, hc, Nat.zero_add]
  simpa using h1
theorem RdV.nine {w : World} {a : Option Addr} {ls : List Ver} (h : RdV w a ls) (k : Nat) (hk : k < ls.length) : ∃ b off, a = some ⟨b, off, none⟩ ∧ b < w.heap.size ∧
    w.cell? ⟨b, off + k * 9, none⟩ = some (.int .i64 ls[k].ev.id) ∧ w.cell? ⟨b, off + k * 9 + 1, none⟩ = some (.string ls[k].ev.item) ∧ w.cell? ⟨b, off + k * 9 + 2, none⟩ = some (.int .i64 ls[k].ev.kind) ∧ w.cell? ⟨b, off + k * 9 + 3, none⟩ = some (.int .i64 ls[k].ev.qty) ∧ w.cell? ⟨b, off + k * 9 + 4, none⟩ = some (.int .i64 ls[k].ev.price) ∧
    w.cell? ⟨b, off + k * 9 + 5, none⟩ = some (.int .i64 ls[k].ev.ofn) ∧ w.cell? ⟨b, off + k * 9 + 6, none⟩ = some (.int .i64 ls[k].ev.day) ∧ w.cell? ⟨b, off + k * 9 + 7, none⟩ = some (.int .i64 ls[k].frm) ∧ w.cell? ⟨b, off + k * 9 + 8, none⟩ = some (.int .i64 ls[k].to) := by
  obtain ⟨b, off, h1, h2, h3⟩ := h k hk
  exact ⟨b, off, h1, h2, h3 0 _ rfl, h3 1 _ rfl, h3 2 _ rfl, h3 3 _ rfl, h3 4 _ rfl, h3 5 _ rfl, h3 6 _ rfl, h3 7 _ rfl, h3 8 _ rfl⟩
set_option maxHeartbeats 2000000 in
set_option maxRecDepth 100000 in
theorem known_any (B : Nat) (b : Bk) (id : Int) (w : World) (h : FW w B b) (hlen : b.l.length ≤ 1000) :
    Calls Tryz.prog 83 #[.pointer (some ⟨B, 0, none⟩), .int .i64 id] w fun e w' => e = .returned (.int .i64 (liveZ b id)) ∧ Below w.heap.size w w' := by
  obtain ⟨a, c, h1, h2⟩ := h.row
  have hR := rdF_of_own h2
  have HF := Lib.hid (fun z => liveZ_first (b := b) (id := id) (z := z))
  generalize liveZ b id = Z at HF ⊢
  obtain ⟨c0, c1, c2, -⟩ := fb_cells h1
  obtain ⟨ls, t, nx⟩ := b
  simp only at hR hlen HF c0 c1 c2
  have HR : Aside (RdV w a ls) := hR
  clear h h1 h2 hR
  go_enter Tryz.func83, Tryz.ntmps83
  go_wp2_with fail
  go_loopg [12] ls.length (fun kx i wr => ∃ k : Nat, k ≤ ls.length ∧ i = .int .i64 k ∧ ls.length - k ≤ kx ∧ Below w.heap.size w wr ∧ Hid (∀ j (hj : j < ls.length), j < k → isLive id ls[j] = false))
  case atStart => exact ⟨0, Nat.zero_le _, rfl, by omega, Below.refl _ _, fun j _ hj => absurd hj (by omega)⟩
  case round =>
    obtain ⟨k, hk, rfl, hkx, hb, HN⟩ := hrel
    by_cases hlt : k < ls.length
    · have hltz : (k : Int) < (ls.length : Int) := by omega
      obtain ⟨g, off, rfl, -, p0, p1, p2, p3, p4, p5, p6, p7, p8⟩ := (HR.out.below hb).nine k hlt
      obtain ⟨x, hx⟩ : ∃ x, x = ls[k] := ⟨_, rfl⟩
      rw [← hx] at p0 p1 p2 p3 p4 p5 p6 p7 p8
      have HX := Lib.hid hx
      clear hx
      have hbx := hb.new (Ver.obF x)
      have hnext : isLive id x = false → Hid (∀ j (hj : j < ls.length), j < k + 1 → isLive id ls[j] = false) := fun hf j hj hjk => by
        by_cases e : j = k
        · subst e; rw [← HX.out]; exact hf
        · exact HN.out j hj (by omega)
      have HNX := Lib.hid hnext
      have hhit : isLive id x = true → Z = k := fun ht => ((HF.out k (.inr ⟨k, hlt, rfl, by rw [← HX.out]; exact ht, fun j hj => HN.out j (by omega) hj⟩))).symm
      have HHIT := Lib.hid hhit
      clear hnext hhit HN HX
      obtain ⟨⟨xi, xs, xk, xq, xp, xo, xd⟩, xf, xt⟩ := x
      simp only at p0 p1 p2 p3 p4 p5 p6 p7 p8
      by_cases e1 : xi = id
      · have e1b : (xi == id) = true := by simpa using e1
        by_cases e2 : xt = 0
        · have e2b : (xt == 0) = true := by simpa using e2
          have hz := HHIT.out (by simp [isLive, e1, e2])
          subst hz
          clear e1 e2
          go_wp2_with fail
          go_ret
          exact ⟨rfl, hbx⟩
        · have e2b : (xt == 0) = false := by simpa using e2
          have hf := HNX.out (by simp [isLive, e2])
          clear e1 e2
          go_wp2_with fail
          go_roundg (ls.length - (k + 1))
          case measure => omega
          case rel => exact ⟨k + 1, hlt, by first | rfl | go_num | (congr 1; omega), Nat.le_refl _, hbx, hf⟩
      · have e1b : (xi == id) = false := by simpa using e1
        have hf := HNX.out (by simp [isLive, e1])
        clear e1
        go_wp2_with fail
        go_roundg (ls.length - (k + 1))
        case measure => omega
        case rel => exact ⟨k + 1, hlt, by first | rfl | go_num | (congr 1; omega), Nat.le_refl _, hbx, hf⟩
    · have hltz : ¬ (k : Int) < (ls.length : Int) := by omega
      have hz : Z = -1 := (HF.out (-1) (.inl ⟨rfl, fun x hx => by
        obtain ⟨j, hj, rfl⟩ := List.getElem_of_mem hx
        exact HN.out j hj (by omega)⟩)).symm
      subst hz
      go_wp2_with fail
      go_ret
      exact ⟨rfl, hb⟩
set_option maxHeartbeats 2000000 in
set_option maxRecDepth 100000 in
theorem refHistory_any (B : Nat) (b : Bk) (id : Int) (w : World) (h : FW w B b) (hlen : b.l.length ≤ 1000) :
    Calls Tryz.prog 16 #[.pointer (some ⟨B, 0, none⟩), .int .i64 id] w fun e w' => ∃ v, e = .returned v ∧ w'.ownsRow w.heap.size 59 9 v (b.l.filter (·.ev.id == id)).length (flV (b.l.filter (·.ev.id == id))) ∧ Below w.heap.size w w' := by
  obtain ⟨a, c, h1, h2⟩ := h.row
  have hR := rdF_of_own h2
  obtain ⟨i0, hinf, hiz, his, hib⟩ := info_parts info_vf
  obtain ⟨c0, c1, c2, -⟩ := fb_cells h1
  obtain ⟨ls, t, nx⟩ := b
  simp only at hR hlen c0 c1 c2
  have HR : Aside (RdV w a ls) := hR
  clear h h1 h2 hR
  go_enter Tryz.func16, Tryz.ntmps16
  go_wp2_with fail
  go_loopg [5, 13] ls.length (fun kx v i wr => ∃ k : Nat, k ≤ ls.length ∧ i = .int .i64 k ∧ ls.length - k ≤ kx ∧ Below w.heap.size w wr ∧ Aside (wr.ownsRow w.heap.size 59 9 v ((ls.take k).filter (·.ev.id == id)).length (flV ((ls.take k).filter (·.ev.id == id)))))
  case atStart => exact ⟨0, Nat.zero_le _, rfl, by omega, Below.refl _ _, World.ownsRow_nil _ _ _ _⟩
  case round =>
    obtain ⟨k, hk, rfl, hkx, hb, HO⟩ := hrel
    by_cases hlt : k < ls.length
    · have hltz : (k : Int) < (ls.length : Int) := by omega
      obtain ⟨g, off, rfl, -, p0, p1, p2, p3, p4, p5, p6, p7, p8⟩ := (HR.out.below hb).nine k hlt
      obtain ⟨x, hx⟩ : ∃ x, x = ls[k] := ⟨_, rfl⟩
      rw [← hx] at p0 p1 p2 p3 p4 p5 p6 p7 p8
      have HTK : Hid (ls.take (k + 1) = ls.take k ++ [x]) := by show _ = _; rw [List.take_succ_eq_append_getElem hlt, hx]
      have hbx := hb.new (Ver.obF x)
      have hln : ((ls.take k).filter (·.ev.id == id)).length ≤ 1000 := by
        have h1 := List.length_filter_le (fun v : Ver => v.ev.id == id) (ls.take k)
        rw [List.length_take] at h1
        omega
      have hO5 := own_below HO.out ((Below.refl _ wr).new (Ver.obF x))
      have hz5 := hbx.size
      obtain ⟨M, hM⟩ : ∃ M, M = (ls.take k).filter (·.ev.id == id) := ⟨_, rfl⟩
      rw [← hM] at hln hO5
      have HM := Lib.hid hM
      have HX := Lib.hid hx
      have HO5 : Aside _ := hO5
      clear hx hM HO hO5
      by_cases e1 : x.ev.id = id
      · have e1b : (x.ev.id == id) = true := by simpa using e1
        have hfl : Hid ((ls.take (k + 1)).filter (·.ev.id == id) = M ++ [x]) := by show _ = _; rw [HTK.out, List.filter_append, ← HM.out]; simp [e1]
        obtain ⟨⟨xi, xs, xk, xq, xp, xo, xd⟩, xf, xt⟩ := x
        simp only at p0 p1 p2 p3 p4 p5 p6 p7 p8 e1b
        clear e1
        go_upto_region 6 with fail
        have hcl := World.alloc_heap_new wr (Ver.obF ⟨⟨xi, xs, xk, xq, xp, xo, xd⟩, xf, xt⟩)
        generalize wr.alloc (Ver.obF ⟨⟨xi, xs, xk, xq, xp, xo, xd⟩, xf, xt⟩) = W5 at hbx HO5 hz5 hcl ⊢
        obtain ⟨d0, d1, d2, d3, d4, d5, d6, d7, d8⟩ := vf_cells hcl
        clear hcl
        go_wp2_with (first
          | (at_builtin; refine app_one (w := W5) rfl (.tmp 22) (.tmp 24) 46 rfl w.heap.size 59 i0 (.agg #[.int .i64 0, .string ⟨#[]⟩, .int .i64 0, .int .i64 0, .int .i64 0, .int .i64 0, .int .i64 0, .int .i64 0, .int .i64 0]) 9 80 Tryz.underlying46 hinf hiz his hib rfl (by decide) _ _ _ HO5.out rfl (Ver.cells ⟨⟨xi, xs, xk, xq, xp, xo, xd⟩, xf, xt⟩) rfl rfl (one_ver _) (by unfold maxLen; omega) (by omega) hz5 ?_; intro v2 w2 hown2 hg2))
        have hb2 := hbx.owngrown HO5.out hg2
        go_roundg (ls.length - (k + 1))
        case measure => omega
        case rel =>
          refine ⟨k + 1, hlt, by first | rfl | go_num | (congr 1; omega), Nat.le_refl _, hb2, (show Aside _ from ?_)⟩
          rw [hfl.out]
          show World.ownsRow _ _ _ _ _ _ _
          rw [List.length_append, show flV (M ++ [(⟨⟨xi, xs, xk, xq, xp, xo, xd⟩, xf, xt⟩ : Ver)]) = flV M ++ Ver.cells ⟨⟨xi, xs, xk, xq, xp, xo, xd⟩, xf, xt⟩ by simp [flV, flK]]
          exact hown2
      · have e1b : (x.ev.id == id) = false := by simpa using e1
        have hfl : Hid ((ls.take (k + 1)).filter (·.ev.id == id) = M) := by show _ = _; rw [HTK.out, List.filter_append, ← HM.out]; simp [e1]
        obtain ⟨⟨xi, xs, xk, xq, xp, xo, xd⟩, xf, xt⟩ := x
        simp only at p0 p1 p2 p3 p4 p5 p6 p7 p8 e1b
        clear e1
        go_wp2_with fail
        go_roundg (ls.length - (k + 1))
        case measure => omega
        case rel =>
          refine ⟨k + 1, hlt, by first | rfl | go_num | (congr 1; omega), Nat.le_refl _, hbx, (show Aside _ from ?_)⟩
          rw [hfl.out]
          exact HO5.out
    · have hltz : ¬ (k : Int) < (ls.length : Int) := by omega
      have hke : k = ls.length := by omega
      subst hke
      have hO := HO.out
      rw [List.take_length] at hO
      have HO2 := Lib.hid hO
      clear hO HO
      go_wp2_with fail
      go_ret
      exact ⟨_, rfl, HO2.out, hb⟩
end Go.Proofs.YtpbbbiifeihkaaaGreatDoor
