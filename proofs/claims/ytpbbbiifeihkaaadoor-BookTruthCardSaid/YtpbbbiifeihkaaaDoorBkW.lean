/- A book in memory: its three cells, its versions; what a call on it may turn. -/
import Derived.Test.YtpbbbiifeihkaaaDoorBkP
import Derived.Test.YtpbbbiifeihkaaaDoorRowM
import Derived.Test.YtpbbbiifeihkaaaDoorSince
import Derived.Deep.LoopGhost
namespace Go.Proofs.YtpbbbiifeihkaaaDoor
open Go.RowKit
set_option linter.unusedVariables false

def Ver.cells (v : Ver) : List Value := [.int .i64 v.ev.id, .string v.ev.item, .int .i64 v.ev.kind, .int .i64 v.ev.qty, .int .i64 v.ev.price, .int .i64 v.ev.ofn, .int .i64 v.ev.day, .int .i64 v.frm, .int .i64 v.to]
abbrev Ver.agg (v : Ver) : Value := .agg #[.int .i64 v.ev.id, .string v.ev.item, .int .i64 v.ev.kind, .int .i64 v.ev.qty, .int .i64 v.ev.price, .int .i64 v.ev.ofn, .int .i64 v.ev.day, .int .i64 v.frm, .int .i64 v.to]
abbrev Ver.ob (v : Ver) : Obj := .cells #[.int .i64 v.ev.id, .string v.ev.item, .int .i64 v.ev.kind, .int .i64 v.ev.qty, .int .i64 v.ev.price, .int .i64 v.ev.ofn, .int .i64 v.ev.day, .int .i64 v.frm, .int .i64 v.to] 54
theorem ver_len (v : Ver) : v.cells.length = 9 := rfl
theorem one_ver (v : Ver) : ∀ u ∈ v.cells, u.oneCell' = true := by
  intro u hu
  simp only [Ver.cells, List.mem_cons, List.not_mem_nil, or_false] at hu
  rcases hu with rfl | rfl | rfl | rfl | rfl | rfl | rfl | rfl | rfl <;> rfl
abbrev flV (l : List Ver) : List Value := flK Ver.cells l
theorem info_ver : (Tryd.prog.info? 54).map (fun i => (i.zero, i.size, i.bytes)) = some (some (.agg #[.int .i64 0, .string ⟨#[]⟩, .int .i64 0, .int .i64 0, .int .i64 0, .int .i64 0, .int .i64 0, .int .i64 0, .int .i64 0]), 9, 80) := by kernel_rfl
/-- A book at block B. -/
structure BkW (w : World) (B : Nat) (b : Bk) : Prop where
  c1 : w.cell? ⟨B, 1, none⟩ = some (.int .i64 b.turn)
  c2 : w.cell? ⟨B, 2, none⟩ = some (.int .i64 b.next)
  fz : ∀ j, w.frozen? ⟨B, j, none⟩ = false
  row : ∃ v, w.cell? ⟨B, 0, none⟩ = some v ∧ w.ownsRow (B + 1) 54 9 v b.l.length (flV b.l)
  nt : ∃ cur t fz, w.heap[B]? = some (.cells cur t fz) ∧ t ≠ 54
/-- What a call on the book at B may turn: its first three cells, and blocks of versions. -/
structure Ch (B : Nat) (w w' : World) : Prop where
  os : w'.os = w.os
  tape : w'.tape = w.tape
  output : w'.output = w.output
  size : w.heap.size ≤ w'.heap.size
  block : ∀ k o, w.heap[k]? = some o → k ≠ B → (∀ cur fz, o ≠ .cells cur 54 fz) → w'.heap[k]? = some o
  far : ∀ o, 3 ≤ o → w'.cell? ⟨B, o, none⟩ = w.cell? ⟨B, o, none⟩
  frz : ∀ o, w'.frozen? ⟨B, o, none⟩ = w.frozen? ⟨B, o, none⟩
  low : ∀ k, k < B → w'.heap[k]? = w.heap[k]?
theorem Ch.refl (B : Nat) (w : World) : Ch B w w := ⟨rfl, rfl, rfl, Nat.le_refl _, fun _ _ h _ _ => h, fun _ _ => rfl, fun _ => rfl, fun _ _ => rfl⟩
theorem Ch.trans {B : Nat} {a b c : World} (h : Ch B a b) (k : Ch B b c) : Ch B a c :=
  ⟨k.os.trans h.os, k.tape.trans h.tape, k.output.trans h.output, Nat.le_trans h.size k.size, fun i o h1 h2 h3 => k.block i o (h.block i o h1 h2 h3) h2 h3, fun o ho => (k.far o ho).trans (h.far o ho), fun o => (k.frz o).trans (h.frz o), fun i hi => (k.low i hi).trans (h.low i hi)⟩
theorem Ch.of_below {B : Nat} {w w' : World} (h : Below w.heap.size w w') (hB : B < w.heap.size) : Ch B w w' :=
  ⟨h.os, h.tape, h.output, h.size, fun k o h1 _ _ => (h.block k (Array.getElem?_eq_some_iff.1 h1).1).trans h1, fun o _ => h.cell (p := ⟨B, o, none⟩) hB, fun o => h.frozen (p := ⟨B, o, none⟩) hB, fun k hk => h.block k (by omega)⟩
theorem Ch.cellLow {B : Nat} {w w' : World} (h : Ch B w w') {g j : Nat} (hg : g < B) : w'.cell? ⟨g, j, none⟩ = w.cell? ⟨g, j, none⟩ := by simp only [World.cell?, h.low g hg]
theorem Ch.own {B base e size n : Nat} {w w' : World} {v : Value} {xs : List Value} (h : w.ownsRow base e size v n xs) (hc : Ch B w w') (hB : B < base) (he : e ≠ 54) : w'.ownsRow base e size v n xs := by
  refine ⟨h.1, ?_⟩
  rcases h.2 with h0 | ⟨g, cap, cur, e1, h2, h3, h4⟩
  · exact .inl h0
  · refine .inr ⟨g, cap, cur, e1, h2, hc.block g _ h3 (by omega) (fun cu fz e2 => ?_), h4⟩
    injection e2 with _ e2
    exact he e2
theorem BkW.lt {w : World} {B : Nat} {b : Bk} (h : BkW w B b) : B < w.heap.size := cell_lt h.c1
theorem BkW.below {w w' : World} {B : Nat} {b : Bk} (h : BkW w B b) (hb : Below w.heap.size w w') : BkW w' B b := by
  have hl := h.lt
  obtain ⟨v, h1, h2⟩ := h.row
  refine ⟨(hb.cell (p := ⟨B, 1, none⟩) hl).trans h.c1, (hb.cell (p := ⟨B, 2, none⟩) hl).trans h.c2, fun j => (hb.frozen (p := ⟨B, j, none⟩) hl).trans (h.fz j), ⟨v, (hb.cell (p := ⟨B, 0, none⟩) hl).trans h1, own_below h2 hb⟩, ?_⟩
  obtain ⟨cur, t, fz, e1, e2⟩ := h.nt
  exact ⟨cur, t, fz, (hb.block B hl).trans e1, e2⟩
/-- Versions, for reading. -/
def RdV (w : World) (a : Option Addr) (ls : List Ver) : Prop := ∀ k (hk : k < ls.length), ∃ b off, a = some ⟨b, off, none⟩ ∧ b < w.heap.size ∧ ∀ j u, ls[k].cells[j]? = some u → w.cell? ⟨b, off + k * 9 + j, none⟩ = some u
theorem RdV.below {w w' : World} {a : Option Addr} {ls : List Ver} (h : RdV w a ls) (hb : Below w.heap.size w w') : RdV w' a ls := fun k hk => by
  obtain ⟨b, off, h1, h2, h3⟩ := h k hk
  exact ⟨b, off, h1, Nat.lt_of_lt_of_le h2 hb.size, fun j u hu => (hb.cell (p := ⟨b, off + k * 9 + j, none⟩) h2).trans (h3 j u hu)⟩
theorem rdV_of_own {w : World} {base n : Nat} {xa : Option Addr} {xc : Nat} {ls : List Ver} (h : w.ownsRow base 54 9 (.slice xa n xc) n (flV ls)) : RdV w xa ls := fun k hk => by
  have hl := flK_len ver_len ls
  rcases h.2 with ⟨-, h0⟩ | ⟨g, cap, cur, e1, hB, hc, hn, hm, hs, ht⟩
  · rw [h.1, h0] at hl; omega
  injection e1 with e1
  subst e1
  refine ⟨g, 0, rfl, (Array.getElem?_eq_some_iff.1 hc).1, fun j u hu => ?_⟩
  have hj : j < 9 := (List.getElem?_eq_some_iff.1 hu).1
  have h1 := flK_get ver_len ls k hk j hj
  have hlt : k * 9 + j < n * 9 := by rw [← h.1, hl]; omega
  rw [show flK Ver.cells ls = flV ls from rfl, hu, ← ht, List.getElem?_take_of_lt hlt, Array.getElem?_toList] at h1
  simp only [World.cell?, hc, Nat.zero_add]
  simpa using h1
def FirstV (p : Ver → Bool) (es : List Ver) (z : Int) : Prop := (z = -1 ∧ ∀ x ∈ es, p x = false) ∨ ∃ k : Nat, ∃ hk : k < es.length, z = k ∧ p es[k] = true ∧ ∀ j (hj : j < k), p es[j] = false
set_option maxHeartbeats 1000000 in
set_option maxRecDepth 100000 in
theorem indexV_any (g : Nat) (cb : Array Value) (p : Ver → Bool) (a : Option Addr) (c : Nat) (es : List Ver) (w : World) (hr : RdV w a es) (hlen : es.length ≤ 1000) (eg : ∀ args w, (callFunc g args).run Tryd.prog w = .ok (.enter g args) w)
    (hf : ∀ e ∈ es, ∀ W, Below w.heap.size w W → Calls Tryd.prog g (#[e.agg] ++ cb) W fun x w' => x = .returned (.bool (p e)) ∧ Below W.heap.size W w') :
    Calls Tryd.prog 41 #[.slice a es.length c, .func (.func g) #[] cb] w fun e w' => ∃ z, e = .returned (.int .i64 z) ∧ FirstV p es z ∧ Below w.heap.size w w' := by
  have HR := Lib.hid hr
  have HF := Lib.hid hf
  clear hr hf
  go_enter Tryd.func41, Tryd.ntmps41
  go_wp2
  go_loopg [8] es.length (fun kx i wr => ∃ k : Nat, k ≤ es.length ∧ i = .int .i64 k ∧ es.length - k ≤ kx ∧ Hid (∀ j (hj : j < k) (h2 : j < es.length), p es[j] = false) ∧ Below w.heap.size w wr)
  case atStart => exact ⟨0, by omega, rfl, by omega, fun j hj => absurd hj (by omega), Below.refl _ _⟩
  case round =>
    obtain ⟨k, hk, rfl, hkx, HN, hb⟩ := hrel
    by_cases hlt : k < es.length
    · have hltz : (k : Int) < (es.length : Int) := by omega
      obtain ⟨b, off, rfl, hbh, h7⟩ := (HR.out.below hb) k hlt
      have c0 := h7 0 _ rfl
      have c1 := h7 1 _ rfl
      have c2 := h7 2 _ rfl
      have c3 := h7 3 _ rfl
      have c4 := h7 4 _ rfl
      have c5 := h7 5 _ rfl
      have c6 := h7 6 _ rfl
      have c7 := h7 7 _ rfl
      have c8 := h7 8 _ rfl
      rw [Nat.add_zero] at c0
      obtain ⟨e, he⟩ : ∃ e, e = es[k] := ⟨_, rfl⟩
      have HC := Lib.hid (HF.out e (by rw [he]; exact List.getElem_mem hlt) wr hb)
      rw [← he] at c0 c1 c2 c3 c4 c5 c6 c7 c8
      have HE := Lib.hid he
      clear h7 he
      simp only [Ver.agg] at HC
      cases hp : p e with
      | true =>
        have HPE := Lib.hid hp
        rw [hp] at HC
        clear hp
        go_wp2_with (go_at_fn g; refine HC.out.mono ?_; rintro e w2 ⟨rfl, hb2⟩)
        (try simp only [Exit.inBlock, Exit.then])
        refine bodyPost_ret (results_tmp rfl _ _ _) rfl ?_
        exact ⟨_, rfl, .inr ⟨k, hlt, rfl, by rw [← HE.out]; exact HPE.out, fun j hj => HN.out j hj (by omega)⟩, hb.step hb2⟩
      | false =>
        have HPE := Lib.hid hp
        rw [hp] at HC
        clear hp
        go_wp2_with (go_at_fn g; refine HC.out.mono ?_; rintro e w2 ⟨rfl, hb2⟩)
        go_roundg (es.length - (k + 1))
        case measure => omega
        case rel =>
          refine ⟨k + 1, hlt, by first | rfl | go_num | (congr 1; omega), Nat.le_refl _, (show Hid _ from fun j hj h2 => ?_), hb.step hb2⟩
          by_cases hjk : j = k
          · subst hjk; rw [← HE.out]; exact HPE.out
          · exact HN.out j (by omega) h2
    · have hltz : ¬ (k : Int) < (es.length : Int) := by omega
      go_wp2
      go_ret
      refine ⟨_, rfl, .inl ⟨rfl, fun x hx => ?_⟩, hb⟩
      obtain ⟨j, hj, rfl⟩ := List.getElem_of_mem hx
      exact HN.out j (by omega) hj
set_option maxHeartbeats 1000000 in
theorem live1_any (v : Ver) (X : Nat) (id : Int) (w : World) (hX : w.cell? ⟨X, 0, none⟩ = some (.int .i64 id)) : Calls Tryd.prog 42 #[v.agg, .pointer (some ⟨X, 0, none⟩)] w fun x w' => x = .returned (.bool (isLive id v)) ∧ Below w.heap.size w w' := by
  obtain ⟨⟨i, s, k, q, p, o, d⟩, f, t⟩ := v
  have hl : X < w.heap.size := cell_lt hX
  simp only [isLive]
  by_cases h1 : (i == id) = true
  · rw [h1, Bool.true_and]
    go_enter Tryd.func42, Tryd.ntmps42
    go_wp2
    go_ret
    exact ⟨rfl, (Below.refl _ w).new _⟩
  · rw [Bool.not_eq_true] at h1
    rw [h1, Bool.false_and]
    go_enter Tryd.func42, Tryd.ntmps42
    go_wp2
    go_ret
    exact ⟨rfl, (Below.refl _ w).new _⟩
def liveZ (b : Bk) (id : Int) : Int := match b.live id with | none => -1 | some k => k
theorem liveZ_first {b : Bk} {id z : Int} (h : FirstV (isLive id) b.l z) : z = liveZ b id := by
  unfold liveZ Bk.live
  rcases h with ⟨rfl, h⟩ | ⟨k, hk, rfl, h1, h2⟩
  · rw [List.findIdx?_eq_none_iff.2 (fun x hx => by rw [h x hx])]
  · rw [List.findIdx?_eq_some_iff_getElem.2 ⟨hk, h1, fun j hj => by rw [h2 j hj]; simp⟩]
set_option maxHeartbeats 1000000 in
set_option maxRecDepth 100000 in
theorem live_any (B : Nat) (b : Bk) (id : Int) (w : World) (h : BkW w B b) (hlen : b.l.length ≤ 120) :
    Calls Tryd.prog 25 #[.pointer (some ⟨B, 0, none⟩), .int .i64 id] w fun e w' => e = .returned (.int .i64 (liveZ b id)) ∧ Below w.heap.size w w' := by
  obtain ⟨v, c0, ho⟩ := h.row
  obtain ⟨xa, xc, rfl⟩ := own_slice ho
  obtain ⟨W0, hW0⟩ : ∃ W0, W0 = w.alloc (.cells #[.int .i64 id] 3) := ⟨_, rfl⟩
  have hb0 : Below w.heap.size w W0 := by rw [hW0]; exact (Below.refl _ w).new _
  have hcX : W0.cell? ⟨w.heap.size, 0, none⟩ = some (.int .i64 id) := by rw [hW0]; exact new_at w _ _ 0 _ rfl
  have hXl : w.heap.size < W0.heap.size := cell_lt hcX
  have hBl := h.lt
  have HIX := Lib.hid (indexV_any 42 #[.pointer (some ⟨w.heap.size, 0, none⟩)] (isLive id) xa xc b.l W0 ((rdV_of_own ho).below hb0) (by omega) (enters_of Tryd.func42 (by kernel_rfl) rfl) (fun e he W hW => live1_any e _ id W ((hW.cell (p := ⟨w.heap.size, 0, none⟩) hXl).trans hcX)))
  have HW0 := Lib.hid hW0
  have HB0 := Lib.hid hb0
  clear hW0 hcX ho h hb0
  go_enter Tryd.func25, Tryd.ntmps25
  go_wp2_with fail
  rw [← HW0.out]
  refine HIX.out.mono ?_
  rintro e w2 ⟨z, rfl, hz, hb2⟩
  obtain rfl := liveZ_first hz
  clear hz
  go_wp2_with fail
  go_ret
  exact ⟨rfl, HB0.out.step hb2⟩
end Go.Proofs.YtpbbbiifeihkaaaDoor
