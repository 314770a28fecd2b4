/- Joined: CvQ, CaQ. -/
import Derived.Test.YtefbedineniejaaDoorCaP
import Derived.Test.YtefbedineniejaaDoorSince

/- CvQ: CostConserves's closures; sums: what lines come to, in, out, lost, found. -/
section
namespace Go.Proofs.YtefbedineniejaaDoor
open Go.RowKit
open Go.Maps (Keyed)
set_option linter.unusedVariables false

theorem results_cv {fn : Func} {t u v x : Tmp} (h : fn.results = #[.tmp t, .tmp u, .tmp v, .tmp x]) (tmps : Array Value) (P : Program) (w : World) :
    (results fn tmps).run P w = .ok (.tuple #[tmps.getD t undef, tmps.getD u undef, tmps.getD v undef, tmps.getD x undef]) w := by
  simp [results, h]
theorem First.ev {M : List Evt} {z : Int} {i : Int} (h : First (fun e => e.id == z) M i) : (i = -1 ∧ evOf M z = none) ∨ ∃ k : Nat, ∃ hk : k < M.length, i = k ∧ evOf M z = some M[k] := by
  rcases h with ⟨rfl, h⟩ | ⟨k, hk, rfl, hp, hb⟩
  · exact .inl ⟨rfl, List.find?_eq_none.2 fun x hx => by have := h x hx; simp only at this; rw [this]; simp⟩
  · refine .inr ⟨k, hk, rfl, ?_⟩
    rw [evOf, List.find?_eq_some_iff_getElem]
    exact ⟨hp, k, hk, rfl, fun j hj => by have := hb j hj; simp only at this; rw [this]; rfl⟩
set_option maxHeartbeats 1000000 in
theorem sums1_any (e : Evt) (X : Nat) (z : Int) (w : World) (hX : w.cell? ⟨X, 0, none⟩ = some (.int .i64 z)) : Calls Tryd.prog 55 #[e.agg, .pointer (some ⟨X, 0, none⟩)] w fun x w' => x = .returned (.bool (e.id == z)) ∧ Below w.heap.size w w' := by
  obtain ⟨i, s, k, q, p, o, d⟩ := e
  have hl : X < w.heap.size := cell_lt hX
  go_enter Tryd.func55, Tryd.ntmps55
  go_wp2
  go_ret
  exact ⟨rfl, (Below.refl _ w).new _⟩
/-- The five cells of the k-th line, in whatever world behind. -/
theorem own_ln {w : World} {base n : Nat} {xa : Option Addr} {xc : Nat} {ls : List Ln} (h : w.ownsRow base 54 5 (.slice xa n xc) n (flN ls)) (k : Nat) (hk : k < ls.length) : ∃ b, xa = some ⟨b, 0, none⟩ ∧ b < w.heap.size ∧ ∀ W, Below w.heap.size w W →
    W.cell? ⟨b, k * 5, none⟩ = some (.int .i64 ls[k].id) ∧ W.cell? ⟨b, k * 5 + 1, none⟩ = some (.int .i64 ls[k].value) ∧ W.cell? ⟨b, k * 5 + 2, none⟩ = some (.int .i64 ls[k].short) ∧ W.cell? ⟨b, k * 5 + 3, none⟩ = some (.int .i64 ls[k].late) ∧ W.cell? ⟨b, k * 5 + 4, none⟩ = some (.bool ls[k].gain) := by
  have hg : ∀ j, j < 5 → (flN ls)[k * 5 + j]? = ls[k].cells[j]? := by
    clear h
    induction ls generalizing k with
    | nil => simp at hk
    | cons x r ih =>
      intro j hj
      simp only [flN, List.flatMap_cons] at ih ⊢
      cases k with
      | zero => rw [List.getElem?_append_left (by simp [Ln.cells]; omega)]; simp
      | succ k =>
        rw [List.getElem?_append_right (by simp [Ln.cells]; omega), show (k + 1) * 5 + j - x.cells.length = k * 5 + j by simp [Ln.cells]; omega]
        exact ih k (by simpa using hk) j hj
  have h0 := hg 0 (by omega)
  obtain ⟨b, hb, -, hc⟩ := rdN_cells h (k * 5) ((List.getElem?_eq_some_iff.1 h0).1)
  refine ⟨b, hb, ?_, fun W hW => ⟨hc W hW (k * 5) _ h0, hc W hW (k * 5 + 1) _ (hg 1 (by omega)), hc W hW (k * 5 + 2) _ (hg 2 (by omega)), hc W hW (k * 5 + 3) _ (hg 3 (by omega)), hc W hW (k * 5 + 4) _ (hg 4 (by omega))⟩⟩
  exact cell_lt (hc w (Below.refl _ _) (k * 5) _ h0)
def Bd4 (k : Nat) (a : Int × Int × Int × Int) : Prop := (0 ≤ a.1 ∧ a.1 ≤ k * 14000000000000) ∧ (0 ≤ a.2.1 ∧ a.2.1 ≤ k * 14000000000000) ∧ (0 ≤ a.2.2.1 ∧ a.2.2.1 ≤ k * 14000000000000) ∧ (0 ≤ a.2.2.2 ∧ a.2.2.2 ≤ k * 14000000000000)
theorem bd4_step {M : List Evt} {k : Nat} {a : Int × Int × Int × Int} (h : Bd4 k a) (x : Ln) (hx : 0 ≤ x.value ∧ x.value ≤ 14000000000000) : Bd4 (k + 1) (sumS M a x) := by
  obtain ⟨h1, h2, h3, h4⟩ := h
  unfold sumS
  unfold Bd4
  split
  · first | omega | (simp only; omega)
  · split
    · first | omega | (simp only; omega)
    · split
      · first | omega | (simp only; omega)
      · split
        · first | omega | (simp only; omega)
        · first | omega | (simp only; omega)
theorem bd4_run {M : List Evt} (ls : List Ln) (hx : ∀ x ∈ ls, 0 ≤ x.value ∧ x.value ≤ 14000000000000) : ∀ (a : Int × Int × Int × Int) (k : Nat), Bd4 k a → Bd4 (k + ls.length) (ls.foldl (sumS M) a) := by
  induction ls with
  | nil => intro a k h; exact h
  | cons x r ih =>
    intro a k h
    rw [List.foldl_cons, List.length_cons, show k + (r.length + 1) = k + 1 + r.length by omega]
    exact ih (fun y hy => hx y (List.mem_cons_of_mem _ hy)) _ _ (bd4_step h x (hx x (by simp)))
set_option maxHeartbeats 4000000 in
set_option maxRecDepth 100000 in
theorem sums_any (hi : Nat) (v : Value) (M : List Evt) (base : Nat) (xa : Option Addr) (xc : Nat) (m : Value) (ls : List Ln) (w : World) (hr : RdE hi w v M) (hh : hi ≤ w.heap.size) (hlen : M.length ≤ 140) (ho : w.ownsRow base 54 5 (.slice xa ls.length xc) ls.length (flN ls)) (hl : ls.length ≤ 140) (hx : ∀ x ∈ ls, 0 ≤ x.value ∧ x.value ≤ 14000000000000) (hm : ∃ p, m = .map p) :
    Calls Tryd.prog 26 #[v, .agg #[.slice xa ls.length xc, m]] w fun e w' => e = .returned (.tuple #[.int .i64 (sumF M ls).1, .int .i64 (sumF M ls).2.1, .int .i64 (sumF M ls).2.2.1, .int .i64 (sumF M ls).2.2.2]) ∧ Below w.heap.size w w' := by
  obtain ⟨mp, rfl⟩ := hm
  obtain ⟨a, c, rfl⟩ := hr.shape
  obtain ⟨W0, hW0⟩ : ∃ W0, W0 = w.alloc (.cells #[.slice xa ls.length xc, .map mp] 43) := ⟨_, rfl⟩
  have hb0 : Below w.heap.size w W0 := by rw [hW0]; exact (Below.refl _ w).new _
  have hcR : W0.heap[w.heap.size]? = some (.cells #[.slice xa ls.length xc, .map mp] 43 (0, 0)) := by rw [hW0]; exact World.alloc_heap_new _ _
  have hcR0 : ∀ W, Below W0.heap.size W0 W → W.cell? ⟨w.heap.size, 0, none⟩ = some (.slice xa ls.length xc) := fun W hW => by
    have := (hW.block _ (Array.getElem?_eq_some_iff.1 hcR).1).trans hcR
    simp [World.cell?, this]
  have hRl : w.heap.size < W0.heap.size := (Array.getElem?_eq_some_iff.1 hcR).1
  have HCR := Lib.hid hcR0
  have HR := Lib.hid (hr.below (hb0.mono hh))
  have HO := Lib.hid (own_below ho hb0)
  have HX := Lib.hid hx
  have HB0 := Lib.hid hb0
  have HW0 := Lib.hid hW0
  have hhi : hi ≤ W0.heap.size := Nat.le_trans hh hb0.size
  clear hr ho hx hcR hcR0 hb0 hW0
  go_enter Tryd.func26, Tryd.ntmps26
  go_wp2_with fail
  rw [← HW0.out]
  go_loopg [4, 5, 6, 7, 8] ls.length (fun kx s4 s5 s6 s7 s8 wr => ∃ (k : Nat) (A B C D : Int), s4 = .int .i64 A ∧ s5 = .int .i64 B ∧ s6 = .int .i64 C ∧ s7 = .int .i64 D ∧ s8 = .int .i64 k ∧ k ≤ ls.length ∧ ls.length - k ≤ kx ∧ Hid (sumF M (ls.take k) = (A, B, C, D)) ∧ Below W0.heap.size W0 wr)
  case atStart => exact ⟨0, 0, 0, 0, 0, rfl, rfl, rfl, rfl, rfl, by omega, by omega, rfl, Below.refl _ _⟩
  case round =>
    obtain ⟨k, A, B, C, D, rfl, rfl, rfl, rfl, rfl, hk, hkx, HS, hb⟩ := hrel
    have hcr := HCR.out wr hb
    have hRw : w.heap.size < wr.heap.size := Nat.lt_of_lt_of_le hRl hb.size
    by_cases hlt : k < ls.length
    · have hltz : (k : Int) < (ls.length : Int) := by omega
      have hbd : Bd4 k (A, B, C, D) := by
        rw [← HS.out]
        have := bd4_run (M := M) (ls.take k) (fun x hx => HX.out x (List.mem_of_mem_take hx)) (0, 0, 0, 0) 0 ⟨by simp, by simp, by simp, by simp⟩
        rw [List.length_take, Nat.min_eq_left hk, Nat.zero_add] at this
        exact this
      simp only [Bd4] at hbd
      obtain ⟨⟨a1, a2⟩, ⟨b1, b2⟩, ⟨d1, d2⟩, ⟨g1, g2⟩⟩ := hbd
      have HSN : Hid (sumF M (ls.take (k + 1)) = sumS M (A, B, C, D) ls[k]) := Lib.hid (by rw [List.take_succ_eq_append_getElem hlt, sumF_snoc, HS.out])
      obtain ⟨xb, rfl, hxb, hcs⟩ := own_ln HO.out k hlt
      obtain ⟨x, hx⟩ : ∃ x, x = ls[k] := ⟨_, rfl⟩
      have hxv := HX.out x (by rw [hx]; exact List.getElem_mem hlt)
      obtain ⟨c0, c1, c2, c3, c4⟩ := hcs wr hb
      rw [← hx] at c0 c1 c2 c3 c4 HSN
      have hxw : xb < wr.heap.size := Nat.lt_of_lt_of_le hxb hb.size
      clear hx hcs
      obtain ⟨xi, xv, xs, xl, xg⟩ := x
      simp only at c0 c1 c2 c3 c4 hxv
      obtain ⟨W1, hW1⟩ : ∃ W1, W1 = wr.alloc (.cells #[.int .i64 xi, .int .i64 xv, .int .i64 xs, .int .i64 xl, .bool xg] 54) := ⟨_, rfl⟩
      have HW1 := Lib.hid hW1
      have hb1 : Below wr.heap.size wr W1 := by rw [hW1]; exact (Below.refl _ wr).new _
      have hk1 : W1.heap[wr.heap.size]? = some (.cells #[.int .i64 xi, .int .i64 xv, .int .i64 xs, .int .i64 xl, .bool xg] 54 (0, 0)) := by rw [hW1]; exact World.alloc_heap_new _ _
      have HK1 : Hid (∀ W, Below W1.heap.size W1 W → W.cell? ⟨wr.heap.size, 0, none⟩ = some (.int .i64 xi) ∧ W.cell? ⟨wr.heap.size, 1, none⟩ = some (.int .i64 xv) ∧ W.cell? ⟨wr.heap.size, 4, none⟩ = some (.bool xg)) := Lib.hid fun W hW => by
        have := (hW.block _ (Array.getElem?_eq_some_iff.1 hk1).1).trans hk1
        simp [World.cell?, this]
      have hb01 := hb.step hb1
      have HIX := Lib.hid (indexE_any 55 #[.pointer (some ⟨wr.heap.size, 0, none⟩)] (fun e => e.id == xi) hi (.slice a M.length c) M W1 (HR.out.below (hb01.mono hhi)) (Nat.le_trans hhi hb01.size) (by omega) (enters_of Tryd.func55 (by kernel_rfl) rfl) (fun e he W hW => sums1_any e _ xi W ((HK1.out W hW).1)))
      clear hW1 hk1
      go_wp2_with fail
      rw [← HW1.out]
      refine HIX.out.mono ?_
      rintro e w2 ⟨z, rfl, hz, hb2⟩
      obtain ⟨l0, l1, l4⟩ := HK1.out w2 hb2
      have hB2 := hb01.step hb2
      clear c0 c1 c2 c3 c4 HIX
      rcases hz.ev with ⟨rfl, hn⟩ | ⟨kk, hkk, rfl, hn⟩
      · have HF : Hid (sumS M (A, B, C, D) ⟨xi, xv, xs, xl, xg⟩ = (A, B, C, D)) := Lib.hid (by simp only [sumS, hn])
        clear hn hz
        go_wp2_with fail
        go_roundg (ls.length - (k + 1))
        case measure => omega
        case rel => exact ⟨k + 1, A, B, C, D, rfl, rfl, rfl, rfl, by go_num, hlt, Nat.le_refl _, HSN.out.trans HF.out, hB2⟩
      · have hkz : ¬ ((kk : Int) < 0) := by omega
        have hkm : (kk : Int) < (M.length : Int) := by omega
        obtain ⟨eb, eo, rfl, hbh, h7⟩ := HR.out.seven kk hkk
        obtain ⟨-, -, e2, -, -, -, -⟩ := h7 w2 (hB2.mono hhi)
        obtain ⟨kd, hkd⟩ : ∃ kd, kd = M[kk].kind := ⟨_, rfl⟩
        rw [← hkd] at e2
        have HFS : Hid (∀ r, (if kd = 1 ∨ kd = 2 then (A + xv, B, C, D) else if kd = 3 then (A, B + xv, C, D) else if xg then (A, B, C, D + xv) else (A, B, C + xv, D)) = r → sumS M (A, B, C, D) ⟨xi, xv, xs, xl, xg⟩ = r) := Lib.hid fun r hr => by
          rw [← hr, hkd]; simp only [sumS, hn]
        clear hn hz hkd h7
        by_cases k1 : kd = 1
        · subst k1
          go_wp2_with fail
          go_roundg (ls.length - (k + 1))
          case measure => omega
          case rel => exact ⟨k + 1, A + xv, B, C, D, rfl, rfl, rfl, rfl, by go_num, hlt, Nat.le_refl _, HSN.out.trans (HFS.out _ (by simp)), hB2⟩
        · have k1b : (kd == 1) = false := by simpa using k1
          by_cases k2 : kd = 2
          · subst k2
            go_wp2_with fail
            go_roundg (ls.length - (k + 1))
            case measure => omega
            case rel => exact ⟨k + 1, A + xv, B, C, D, rfl, rfl, rfl, rfl, by go_num, hlt, Nat.le_refl _, HSN.out.trans (HFS.out _ (by simp)), hB2⟩
          · have k2b : (kd == 2) = false := by simpa using k2
            have k12 : ¬ (kd = 1 ∨ kd = 2) := by omega
            have K12 := Lib.hid k12
            clear k12
            by_cases k3 : kd = 3
            · subst k3
              go_wp2_with fail
              go_roundg (ls.length - (k + 1))
              case measure => omega
              case rel => exact ⟨k + 1, A, B + xv, C, D, rfl, rfl, rfl, rfl, by go_num, hlt, Nat.le_refl _, HSN.out.trans (HFS.out _ (by rw [if_neg K12.out]; simp)), hB2⟩
            · have k3b : (kd == 3) = false := by simpa using k3
              have K3 := Lib.hid k3
              clear k1 k2 k3
              cases xg with
              | true =>
                go_wp2_with fail
                go_roundg (ls.length - (k + 1))
                case measure => omega
                case rel => exact ⟨k + 1, A, B, C, D + xv, rfl, rfl, rfl, rfl, by go_num, hlt, Nat.le_refl _, HSN.out.trans (HFS.out _ (by rw [if_neg K12.out, if_neg K3.out]; simp)), hB2⟩
              | false =>
                go_wp2_with fail
                go_roundg (ls.length - (k + 1))
                case measure => omega
                case rel => exact ⟨k + 1, A, B, C + xv, D, rfl, rfl, rfl, rfl, by go_num, hlt, Nat.le_refl _, HSN.out.trans (HFS.out _ (by rw [if_neg K12.out, if_neg K3.out]; simp)), hB2⟩
    · have hltz : ¬ ((k : Int) < (ls.length : Int)) := by omega
      have hS : sumF M ls = (A, B, C, D) := by rw [← HS.out, List.take_of_length_le (by omega)]
      have HSS := Lib.hid hS
      clear hS
      go_wp2_with fail
      (try simp only [Exit.inBlock, Exit.then])
      refine bodyPost_ret (results_cv rfl _ _ _) rfl ?_
      rw [HSS.out]
      exact ⟨rfl, HB0.out.step hb⟩
end Go.Proofs.YtefbedineniejaaDoor
end

/- CaQ: Lines that are alike; the closure that strikes what is later. -/
section
namespace Go.Proofs.YtefbedineniejaaDoor
open Go.RowKit
open Go.Maps (Keyed)
set_option linter.unusedVariables false

set_option maxHeartbeats 1000000 in
theorem later_any (e : Evt) (X : Nat) (z : Int) (w : World) (hX : w.cell? ⟨X, 0, none⟩ = some (.int .i64 z)) : Calls Tryd.prog 27 #[e.agg, .pointer (some ⟨X, 0, none⟩)] w fun x w' => x = .returned (.bool (decide (z < e.day))) ∧ Below w.heap.size w w' := by
  obtain ⟨i, s, k, q, p, o, d⟩ := e
  have hl : X < w.heap.size := cell_lt hX
  go_enter Tryd.func27, Tryd.ntmps27
  go_wp2
  go_ret
  exact ⟨rfl, (Below.refl _ w).new _⟩
/-- A slice of lines, for reading. -/
def RdN (w : World) (a : Option Addr) (ls : List Ln) : Prop := ∀ k (hk : k < ls.length), ∃ b off, a = some ⟨b, off, none⟩ ∧ b < w.heap.size ∧ ∀ j u, ls[k].cells[j]? = some u → w.cell? ⟨b, off + k * 5 + j, none⟩ = some u
theorem RdN.below {w w' : World} {a : Option Addr} {ls : List Ln} (h : RdN w a ls) (hb : Below w.heap.size w w') : RdN w' a ls := fun k hk => by
  obtain ⟨b, off, h1, h2, h3⟩ := h k hk
  exact ⟨b, off, h1, Nat.lt_of_lt_of_le h2 hb.size, fun j u hu => (hb.cell (p := ⟨b, off + k * 5 + j, none⟩) h2).trans (h3 j u hu)⟩
theorem RdN.take {w : World} {a : Option Addr} {ls : List Ln} (h : RdN w a ls) (m : Nat) : RdN w a (ls.take m) := fun k hk => by
  have hk' : k < ls.length := by rw [List.length_take] at hk; omega
  obtain ⟨b, off, h1, h2, h3⟩ := h k hk'
  refine ⟨b, off, h1, h2, fun j u hu => h3 j u (by rw [List.getElem_take] at hu; exact hu)⟩
theorem rdN_of_own {w : World} {base n : Nat} {xa : Option Addr} {xc : Nat} {ls : List Ln} (h : w.ownsRow base 54 5 (.slice xa n xc) n (flN ls)) : RdN w xa ls := fun k hk => by
  obtain ⟨b, rfl, hb, hc⟩ := own_ln h k hk
  obtain ⟨c0, c1, c2, c3, c4⟩ := hc w (Below.refl _ _)
  refine ⟨b, 0, rfl, hb, fun j u hu => ?_⟩
  rw [Nat.zero_add]
  match j, hu with
  | 0, hu => cases hu; exact c0
  | 1, hu => cases hu; exact c1
  | 2, hu => cases hu; exact c2
  | 3, hu => cases hu; exact c3
  | 4, hu => cases hu; exact c4
theorem ln_eql (x y z u x' y' z' u' : Int) (t t' b : Bool) (hb : b = (x == x' && (y == y' && (z == z' && (u == u' && t == t'))))) (w : World) :
    (Op.equalIn 10000 54 (.agg #[.int .i64 x, .int .i64 y, .int .i64 z, .int .i64 u, .bool t]) (.agg #[.int .i64 x', .int .i64 y', .int .i64 z', .int .i64 u', .bool t'])).run Tryd.prog w = .ok b w := by
  have u3 := Tryd.underlying3
  have a3 := Tryd.isAgg3
  have z3 := Tryd.sizeOf3
  have u4 := Tryd.underlying4
  have a4 := Tryd.isAgg4
  have z4 := Tryd.sizeOf4
  have hS : Tryd.prog.underlying 54 = some (.struct (Tryd.prog.fieldsOf 54)) := by kernel_rfl
  have hp : Tryd.prog.stoodInHeld 54 = false := by kernel_rfl
  rw [show (10000 : Nat) = 9999 + 1 from rfl, run_equalIn_agg w 9999 54 _ _ hS hp]
  simp only [Program.fieldsOf, Tryd.underlying54]
  subst hb
  go_simp
  (repeat' split) <;> simp_all
set_option maxHeartbeats 1000000 in
set_option maxRecDepth 100000 in
/-- slices.Equal at lines that are alike. -/
theorem equalN_same (ls : List Ln) (a b : Option Addr) (c1 c2 : Nat) (w : World) (hL : ls.length ≤ 1000) (h1 : RdN w a ls) (h2 : RdN w b ls) :
    Calls Tryd.prog 28 #[.slice a ls.length c1, .slice b ls.length c2] w (Gives (.bool true) w) := by
  have H1 := Lib.hid h1
  have H2 := Lib.hid h2
  clear h1 h2
  have hne : ((ls.length : Int) != (ls.length : Int)) = false := by simp
  go_enter Tryd.func28, Tryd.ntmps28
  go_wp2
  go_loopw [13] (fun i wr => ∃ k q : Nat, k ≤ ls.length ∧ i = .int .i64 k ∧ wr = w.drewN q) (fun i _ => ls.length - (intOf i).toNat)
  case atStart => exact ⟨0, 0, by omega, rfl, rfl⟩
  case round =>
    obtain ⟨k, q, hk, rfl, rfl⟩ := hrel
    by_cases hlt : k < ls.length
    · obtain ⟨b1, o1, rfl, hw1, p⟩ := H1.out k hlt
      obtain ⟨b2, o2, rfl, hw2, q'⟩ := H2.out k hlt
      have p0 := p 0 _ rfl
      have p1 := p 1 _ rfl
      have p2 := p 2 _ rfl
      have p3 := p 3 _ rfl
      have p4 := p 4 _ rfl
      have q0 := q' 0 _ rfl
      have q1 := q' 1 _ rfl
      have q2 := q' 2 _ rfl
      have q3 := q' 3 _ rfl
      have q4 := q' 4 _ rfl
      rw [Nat.add_zero] at p0 q0
      clear p q'
      obtain ⟨p, hp⟩ : ∃ p, p = ls[k] := ⟨_, rfl⟩
      rw [← hp] at p0 p1 p2 p3 p4 q0 q1 q2 q3 q4
      clear hp
      have hs := ln_eql p.id p.value p.short p.late p.id p.value p.short p.late p.gain p.gain true (by simp)
      go_wp2
      go_quiet (fail)
      go_wp2
      go_roundw
      case rel => exact ⟨k + 1, _, by omega, by go_num, rfl⟩
      case measure => simp [intOf]; omega
    · go_wp2
      go_ret
      exact ⟨rfl, below_drewN (Below.refl _ _) q⟩
/-- Two lots of layers that are alike have as many items. -/
theorem Kept.size {w w' : World} {b b' : Nat} {L : List UInt8 → List Lay} (h : Kept w b L) (h' : Kept w' b' L) : ∃ (ks ks' : List Lit) (f f' : Lit → Value), ks.length = ks'.length ∧ MV Tryd.prog 9 (.slice none 0 0) w b ks f ∧ MV Tryd.prog 9 (.slice none 0 0) w' b' ks' f' ∧ (∀ l, RdY w (f (.string l)) (L l)) ∧ (∀ l, RdY w' (f' (.string l)) (L l)) ∧ ∀ x ∈ ks, ∃ l, x = .string l := by
  obtain ⟨ks, f, h1, h2, h3⟩ := h
  obtain ⟨ks', f', h1', h2', h3'⟩ := h'
  have key : ∀ {W : World} {bb : Nat} {kk : List Lit} {ff : Lit → Value} (m : MV Tryd.prog 9 (.slice none 0 0) W bb kk ff) (r : ∀ l, RdY W (ff (.string l)) (L l)) (l : List UInt8), L l ≠ [] → (.string l) ∈ kk := by
    intro W bb kk ff m r l hl
    apply Classical.byContradiction
    intro hn
    have := r l
    rw [m.zero _ hn] at this
    obtain ⟨a, c, e1, -⟩ := this
    injection e1 with e1 e2 e3
    exact hl (List.length_eq_zero_iff.1 e2.symm)
  refine ⟨ks, ks', f, f', ?_, h1, h1', h2, h2', fun x hx => (h3 x hx).imp fun l h => h.1⟩
  refine ((List.perm_ext_iff_of_nodup h1.nd h1'.nd).2 fun x => ⟨fun hx => ?_, fun hx => ?_⟩).length_eq
  · obtain ⟨l, rfl, hl⟩ := h3 x hx; exact key h1' h2' l hl
  · obtain ⟨l, rfl, hl⟩ := h3' x hx; exact key h1 h2 l hl
end Go.Proofs.YtefbedineniejaaDoor
end
