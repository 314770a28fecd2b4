/- tallymankeep.posted and bounded; slices.Equal at postings that are alike. -/
import Derived.Test.YtefbedineniejaaDoorLgT
import Derived.Test.YtefbedineniejaaDoorLgR
import Derived.Laws.StructEq
import Derived.LoopTactic
import Derived.Test.YtefbedineniejaaDoorQTail
namespace Go.Proofs.YtefbedineniejaaDoor
open Go.RowKit
set_option linter.unusedVariables false

set_option maxHeartbeats 1000000 in
set_option maxRecDepth 100000 in
theorem posted_any (w : World) : Calls Tryd.prog 8 #[] w (Gives (.bool true) w) := by
  have HF := Lib.hid (figPosts_any 500 (-70) 0 0 0 w (by unfold Fit; omega) (by unfold Fit; omega) (by unfold Fit; omega) (by unfold Fit; omega) (by unfold Fit; omega))
  have e1 : Lg.figs 500 (-70) 0 0 0 = [⟨Lg.stock, Lg.supply, 500⟩, ⟨Lg.stock, Lg.sold, 70⟩] := by simp [Lg.figs, Lg.one]
  have e2 : Lg.text [⟨Lg.stock, Lg.supply, 500⟩, ⟨Lg.stock, Lg.sold, 70⟩] = [53, 46, 48, 48, 32, 115, 116, 111, 99, 107, 32, 102, 114, 111, 109, 32, 115, 117, 112, 112, 108, 121, 10, 48, 46, 55, 48, 32, 115, 116, 111, 99, 107, 32, 102, 114, 111, 109, 32, 115, 111, 108, 100, 10] := by decide +kernel
  rw [e1] at HF
  have HP := Lib.hid (fun a cap w' (hr : Rd w' a (Lg.fl [⟨Lg.stock, Lg.supply, 500⟩, ⟨Lg.stock, Lg.sold, 70⟩])) => ledgerPrint_any [⟨Lg.stock, Lg.supply, 500⟩, ⟨Lg.stock, Lg.sold, 70⟩] a cap w' hr (by
    intro p hp
    simp only [List.mem_cons, List.not_mem_nil, or_false] at hp
    rcases hp with rfl | rfl <;> simp) (by rw [e2]; simp))
  rw [e2] at HP
  clear e1 e2
  go_enter Tryd.func8, Tryd.ntmps8
  go_wp2_with fail
  refine HF.out.mono ?_
  rintro e w1 ⟨v1, rfl, ho1, hb1⟩
  obtain ⟨a, cap, rfl, hr, -, -⟩ := rd_of_own ho1
  clear ho1
  go_wp2_with fail
  refine (HP.out _ _ _ hr).mono ?_
  rintro e w2 ⟨rfl, hb2⟩
  clear hr
  go_wp2_with fail
  go_ret
  exact ⟨by simp, hb1.step hb2⟩

/-- Figures within what there may be. -/
def inAll (l : List Int) : Prop := ∀ n ∈ l, Lg.InB n
theorem five_cell (w0 : World) (l : List Int) (t : TypeId) (k : Nat) (hk : k < l.length) : ∃ n, (w0.alloc (.cells (l.map (Value.int .i64)).toArray t)).cell? ⟨w0.heap.size, k, none⟩ = some (.int .i64 n) ∧ l[k]? = some n := by
  refine ⟨l[k], ?_, by simp [hk]⟩
  simp only [World.cell?, heap_new]
  simp [hk]
set_option maxHeartbeats 1000000 in
set_option maxRecDepth 100000 in
theorem bounded_yes (i o l g t : Int) (w : World) (h : inAll [i, o, l, g, t]) :
    Calls Tryd.prog 11 #[.agg #[.int .i64 i, .int .i64 o, .int .i64 l, .int .i64 g, .int .i64 t]] w (Gives (.bool true) w) := by
  have H := Lib.hid h
  clear h
  go_enter Tryd.func11, Tryd.ntmps11
  go_wp2
  have HC := Lib.hid (five_cell (w.alloc (.cells #[.int .i64 i, .int .i64 o, .int .i64 l, .int .i64 g, .int .i64 t] 23)) [i, o, l, g, t] 3)
  have hB : Below w.heap.size w ((w.alloc (.cells #[.int .i64 i, .int .i64 o, .int .i64 l, .int .i64 g, .int .i64 t] 23)).alloc (.cells ([i, o, l, g, t].map (Value.int .i64)).toArray 3)) := ((Below.refl _ _).new _).new _
  have HB := Lib.hid hB
  clear hB
  simp only [List.map_cons, List.map_nil, World.size_alloc] at HC HB
  obtain ⟨W, hW⟩ : ∃ W, W = (w.alloc (.cells #[.int .i64 i, .int .i64 o, .int .i64 l, .int .i64 g, .int .i64 t] 23)).alloc (.cells #[.int .i64 i, .int .i64 o, .int .i64 l, .int .i64 g, .int .i64 t] 3) := ⟨_, rfl⟩
  rw [← hW] at HC HB ⊢
  clear hW
  go_loop [4, 17] (fun _ x => ∃ k : Nat, k ≤ 5 ∧ x = .int .i64 k) (fun _ x => 5 - (intOf x).toNat)
  case atStart => exact ⟨0, by omega, rfl⟩
  case round =>
    obtain ⟨k, hk, rfl⟩ := hrel
    by_cases hlt : k < 5
    · obtain ⟨n, hc, hn⟩ := HC.out k (by simpa using hlt)
      have hin := H.out n (List.mem_of_getElem? hn)
      obtain ⟨b1, b2⟩ := hin
      have HN := Lib.hid hn
      have g1 : ¬ 1000000000000 < n := by omega
      have g2 : ¬ n < -1000000000000 := by omega
      clear hn
      go_wp2
      go_round
      case rel => exact ⟨k + 1, by omega, by go_num⟩
      case measure => simp [intOf]; omega
    · obtain rfl : k = 5 := by omega
      go_wp2
      go_ret
      exact ⟨rfl, HB.out⟩
set_option maxHeartbeats 1000000 in
set_option maxRecDepth 100000 in
theorem bounded_no (i o l g t : Int) (w : World) (h : ¬ inAll [i, o, l, g, t]) :
    Calls Tryd.prog 11 #[.agg #[.int .i64 i, .int .i64 o, .int .i64 l, .int .i64 g, .int .i64 t]] w (Gives (.bool false) w) := by
  have H := Lib.hid h
  clear h
  go_enter Tryd.func11, Tryd.ntmps11
  go_wp2
  have HC := Lib.hid (five_cell (w.alloc (.cells #[.int .i64 i, .int .i64 o, .int .i64 l, .int .i64 g, .int .i64 t] 23)) [i, o, l, g, t] 3)
  have hB : Below w.heap.size w ((w.alloc (.cells #[.int .i64 i, .int .i64 o, .int .i64 l, .int .i64 g, .int .i64 t] 23)).alloc (.cells ([i, o, l, g, t].map (Value.int .i64)).toArray 3)) := ((Below.refl _ _).new _).new _
  have HB := Lib.hid hB
  clear hB
  simp only [List.map_cons, List.map_nil, World.size_alloc] at HC HB
  obtain ⟨W, hW⟩ : ∃ W, W = (w.alloc (.cells #[.int .i64 i, .int .i64 o, .int .i64 l, .int .i64 g, .int .i64 t] 23)).alloc (.cells #[.int .i64 i, .int .i64 o, .int .i64 l, .int .i64 g, .int .i64 t] 3) := ⟨_, rfl⟩
  rw [← hW] at HC HB ⊢
  clear hW
  go_loop [4, 17] (fun _ x => ∃ k : Nat, k ≤ 5 ∧ x = .int .i64 k ∧ inAll ([i, o, l, g, t].take k)) (fun _ x => 5 - (intOf x).toNat)
  case atStart => exact ⟨0, by omega, rfl, by simp [inAll]⟩
  case round =>
    obtain ⟨k, hk, rfl, hall⟩ := hrel
    have HA := Lib.hid hall
    clear hall
    by_cases hlt : k < 5
    · obtain ⟨n, hc, hn⟩ := HC.out k (by simpa using hlt)
      have HN := Lib.hid hn
      clear hn
      by_cases g1 : 1000000000000 < n
      · go_wp2
        go_ret
        exact ⟨rfl, HB.out⟩
      · by_cases g2 : n < -1000000000000
        · go_wp2
          go_ret
          exact ⟨rfl, HB.out⟩
        · go_wp2
          go_round
          case rel =>
            refine ⟨k + 1, by omega, by go_num, ?_⟩
            rw [List.take_add_one, HN.out]
            intro m hm
            rcases List.mem_append.1 hm with hm | hm
            · exact HA.out m hm
            · simp at hm; subst hm; exact ⟨by omega, by omega⟩
          case measure => simp [intOf]; omega
    · obtain rfl : k = 5 := by omega
      exact absurd HA.out H.out

theorem pst_eql (n n' : Int) (d c d' c' : ByteArray) (b : Bool) (hb : b = (d.toList == d'.toList && (c.toList == c'.toList && n == n'))) (w : World) :
    (Op.equalIn 10000 35 (.agg #[.string d, .string c, .int .i64 n]) (.agg #[.string d', .string c', .int .i64 n'])).run Tryd.prog w = .ok b w := by
  have u3 := Tryd.underlying3
  have a3 := Tryd.isAgg3
  have z3 := Tryd.sizeOf3
  have u9 := Tryd.underlying9
  have a9 := Tryd.isAgg9
  have z9 := Tryd.sizeOf9
  have hS : Tryd.prog.underlying 35 = some (.struct (Tryd.prog.fieldsOf 35)) := by kernel_rfl
  have hp : Tryd.prog.stoodInHeld 35 = false := by kernel_rfl
  rw [show (10000 : Nat) = 9999 + 1 from rfl, run_equalIn_agg w 9999 35 _ _ hS hp]
  simp only [Program.fieldsOf, Tryd.underlying35]
  subst hb
  go_simp
  (repeat' split) <;> simp_all
theorem Rd.posting {w : World} {a : Option Addr} {L : List Lg.P} (h : Rd w a (Lg.fl L)) (k : Nat) (hk : k < L.length) : ∃ b off, a = some ⟨b, off, none⟩ ∧ w.cell? ⟨b, off + k * 3, none⟩ = some (.string (L[k]).d) ∧ w.cell? ⟨b, off + k * 3 + 1, none⟩ = some (.string (L[k]).c) ∧ w.cell? ⟨b, off + k * 3 + 2, none⟩ = some (.int .i64 (L[k]).n) := by
  have hg := Lg.fl_get L k hk
  have hfl := Lg.fl_len L
  obtain ⟨b, off, rfl, c0⟩ := h.at (k * 3) (by omega)
  obtain ⟨b', off', e1, c1⟩ := h.at (k * 3 + 1) (by omega)
  obtain ⟨b'', off'', e2, c2⟩ := h.at (k * 3 + 2) (by omega)
  cases e1
  cases e2
  rw [hg.1] at c0
  rw [hg.2.1, ← Nat.add_assoc] at c1
  rw [hg.2.2, ← Nat.add_assoc] at c2
  exact ⟨b, off, rfl, c0, c1, c2⟩
set_option maxHeartbeats 1000000 in
set_option maxRecDepth 100000 in
/-- slices.Equal at postings that are alike. -/
theorem equalP_same (L : List Lg.P) (a b : Option Addr) (c1 c2 : Nat) (w : World) (hL : L.length ≤ 1000) (h1 : Rd w a (Lg.fl L)) (h2 : Rd w b (Lg.fl L)) :
    Calls Tryd.prog 13 #[.slice a L.length c1, .slice b L.length c2] w (Gives (.bool true) w) := by
  have H1 := Lib.hid h1
  have H2 := Lib.hid h2
  clear h1 h2
  have hne : ((L.length : Int) != (L.length : Int)) = false := by simp
  go_enter Tryd.func13, Tryd.ntmps13
  go_wp2
  go_loopw [13] (fun i wr => ∃ k q : Nat, k ≤ L.length ∧ i = .int .i64 k ∧ wr = w.drewN q) (fun i _ => L.length - (intOf i).toNat)
  case atStart => exact ⟨0, 0, by omega, rfl, rfl⟩
  case round =>
    obtain ⟨k, q, hk, rfl, rfl⟩ := hrel
    by_cases hlt : k < L.length
    · obtain ⟨b1, o1, rfl, p0, p1, p2⟩ := H1.out.posting k hlt
      obtain ⟨b2, o2, rfl, q0, q1, q2⟩ := H2.out.posting k hlt
      obtain ⟨p, hp⟩ : ∃ p, p = L[k] := ⟨_, rfl⟩
      rw [← hp] at p0 p1 p2 q0 q1 q2
      clear hp
      have hs := pst_eql p.n p.n p.d p.c p.d p.c true (by simp)
      go_wp2
      go_quiet (fail)
      go_wp2
      go_roundw
      case rel => exact ⟨k + 1, _, by omega, by go_num, rfl⟩
      case measure => simp [intOf]; omega
    · go_wp2
      go_ret
      exact ⟨rfl, below_drewN (Below.refl _ _) q⟩
end Go.Proofs.YtefbedineniejaaDoor
