/- tallymankeep.posted and bounded. -/
import Derived.Test.YtefbedineniejaaLgT
import Derived.LoopTactic
namespace Go.Proofs.Ytefbedineniejaa
open Go.RowKit
set_option linter.unusedVariables false

set_option maxHeartbeats 1000000 in
set_option maxRecDepth 100000 in
theorem posted_any (w : World) : Calls Try.prog 4 #[] w (Gives (.bool true) w) := by
  have HF := Lib.hid (figPosts_any 500 (-70) 0 0 0 w (by unfold Fit; omega) (by unfold Fit; omega) (by unfold Fit; omega) (by unfold Fit; omega) (by unfold Fit; omega))
  have e1 : Lg.figs 500 (-70) 0 0 0 = [⟨Lg.stock, Lg.supply, 500⟩, ⟨Lg.stock, Lg.sold, 70⟩] := by simp [Lg.figs, Lg.one]
  have e2 : Lg.text [⟨Lg.stock, Lg.supply, 500⟩, ⟨Lg.stock, Lg.sold, 70⟩] = [53, 46, 48, 48, 32, 115, 116, 111, 99, 107, 32, 102, 114, 111, 109, 32, 115, 117, 112, 112, 108, 121, 10, 48, 46, 55, 48, 32, 115, 116, 111, 99, 107, 32, 102, 114, 111, 109, 32, 115, 111, 108, 100, 10] := by decide +kernel
  rw [e1] at HF
  have HP := Lib.hid (fun a cap w' (hr : Rd w' a (Lg.fl [⟨Lg.stock, Lg.supply, 500⟩, ⟨Lg.stock, Lg.sold, 70⟩])) => ledgerPrint_any [⟨Lg.stock, Lg.supply, 500⟩, ⟨Lg.stock, Lg.sold, 70⟩] a cap w' hr (by
    intro p hp
    simp only [List.mem_cons, List.not_mem_nil, or_false] at hp
    rcases hp with rfl | rfl <;> simp) (by rw [e2]; simp))
  rw [e2] at HP
  clear e1 e2
  go_enter Try.func4, Try.ntmps4
  go_wp2_with fail
  refine HF.out.mono ?_
  rintro e w1 ⟨v1, rfl, ho1, hb1⟩
  obtain ⟨a, cap, rfl, hr, -, -⟩ := rd_of_own ho1
  clear ho1
  go_wp2_with fail
  refine (HP.out _ _ _ hr).mono ?_
  rintro e w2 ⟨rfl, hb2⟩
  clear hr
  go_wp2_with fail
  go_ret
  exact ⟨by simp, hb1.step hb2⟩

/-- Figures within what there may be. -/
def inAll (l : List Int) : Prop := ∀ n ∈ l, Lg.InB n
theorem five_cell (w0 : World) (l : List Int) (t : TypeId) (k : Nat) (hk : k < l.length) : ∃ n, (w0.alloc (.cells (l.map (Value.int .i64)).toArray t)).cell? ⟨w0.heap.size, k, none⟩ = some (.int .i64 n) ∧ l[k]? = some n := by
  refine ⟨l[k], ?_, by simp [hk]⟩
  simp only [World.cell?, heap_new]
  simp [hk]
set_option maxHeartbeats 1000000 in
set_option maxRecDepth 100000 in
theorem bounded_yes (i o l g t : Int) (w : World) (h : inAll [i, o, l, g, t]) :
    Calls Try.prog 5 #[.agg #[.int .i64 i, .int .i64 o, .int .i64 l, .int .i64 g, .int .i64 t]] w (Gives (.bool true) w) := by
  have H := Lib.hid h
  clear h
  go_enter Try.func5, Try.ntmps5
  go_wp2
  have HC := Lib.hid (five_cell (w.alloc (.cells #[.int .i64 i, .int .i64 o, .int .i64 l, .int .i64 g, .int .i64 t] 23)) [i, o, l, g, t] 3)
  have hB : Below w.heap.size w ((w.alloc (.cells #[.int .i64 i, .int .i64 o, .int .i64 l, .int .i64 g, .int .i64 t] 23)).alloc (.cells ([i, o, l, g, t].map (Value.int .i64)).toArray 3)) := ((Below.refl _ _).new _).new _
  have HB := Lib.hid hB
  clear hB
  simp only [List.map_cons, List.map_nil, World.size_alloc] at HC HB
  obtain ⟨W, hW⟩ : ∃ W, W = (w.alloc (.cells #[.int .i64 i, .int .i64 o, .int .i64 l, .int .i64 g, .int .i64 t] 23)).alloc (.cells #[.int .i64 i, .int .i64 o, .int .i64 l, .int .i64 g, .int .i64 t] 3) := ⟨_, rfl⟩
  rw [← hW] at HC HB ⊢
  clear hW
  go_loop [4, 17] (fun _ x => ∃ k : Nat, k ≤ 5 ∧ x = .int .i64 k) (fun _ x => 5 - (intOf x).toNat)
  case atStart => exact ⟨0, by omega, rfl⟩
  case round =>
    obtain ⟨k, hk, rfl⟩ := hrel
    by_cases hlt : k < 5
    · obtain ⟨n, hc, hn⟩ := HC.out k (by simpa using hlt)
      have hin := H.out n (List.mem_of_getElem? hn)
      obtain ⟨b1, b2⟩ := hin
      have HN := Lib.hid hn
      have g1 : ¬ 1000000000000 < n := by omega
      have g2 : ¬ n < -1000000000000 := by omega
      clear hn
      go_wp2
      go_round
      case rel => exact ⟨k + 1, by omega, by go_num⟩
      case measure => simp [intOf]; omega
    · obtain rfl : k = 5 := by omega
      go_wp2
      go_ret
      exact ⟨rfl, HB.out⟩
set_option maxHeartbeats 1000000 in
set_option maxRecDepth 100000 in
theorem bounded_no (i o l g t : Int) (w : World) (h : ¬ inAll [i, o, l, g, t]) :
    Calls Try.prog 5 #[.agg #[.int .i64 i, .int .i64 o, .int .i64 l, .int .i64 g, .int .i64 t]] w (Gives (.bool false) w) := by
  have H := Lib.hid h
  clear h
  go_enter Try.func5, Try.ntmps5
  go_wp2
  have HC := Lib.hid (five_cell (w.alloc (.cells #[.int .i64 i, .int .i64 o, .int .i64 l, .int .i64 g, .int .i64 t] 23)) [i, o, l, g, t] 3)
  have hB : Below w.heap.size w ((w.alloc (.cells #[.int .i64 i, .int .i64 o, .int .i64 l, .int .i64 g, .int .i64 t] 23)).alloc (.cells ([i, o, l, g, t].map (Value.int .i64)).toArray 3)) := ((Below.refl _ _).new _).new _
  have HB := Lib.hid hB
  clear hB
  simp only [List.map_cons, List.map_nil, World.size_alloc] at HC HB
  obtain ⟨W, hW⟩ : ∃ W, W = (w.alloc (.cells #[.int .i64 i, .int .i64 o, .int .i64 l, .int .i64 g, .int .i64 t] 23)).alloc (.cells #[.int .i64 i, .int .i64 o, .int .i64 l, .int .i64 g, .int .i64 t] 3) := ⟨_, rfl⟩
  rw [← hW] at HC HB ⊢
  clear hW
  go_loop [4, 17] (fun _ x => ∃ k : Nat, k ≤ 5 ∧ x = .int .i64 k ∧ inAll ([i, o, l, g, t].take k)) (fun _ x => 5 - (intOf x).toNat)
  case atStart => exact ⟨0, by omega, rfl, by simp [inAll]⟩
  case round =>
    obtain ⟨k, hk, rfl, hall⟩ := hrel
    have HA := Lib.hid hall
    clear hall
    by_cases hlt : k < 5
    · obtain ⟨n, hc, hn⟩ := HC.out k (by simpa using hlt)
      have HN := Lib.hid hn
      clear hn
      by_cases g1 : 1000000000000 < n
      · go_wp2
        go_ret
        exact ⟨rfl, HB.out⟩
      · by_cases g2 : n < -1000000000000
        · go_wp2
          go_ret
          exact ⟨rfl, HB.out⟩
        · go_wp2
          go_round
          case rel =>
            refine ⟨k + 1, by omega, by go_num, ?_⟩
            rw [List.take_add_one, HN.out]
            intro m hm
            rcases List.mem_append.1 hm with hm | hm
            · exact HA.out m hm
            · simp at hm; subst hm; exact ⟨by omega, by omega⟩
          case measure => simp [intOf]; omega
    · obtain rfl : k = 5 := by omega
      exact absurd HA.out H.out
end Go.Proofs.Ytefbedineniejaa
