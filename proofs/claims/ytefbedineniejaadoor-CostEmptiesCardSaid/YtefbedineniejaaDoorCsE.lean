/- Cloning layers, and finding one. -/
import Derived.Test.YtefbedineniejaaDoorCsD
import Derived.Laws.AppendOwnNone
namespace Go.Proofs.YtefbedineniejaaDoor
open Go.RowKit
open Go.Maps (Keyed)
set_option linter.unusedVariables false

theorem one_lay (ls : List Lay) : ∀ u ∈ flY ls, u.oneCell' = true := by
  intro u hu
  simp only [flY, List.mem_flatMap] at hu
  obtain ⟨p, -, hp⟩ := hu
  simp only [Lay.cells, List.mem_cons, List.not_mem_nil, or_false] at hp
  rcases hp with rfl | rfl | rfl <;> rfl
theorem own_empty_y (w : World) (base : Nat) (e : TypeId) (size : Nat) (hb : base ≤ w.heap.size) : (w.alloc (.cells #[] e)).ownsRow base e size (.slice (some ⟨w.heap.size, 0, none⟩) 0 0) 0 [] :=
  ⟨by simp, Or.inr ⟨w.heap.size, 0, #[], rfl, hb, by show (w.heap.push _)[w.heap.size]? = _; simp, by omega, by simp [maxLen], by simp, by simp⟩⟩
def OwnY (w : World) (base : Nat) (v : Value) (ls : List Lay) : Prop := w.ownsRow base 58 3 v ls.length (flY ls)
theorem OwnY.rd {w : World} {base : Nat} {v : Value} {ls : List Lay} (h : OwnY w base v ls) : RdY w v ls := by
  obtain ⟨hl, h'⟩ := id h
  obtain ⟨a, cap, rfl, hr, h1, h2⟩ := rd_of_own h
  have hw := h.2
  refine ⟨a, cap, rfl, h1, h2, fun ha => ?_, hr, fun p hp => ?_⟩
  rotate_left
  · subst hp
    rcases hw with ⟨e, -⟩ | ⟨g, cp, cur, e, -, hg, -⟩
    · cases e
    · injection e with e1 e2; injection e1 with e1; subst e1
      exact ⟨cur, (0, 0), hg⟩
  subst ha
  rcases h' with ⟨e, -⟩ | ⟨g, cp, cur, e, -⟩
  · injection e
  · injection e with e1; cases e1
set_option maxHeartbeats 1000000 in
set_option maxRecDepth 100000 in
theorem cloneY_any (v : Value) (ls : List Lay) (w : World) (h : RdY w v ls) (hl : ls.length ≤ 1000) :
    Calls Tryd.prog 86 #[v] w fun e w' => ∃ v', e = .returned v' ∧ OwnY w' w.heap.size v' ls ∧ Below w.heap.size w w' := by
  obtain ⟨i0, hi, hiz, his, hib⟩ := info_parts info_lay
  obtain ⟨a, c, rfl, h2, h3, h4, h5⟩ := h
  cases a with
  | none =>
    have := h4 rfl
    subst this
    obtain rfl : ls = [] := List.length_eq_zero_iff.1 (by omega)
    go_enter Tryd.func86, Tryd.ntmps86
    have k0 := fun (w : World) => Lib.run_eql_slice_nil (P := Tryd.prog) w
    go_wp2
    go_ret
    exact ⟨_, rfl, World.ownsRow_nil _ _ _ _, Below.refl _ _⟩
  | some ad =>
    have HR := Lib.hid h5.1
    clear h5
    have k0 := fun (w : World) => Lib.run_eql_slice_nil (P := Tryd.prog) w 55 58 (some ad) ls.length c 0 0 Tryd.underlying55
    have hcs : ∀ j u, (flY ls)[j]? = some u → (w.alloc (.cells #[] 58)).cell? (ad.add j) = some u := rd_cells (HR.out.alloc _)
    have HCS := Lib.hid hcs
    clear hcs
    go_enter Tryd.func86, Tryd.ntmps86
    go_wp2_with (first
      | (at_builtin; refine wpList_append_own _ rfl (.tmp 5) (.tmp 6) 55 rfl w.heap.size 58 i0 (.agg #[.int .i64 0, .int .i64 0, .int .i64 0]) 3 24 Tryd.underlying55 hi hiz his hib rfl (by decide) _ 0 [] rfl (own_empty_y _ _ _ _ (Nat.le_refl _)) ad ls.length c (flY ls) rfl (flY_len ls) HCS.out (one_lay ls) (by unfold maxLen; omega) (by omega) (by simp) ?_; intro v2 w2 hown2 hg2 _))
    go_ret
    refine ⟨v2, rfl, ?_, ((Below.refl _ w).new _).owngrown (own_empty_y _ _ 58 3 (Nat.le_refl _)) hg2 (by simp)⟩
    unfold OwnY
    simpa using hown2
set_option maxHeartbeats 1000000 in
set_option maxRecDepth 100000 in
theorem charge1_any (i q v o : Int) (B : Nat) (w : World) (hB : w.cell? ⟨B, 5, none⟩ = some (.int .i64 o)) :
    Calls Tryd.prog 88 #[.agg #[.int .i64 i, .int .i64 q, .int .i64 v], .pointer (some ⟨B, 0, none⟩)] w fun e w' => e = .returned (.bool (i == o)) ∧ Below w.heap.size w w' := by
  have hBl : B < w.heap.size := cell_blk hB
  go_enter Tryd.func88, Tryd.ntmps88
  go_wp2
  go_ret
  exact ⟨rfl, (Below.refl _ w).new _⟩
set_option maxHeartbeats 1000000 in
set_option maxRecDepth 100000 in
theorem indexY_any (v : Value) (ls : List Lay) (o : Int) (B : Nat) (w : World) (h : RdY w v ls) (hl : ls.length ≤ 1000) (hB : w.cell? ⟨B, 5, none⟩ = some (.int .i64 o)) :
    Calls Tryd.prog 87 #[v, .func (.func 88) #[] #[.pointer (some ⟨B, 0, none⟩)]] w fun e w' =>
      ((∃ k : Nat, ∃ hk : k < ls.length, e = .returned (.int .i64 k) ∧ ls[k].id = o ∧ ∀ j (hj : j < k), ls[j].id ≠ o) ∨ (e = .returned (.int .i64 (-1)) ∧ ∀ x ∈ ls, x.id ≠ o)) ∧ Below w.heap.size w w' := by
  have hv := h
  obtain ⟨a, c, rfl, -⟩ := hv
  have HR : Aside (RdY w (.slice a ls.length c) ls) := h
  have H1 := Lib.hid (fun i q v W hB => charge1_any i q v o B W hB)
  clear h
  go_enter Tryd.func87, Tryd.ntmps87
  go_wp2
  go_loopg [8] ls.length (fun kx i wr => ∃ k : Nat, k ≤ ls.length ∧ i = .int .i64 k ∧ ls.length - k ≤ kx ∧ Hid (∀ j (hj : j < k) (h2 : j < ls.length), ls[j].id ≠ o) ∧ Below w.heap.size w wr)
  case atStart => exact ⟨0, by omega, rfl, by omega, fun j hj => absurd hj (by omega), Below.refl _ _⟩
  case round =>
    obtain ⟨k, hk, rfl, hkx, HN, hb⟩ := hrel
    by_cases hlt : k < ls.length
    · have hltz : (k : Int) < (ls.length : Int) := by omega
      obtain ⟨-, b, off, rfl, p0, p1, p2⟩ := (HR.out.below hb).at k hlt
      have hBr := (hb.cell (cell_blk hB)).trans hB
      obtain ⟨x, hx⟩ : ∃ x, x = ls[k] := ⟨_, rfl⟩
      rw [← hx] at p0 p1 p2
      have HX := Lib.hid hx
      obtain ⟨i, q, u⟩ := x
      simp only at p0 p1 p2
      have HC := Lib.hid (H1.out i q u wr hBr)
      clear hx
      by_cases he : i = o
      · subst he
        have heb : (i == i) = true := by simp
        rw [heb] at HC
        go_wp2_with (go_at_call 88; refine HC.out.mono ?_; rintro e w2 ⟨rfl, hb2⟩)
        (try simp only [Exit.inBlock, Exit.then])
        refine bodyPost_ret (results_tmp rfl _ _ _) rfl ?_
        exact ⟨.inl ⟨k, hlt, rfl, by rw [← HX.out], fun j hj => HN.out j hj (by omega)⟩, hb.step hb2⟩
      · have heb : (i == o) = false := by simpa using he
        rw [heb] at HC
        go_wp2_with (go_at_call 88; refine HC.out.mono ?_; rintro e w2 ⟨rfl, hb2⟩)
        go_roundg (ls.length - (k + 1))
        case measure => omega
        case rel =>
          refine ⟨k + 1, hlt, by first | rfl | go_num | (congr 1; omega), Nat.le_refl _, (show Hid _ from fun j hj h2 => ?_), hb.step hb2⟩
          by_cases hjk : j = k
          · subst hjk; rw [← HX.out]; exact he
          · exact HN.out j (by omega) h2
    · have hltz : ¬ (k : Int) < (ls.length : Int) := by omega
      go_wp2
      go_ret
      refine ⟨.inr ⟨rfl, fun x hx => ?_⟩, hb⟩
      obtain ⟨j, hj, rfl⟩ := List.getElem_of_mem hx
      exact HN.out j (by omega) hj
end Go.Proofs.YtefbedineniejaaDoor
