/- CostEmpties's region that draws its order: what comes of it, in whatever order. -/
import Derived.Test.YtefbedineniejaaDoorJoined10
namespace Go.Proofs.YtefbedineniejaaDoor
open Go.RowKit
open Go.Maps (Keyed)
set_option linter.unusedVariables false

def S19 : List Nat := [77, 78, 79, 80, 81, 82, 83, 84, 85, 86, 87, 88, 89, 90, 91, 92, 93, 94, 12, 13, 14]
def J19 (W0 : World) (es : List Evt) (vl : Value) (E : Nat → Evt) (L : Nat → Bool) (x : Nat → Value) (w : World) : Prop := ∃ p live, I19 W0 es vl E L x w p live
/-- What the region is entered with. -/
structure In19 (W0 : World) (a : Act) (es : List Evt) (vl : Value) (E : Nat → Evt) (B : Nat → Nat) : Prop where
  size : a.tmps.size = 187
  t0 : a.eval (.tmp 0) = vl
  t8 : ∀ k, k < 3 → a.eval (.tmp (8 + k)) = .pointer (some ⟨B k, 0, none⟩)
  bl : ∀ k, k < 3 → W0.heap[B k]? = some (.cells (E k).cells.toArray 50 (0, 0))
  rd : RdE W0.heap.size W0 vl es
  len : es.length ≤ 60
  sz : ∀ e ∈ es, e.item.size ≤ 1000000
  szE : ∀ k, k < 3 → (E k).item.size ≤ 1000000
theorem w_of {L : Nat → Bool} {i : Nat} (h : ∀ j, Region.waitsFor .any ops19 i j = true → L j = true) (j : Nat) (hk : Region.waitsFor .any ops19 i j = true) : L j = true := h j hk
section
variable {W0 : World} {a : Act} {es : List Evt} {vl : Value} {E : Nat → Evt} {B : Nat → Nat} {L : Nat → Bool} {x : Nat → Value} {w : World} {K : Act → World → Prop} {Q : Exit → Act → World → Prop} {o : Oper}
theorem s_mv (hin : In19 W0 a es vl E B) (k : Nat) (hk : k < 3) (hI : J19 W0 es vl E L x w) (hK : ∀ x' w', J19 W0 es vl E (upL L (6 * k)) x' w' → K (ov a S19 x') w') (hs : 77 + 6 * k ∈ S19) (hop : o.op = .move (.tmp 0)) (hd : o.dst = some (77 + 6 * k)) : o.wp Tryd.prog (ov a S19 x) w K Q := by
  obtain ⟨p, live, hI⟩ := hI
  refine wp_mv _ hop ?_
  rw [hd, ov_put hs, ov_old (by decide) (by rw [hin.size]; decide), hin.t0]
  exact hK _ _ ⟨p, live, hI.put_mv k hk⟩
theorem s_ld (hin : In19 W0 a es vl E B) (k : Nat) (hk : k < 3) (hI : J19 W0 es vl E L x w) (hK : ∀ x' w', J19 W0 es vl E (upL L (6 * k + 2)) x' w' → K (ov a S19 x') w') (hs : 79 + 6 * k ∈ S19) (hs2 : 8 + k ∉ S19) (hop : o.op = .load 50 (.tmp (8 + k))) (hd : o.dst = some (79 + 6 * k)) : o.wp Tryd.prog (ov a S19 x) w K Q := by
  obtain ⟨p, live, hI⟩ := hI
  refine wp_load _ _ (E k).agg w hop ?_ ?_
  · rw [ov_old hs2 (by rw [hin.size]; omega), hin.t8 k hk]
    have hb := hin.bl k hk
    exact run_ld7 w _ _ ((hI.bel.block _ (Array.getElem?_eq_some_iff.1 hb).1).trans hb)
  · rw [hd, ov_put hs]
    exact hK _ _ ⟨p, live, hI.put_ld k hk⟩
theorem live_lt {p : Nat} {live : Option Nat} (hI : I19 W0 es vl E L x w p live) : live ≠ some w.heap.size := fun e => by
  obtain ⟨cu, hc, -⟩ := hI.live_ty _ e
  have := (Array.getElem?_eq_some_iff.1 hc).1
  omega
theorem s_bd (hin : In19 W0 a es vl E B) (k : Nat) (hk : k < 3) (hI : J19 W0 es vl E L x w) (hK : ∀ x' w', J19 W0 es vl E (upL L (6 * k + 3)) x' w' → K (ov a S19 x') w') (hs : 80 + 6 * k ∈ S19) (hs2 : 79 + 6 * k ∈ S19) (hw : L (6 * k + 2) = true) (hop : o.op = .buildSlice 37 1 #[(0, .tmp (79 + 6 * k))]) (hd : o.dst = some (80 + 6 * k)) : o.wp Tryd.prog (ov a S19 x) w K Q := by
  obtain ⟨p, live, hI⟩ := hI
  refine wp_bs _ _ (.slice (some ⟨w.heap.size, 0, none⟩) 1 1) (w.alloc (.cells (E k).cells.toArray 50)) hop ?_ ?_
  · rw [ov_tmp hs2 (by rw [hin.size]; omega), hI.ld k hk hw]
    exact run_bs w (E k)
  · rw [hd, ov_put hs]
    have hb : Below w.heap.size w (w.alloc (.cells (E k).cells.toArray 50)) := (Below.refl _ w).new _
    exact hK _ _ ⟨p, live, (hI.mono hb).put_bd k hk _ hI.bel.size (World.alloc_heap_new _ _) (live_lt hI)⟩
theorem s_al (hin : In19 W0 a es vl E B) (k : Nat) (hk : k < 3) (hI : J19 W0 es vl E L x w) (hK : ∀ x' w', J19 W0 es vl E (upL L (18 + k)) x' w' → K (ov a S19 x') w') (hs : 12 + k ∈ S19) (hop : o.op = .alloc 43) (hd : o.dst = some (12 + k)) : o.wp Tryd.prog (ov a S19 x) w K Q := by
  obtain ⟨p, live, hI⟩ := hI
  refine wp_al _ _ _ hop (run_al w) ?_
  rw [hd, ov_put hs]
  have hb : Below w.heap.size w (w.alloc (.cells #[.slice none 0 0, .map none] 43)) := (Below.refl _ w).new _
  refine hK _ _ ⟨p, live, (hI.mono hb).put_al k hk _ hI.bel.size (World.alloc_heap_new _ _) fun j hj hjk hL e => ?_⟩
  obtain ⟨b, h1, h2, h3⟩ := hI.al j hj hL
  rw [h2] at e
  have := (Array.getElem?_eq_some_iff.1 h3).1
  injection e with e
  injection e with e
  injection e with e
  omega
theorem rd_then (hin : In19 W0 a es vl E B) (hb : Below W0.heap.size W0 w) : RdE W0.heap.size w vl es := hin.rd.below hb
theorem s_cl (hin : In19 W0 a es vl E B) (k : Nat) (hk : k < 3) (hI : J19 W0 es vl E L x w) (hu : L (6 * k + 1) = false) (hK : ∀ x' w', J19 W0 es vl E (upL L (6 * k + 1)) x' w' → K (ov a S19 x') w') (hs : 78 + 6 * k ∈ S19) (hs2 : 77 + 6 * k ∈ S19) (hw : L (6 * k) = true) (hw2 : ∀ j, k = j + 1 → L (6 * j + 5) = true) (hop : o.op = .call { callee := .value (.func 22), args := #[.tmp (77 + 6 * k)], argTypes := #[37] }) (hd : o.dst = some (78 + 6 * k)) : o.wp Tryd.prog (ov a S19 x) w K Q := by
  obtain ⟨p, live, hI⟩ := hI
  have hp : p = 3 * k := by
    have h1 := hI.fl1 k hk
    rw [hu] at h1
    have h1 := of_decide_eq_false h1.symm
    cases k with
    | zero => omega
    | succ j =>
      have h2 := hI.fl5 j (by omega)
      rw [hw2 j rfl] at h2
      have h2 := of_decide_eq_true h2.symm
      omega
  refine wp_call _ _ _ hop (enters_of Tryd.func22 (by kernel_rfl) rfl) ?_
  rw [ov_tmp hs2 (by rw [hin.size]; omega), hI.mv k hk hw]
  refine (cloneE_any W0.heap.size vl es w (rd_then hin hI.bel) hI.bel.size (by have := hin.len; omega)).mono ?_
  rintro e w' ⟨v', rfl, ho, hb⟩
  refine ⟨v', rfl, ?_⟩
  rw [hd, ov_put hs]
  exact hK _ _ ⟨_, _, hI.put_cl k hk hp v' hb ho⟩
theorem s_ap (hin : In19 W0 a es vl E B) (k : Nat) (hk : k < 3) (hI : J19 W0 es vl E L x w) (hu : L (6 * k + 4) = false) (hK : ∀ x' w', J19 W0 es vl E (upL L (6 * k + 4)) x' w' → K (ov a S19 x') w') (hs : 81 + 6 * k ∈ S19) (hs2 : 78 + 6 * k ∈ S19) (hs3 : 80 + 6 * k ∈ S19) (hw : L (6 * k + 1) = true) (hw2 : L (6 * k + 3) = true) (hop : o.op = .call { callee := .builtin .append, args := #[.tmp (78 + 6 * k), .tmp (80 + 6 * k)], argTypes := #[37, 37] }) (hd : o.dst = some (81 + 6 * k)) : o.wp Tryd.prog (ov a S19 x) w K Q := by
  obtain ⟨p, live, hI⟩ := hI
  have hp : p = 3 * k + 1 := by
    have h1 := hI.fl4 k hk
    rw [hu] at h1
    have h1 := of_decide_eq_false h1.symm
    have h2 := hI.fl1 k hk
    rw [hw] at h2
    have h2 := of_decide_eq_true h2.symm
    omega
  obtain ⟨i0, hinf, hiz, his, hib⟩ := info_parts info_evt
  obtain ⟨base, b1, b2, b3, b4⟩ := hI.cl k hk hp
  obtain ⟨b, c1, c2, c3, c4⟩ := hI.bd k hk hw2 (by omega)
  have hlen := hin.len
  refine wp_append_own w (.tmp (78 + 6 * k)) (.tmp (80 + 6 * k)) 37 hop base 50 i0 (.agg #[.int .i64 0, .string ⟨#[]⟩, .int .i64 0, .int .i64 0, .int .i64 0, .int .i64 0, .int .i64 0]) 7 64 Tryd.underlying37 hinf hiz his hib rfl (by decide) _ es.length (flE es) (ov_tmp hs2 (by rw [hin.size]; omega)) b3 ⟨b, 0, none⟩ 1 1 (E k).cells ((ov_tmp hs3 (by rw [hin.size]; omega)).trans c2) rfl (fun j u hj => ?_) (one_evt _) (by unfold maxLen; omega) (by omega) b2 ?_
  · rw [show (⟨b, 0, none⟩ : Addr).add j = ⟨b, j, none⟩ by simp [Addr.add]; omega]
    exact evt_cells c3 j u hj
  · intro v' w' ho hg _
    rw [hd, ov_put hs]
    rw [← b4] at hg
    refine hK _ _ ⟨_, _, hI.put_ap k hk hp v' hg ?_⟩
    refine rdE_of_own (base := base) (n := es.length + 1) ?_ (by simp)
    rw [flE_snoc]
    exact ho
theorem s_rn (hin : In19 W0 a es vl E B) (k : Nat) (hk : k < 3) (hI : J19 W0 es vl E L x w) (hu : L (6 * k + 5) = false) (hK : ∀ x' w', J19 W0 es vl E (upL L (6 * k + 5)) x' w' → K (ov a S19 x') w') (hs : 82 + 6 * k ∈ S19) (hs2 : 81 + 6 * k ∈ S19) (hw : L (6 * k + 4) = true) (hop : o.op = .call { callee := .value (.func 17), args := #[.tmp (81 + 6 * k)], argTypes := #[37] }) (hd : o.dst = some (82 + 6 * k)) : o.wp Tryd.prog (ov a S19 x) w K Q := by
  obtain ⟨p, live, hI⟩ := hI
  have hp : p = 3 * k + 2 := by
    have h1 := hI.fl5 k hk
    rw [hu] at h1
    have h1 := of_decide_eq_false h1.symm
    have h2 := hI.fl4 k hk
    rw [hw] at h2
    have h2 := of_decide_eq_true h2.symm
    omega
  have hr := hI.ap k hk hp
  obtain ⟨xa, xc, hx⟩ := hr.shape
  rw [hx] at hr
  refine wp_call _ _ _ hop (enters_of Tryd.func17 (by kernel_rfl) rfl) ?_
  rw [ov_tmp hs2 (by rw [hin.size]; omega), hx]
  refine (run_any _ _ _ _ w hr (by have := hin.len; simp; omega) (fun e he => ?_)).mono ?_
  · rcases List.mem_append.1 he with h | h
    · exact hin.sz e h
    · rw [List.mem_singleton.1 h]; exact hin.szE k hk
  · rintro e w' ⟨va, bl, rfl, ho, hk', hbl, hb⟩
    refine ⟨_, rfl, ?_⟩
    rw [hd, ov_put hs]
    exact hK _ _ ⟨_, _, hI.put_rn k hk hp _ hb ⟨va, bl, rfl, own_base_c ho hI.bel.size, hk'⟩⟩
end
set_option maxRecDepth 100000 in
set_option maxHeartbeats 4000000 in
theorem step19 {W0 : World} {a : Act} {es : List Evt} {vl : Value} {E : Nat → Evt} {B : Nat → Nat} {Q : Exit → Act → World → Prop} (hin : In19 W0 a es vl E B) : ∀ i, i < 21 → ∀ L x w, J19 W0 es vl E L x w → L i = false → (∀ j, Region.waitsFor .any ops19 i j = true → L j = true) → ∀ K : Act → World → Prop, (∀ x' w', J19 W0 es vl E (upL L i) x' w' → K (ov a S19 x') w') → ∃ o, ops19[i]? = some o ∧ o.guard = none ∧ o.wp Tryd.prog (ov a S19 x) w K Q := by
  intro i hi L x w hI hu hw K hK
  match i, hi with
  | 0, _ =>
    obtain ⟨o, ho, hg, hop, hd⟩ := op_at (i := 0) (op := .move (.tmp 0)) (d := some 77) (by kernel_rfl)
    exact ⟨o, ho, hg, s_mv hin 0 (by decide) hI hK (by decide) hop hd⟩
  | 1, _ =>
    obtain ⟨o, ho, hg, hop, hd⟩ := op_at (i := 1) (op := .call { callee := .value (.func 22), args := #[.tmp 77], argTypes := #[37] }) (d := some 78) (by kernel_rfl)
    exact ⟨o, ho, hg, s_cl hin 0 (by decide) hI hu hK (by decide) (by decide) (w_of hw 0 (by kernel_rfl)) (fun j hj => absurd hj (by omega)) hop hd⟩
  | 2, _ =>
    obtain ⟨o, ho, hg, hop, hd⟩ := op_at (i := 2) (op := .load 50 (.tmp 8)) (d := some 79) (by kernel_rfl)
    exact ⟨o, ho, hg, s_ld hin 0 (by decide) hI hK (by decide) (by decide) hop hd⟩
  | 3, _ =>
    obtain ⟨o, ho, hg, hop, hd⟩ := op_at (i := 3) (op := .buildSlice 37 1 #[(0, .tmp 79)]) (d := some 80) (by kernel_rfl)
    exact ⟨o, ho, hg, s_bd hin 0 (by decide) hI hK (by decide) (by decide) (w_of hw 2 (by kernel_rfl)) hop hd⟩
  | 4, _ =>
    obtain ⟨o, ho, hg, hop, hd⟩ := op_at (i := 4) (op := .call { callee := .builtin .append, args := #[.tmp 78, .tmp 80], argTypes := #[37, 37] }) (d := some 81) (by kernel_rfl)
    exact ⟨o, ho, hg, s_ap hin 0 (by decide) hI hu hK (by decide) (by decide) (by decide) (w_of hw 1 (by kernel_rfl)) (w_of hw 3 (by kernel_rfl)) hop hd⟩
  | 5, _ =>
    obtain ⟨o, ho, hg, hop, hd⟩ := op_at (i := 5) (op := .call { callee := .value (.func 17), args := #[.tmp 81], argTypes := #[37] }) (d := some 82) (by kernel_rfl)
    exact ⟨o, ho, hg, s_rn hin 0 (by decide) hI hu hK (by decide) (by decide) (w_of hw 4 (by kernel_rfl)) hop hd⟩
  | 6, _ =>
    obtain ⟨o, ho, hg, hop, hd⟩ := op_at (i := 6) (op := .move (.tmp 0)) (d := some 83) (by kernel_rfl)
    exact ⟨o, ho, hg, s_mv hin 1 (by decide) hI hK (by decide) hop hd⟩
  | 7, _ =>
    obtain ⟨o, ho, hg, hop, hd⟩ := op_at (i := 7) (op := .call { callee := .value (.func 22), args := #[.tmp 83], argTypes := #[37] }) (d := some 84) (by kernel_rfl)
    exact ⟨o, ho, hg, s_cl hin 1 (by decide) hI hu hK (by decide) (by decide) (w_of hw 6 (by kernel_rfl)) (fun j hj => by (have e : j = 0 := by omega); subst e; exact w_of hw 5 (by kernel_rfl)) hop hd⟩
  | 8, _ =>
    obtain ⟨o, ho, hg, hop, hd⟩ := op_at (i := 8) (op := .load 50 (.tmp 9)) (d := some 85) (by kernel_rfl)
    exact ⟨o, ho, hg, s_ld hin 1 (by decide) hI hK (by decide) (by decide) hop hd⟩
  | 9, _ =>
    obtain ⟨o, ho, hg, hop, hd⟩ := op_at (i := 9) (op := .buildSlice 37 1 #[(0, .tmp 85)]) (d := some 86) (by kernel_rfl)
    exact ⟨o, ho, hg, s_bd hin 1 (by decide) hI hK (by decide) (by decide) (w_of hw 8 (by kernel_rfl)) hop hd⟩
  | 10, _ =>
    obtain ⟨o, ho, hg, hop, hd⟩ := op_at (i := 10) (op := .call { callee := .builtin .append, args := #[.tmp 84, .tmp 86], argTypes := #[37, 37] }) (d := some 87) (by kernel_rfl)
    exact ⟨o, ho, hg, s_ap hin 1 (by decide) hI hu hK (by decide) (by decide) (by decide) (w_of hw 7 (by kernel_rfl)) (w_of hw 9 (by kernel_rfl)) hop hd⟩
  | 11, _ =>
    obtain ⟨o, ho, hg, hop, hd⟩ := op_at (i := 11) (op := .call { callee := .value (.func 17), args := #[.tmp 87], argTypes := #[37] }) (d := some 88) (by kernel_rfl)
    exact ⟨o, ho, hg, s_rn hin 1 (by decide) hI hu hK (by decide) (by decide) (w_of hw 10 (by kernel_rfl)) hop hd⟩
  | 12, _ =>
    obtain ⟨o, ho, hg, hop, hd⟩ := op_at (i := 12) (op := .move (.tmp 0)) (d := some 89) (by kernel_rfl)
    exact ⟨o, ho, hg, s_mv hin 2 (by decide) hI hK (by decide) hop hd⟩
  | 13, _ =>
    obtain ⟨o, ho, hg, hop, hd⟩ := op_at (i := 13) (op := .call { callee := .value (.func 22), args := #[.tmp 89], argTypes := #[37] }) (d := some 90) (by kernel_rfl)
    exact ⟨o, ho, hg, s_cl hin 2 (by decide) hI hu hK (by decide) (by decide) (w_of hw 12 (by kernel_rfl)) (fun j hj => by (have e : j = 1 := by omega); subst e; exact w_of hw 11 (by kernel_rfl)) hop hd⟩
  | 14, _ =>
    obtain ⟨o, ho, hg, hop, hd⟩ := op_at (i := 14) (op := .load 50 (.tmp 10)) (d := some 91) (by kernel_rfl)
    exact ⟨o, ho, hg, s_ld hin 2 (by decide) hI hK (by decide) (by decide) hop hd⟩
  | 15, _ =>
    obtain ⟨o, ho, hg, hop, hd⟩ := op_at (i := 15) (op := .buildSlice 37 1 #[(0, .tmp 91)]) (d := some 92) (by kernel_rfl)
    exact ⟨o, ho, hg, s_bd hin 2 (by decide) hI hK (by decide) (by decide) (w_of hw 14 (by kernel_rfl)) hop hd⟩
  | 16, _ =>
    obtain ⟨o, ho, hg, hop, hd⟩ := op_at (i := 16) (op := .call { callee := .builtin .append, args := #[.tmp 90, .tmp 92], argTypes := #[37, 37] }) (d := some 93) (by kernel_rfl)
    exact ⟨o, ho, hg, s_ap hin 2 (by decide) hI hu hK (by decide) (by decide) (by decide) (w_of hw 13 (by kernel_rfl)) (w_of hw 15 (by kernel_rfl)) hop hd⟩
  | 17, _ =>
    obtain ⟨o, ho, hg, hop, hd⟩ := op_at (i := 17) (op := .call { callee := .value (.func 17), args := #[.tmp 93], argTypes := #[37] }) (d := some 94) (by kernel_rfl)
    exact ⟨o, ho, hg, s_rn hin 2 (by decide) hI hu hK (by decide) (by decide) (w_of hw 16 (by kernel_rfl)) hop hd⟩
  | 18, _ =>
    obtain ⟨o, ho, hg, hop, hd⟩ := op_at (i := 18) (op := .alloc 43) (d := some 12) (by kernel_rfl)
    exact ⟨o, ho, hg, s_al hin 0 (by decide) hI hK (by decide) hop hd⟩
  | 19, _ =>
    obtain ⟨o, ho, hg, hop, hd⟩ := op_at (i := 19) (op := .alloc 43) (d := some 13) (by kernel_rfl)
    exact ⟨o, ho, hg, s_al hin 1 (by decide) hI hK (by decide) hop hd⟩
  | 20, _ =>
    obtain ⟨o, ho, hg, hop, hd⟩ := op_at (i := 20) (op := .alloc 43) (d := some 14) (by kernel_rfl)
    exact ⟨o, ho, hg, s_al hin 2 (by decide) hI hK (by decide) hop hd⟩
  | n + 21, h => exact absurd h (by omega)
end Go.Proofs.YtefbedineniejaaDoor
