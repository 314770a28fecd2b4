/- tallymanref.Run under way: what its world holds. -/
import Derived.Test.YtpbbbiifeihkaaaGreatDoorRuC
namespace Go.Proofs.YtpbbbiifeihkaaaGreatDoor
open Go.RowKit
open Go.Maps (Keyed)
set_option linter.unusedVariables false

theorem rr_cells {W : World} {R : Nat} {va m : Value} (h : W.heap[R]? = some (.cells #[va, m] 28 (0, 0))) : W.cell? ⟨R, 0, none⟩ = some va ∧ W.cell? ⟨R, 1, none⟩ = some m ∧ W.frozen? ⟨R, 0, none⟩ = false ∧ W.frozen? ⟨R, 1, none⟩ = false := by
  refine ⟨?_, ?_, ?_, ?_⟩ <;> simp [World.cell?, World.frozen?, h]
/-- The run's world: what it was called in is as it was; the result at R, its lines a row of its own; the events in their order. -/
structure RQ (w wr : World) (bl bm R c : Nat) (va : Value) (lns : List Ln) (lay : List UInt8 → List Lay) (last : List UInt8 → Int) (v2 : Value) (es : List Evt) : Prop where
  bel : Below w.heap.size w wr
  q : QW wr w.heap.size bl bm c lay last
  lo : w.heap.size ≤ bl ∧ w.heap.size ≤ bm ∧ w.heap.size < R
  r : wr.heap[R]? = some (.cells #[va, .map (some bl)] 28 (0, 0))
  ln : wr.ownsRow w.heap.size 33 5 va lns.length (flN lns)
  t2 : wr.heap[w.heap.size]? = some (.cells #[.slice none 0 0, .map none] 28 (0, 0))
  ev : wr.ownsRow w.heap.size 24 7 v2 es.length (flE es)
section
variable {w wr w' : World} {bl bm R c c' E X : Nat} {va v2 : Value} {lns : List Ln} {lay lay' : List UInt8 → List Lay} {last last' : List UInt8 → Int} {es : List Evt} {e : Evt} {x x' : Ln}
theorem RQ.lv (h : RQ w wr bl bm R c va lns lay last v2 es) (hl : Lv w.heap.size bl bm wr w') (hq : QW w' w.heap.size bl bm c' lay' last') : RQ w w' bl bm R c' va lns lay' last' v2 es where
  bel := ⟨hl.os.trans h.bel.os, hl.tape.trans h.bel.tape, hl.output.trans h.bel.output, Nat.le_trans h.bel.size hl.size, fun k hk => (hl.block k (Nat.lt_of_lt_of_le hk h.bel.size) (by have := h.lo.1; omega) (by have := h.lo.2.1; omega) (.inl hk)).trans (h.bel.block k hk)⟩
  q := hq
  lo := h.lo
  r := hl.cells h.q h.r (by decide)
  ln := hl.own h.q h.ln (by decide)
  t2 := hl.cells h.q h.t2 (by decide)
  ev := hl.own h.q h.ev (by decide)
theorem RQ.below (h : RQ w wr bl bm R c va lns lay last v2 es) (hb : Below wr.heap.size wr w') : RQ w w' bl bm R c va lns lay last v2 es := h.lv (Lv.of_below hb) (h.q.below hb)
theorem own_gbx {w w' : World} {base e size n X : Nat} {v : Value} {xs : List Value} (h : w.ownsRow base e size v n xs) (hg : w.grownBy w' (some X)) (hX : v.ownBlock ≠ some X) : w'.ownsRow base e size v n xs := h.kept hg (.inr hX)
theorem own_nx {w : World} {base e size n X : Nat} {v : Value} {xs : List Value} {cur : Array Value} {t : TypeId} {fz : Nat × Nat} (h : w.ownsRow base e size v n xs) (hX : w.heap[X]? = some (.cells cur t fz)) (ht : t ≠ e) : v.ownBlock ≠ some X := by
  intro hv
  obtain ⟨-, -, cu, hc⟩ := own_at h hv
  rw [hc] at hX
  injection hX with hX
  injection hX with _ hX
  exact ht hX.symm
/-- A cell of a line's own box is written. -/
theorem RQ.setx (h : RQ w wr bl bm R c va lns lay last v2 es) (hx : wr.heap[X]? = some x.ob) (hnx : va.ownBlock ≠ some X) (hX : w.heap.size ≤ X) (j : Nat) (u : Value) : RQ w (wr.setCell ⟨X, j, none⟩ u) bl bm R c va lns lay last v2 es where
  bel := h.bel.grown (gb_set wr X j u) h.bel.size (fun k hk => by injection hk with hk; omega)
  q := h.q.turn (gb_set wr X j u) hx (by decide)
  lo := h.lo
  r := ((gb_set wr X j u).block R (Array.getElem?_eq_some_iff.1 h.r).1 (fun e => by injection e with e; rw [← e, h.r] at hx; injection hx with hx; injection hx with _ hx; cases hx)).trans h.r
  ln := own_gbx h.ln (gb_set wr X j u) hnx
  t2 := ((gb_set wr X j u).block _ (Array.getElem?_eq_some_iff.1 h.t2).1 (fun e => by injection e with e; rw [← e, h.t2] at hx; injection hx with hx; injection hx with _ hx; cases hx)).trans h.t2
  ev := own_gbx h.ev (gb_set wr X j u) (own_nx h.ev hx (by decide))
/-- A line more. -/
theorem RQ.app {v3 : Value} (h : RQ w wr bl bm R c va lns lay last v2 es) (hg : wr.grownBy w' va.ownBlock) (ho : w'.ownsRow w.heap.size 33 5 v3 (lns.length + 1) (flN lns ++ x.cells)) : RQ w (w'.setCell ⟨R, 0, none⟩ v3) bl bm R c v3 (lns ++ [x]) lay last v2 es := by
  have hR : va.ownBlock ≠ some R := own_nx h.ln h.r (by decide)
  have hT : va.ownBlock ≠ some w.heap.size := own_nx h.ln h.t2 (by decide)
  obtain ⟨b1, q1, r1, t1, e1⟩ : Below w.heap.size w w' ∧ QW w' w.heap.size bl bm c lay last ∧ w'.heap[R]? = some (.cells #[va, .map (some bl)] 28 (0, 0)) ∧ w'.heap[w.heap.size]? = some (.cells #[.slice none 0 0, .map none] 28 (0, 0)) ∧ w'.ownsRow w.heap.size 24 7 v2 es.length (flE es) := by
    refine ⟨h.bel.owngrown h.ln hg (Nat.le_refl _), ?_, ?_, ?_, ?_⟩
    · cases hv : va.ownBlock with
      | none => rw [hv] at hg; exact h.q.below ⟨hg.os, hg.tape, hg.output, hg.size, fun k hk => hg.block k hk (by simp)⟩
      | some g =>
        obtain ⟨-, -, cu, hc⟩ := own_at h.ln hv
        rw [hv] at hg
        exact h.q.turn hg hc (by decide)
    · exact (hg.block R (Array.getElem?_eq_some_iff.1 h.r).1 (fun e => hR e.symm)).trans h.r
    · exact (hg.block _ (Array.getElem?_eq_some_iff.1 h.t2).1 (fun e => hT e.symm)).trans h.t2
    · refine h.ev.kept hg ?_
      cases hv : v2.ownBlock with
      | none => exact .inl rfl
      | some g =>
        refine .inr (fun e => ?_)
        obtain ⟨-, -, cu, hc⟩ := own_at h.ev hv
        exact own_nx h.ln hc (by decide) e.symm
  exact ⟨b1.grown (gb_set w' R 0 v3) b1.size (fun k hk => by injection hk with hk; have := h.lo.2.2; omega), q1.turn (gb_set w' R 0 v3) r1 (by decide), h.lo, by rw [mid_self v3 r1]; rfl, by rw [flN_snoc, List.length_append]; exact own_gbx ho (gb_set w' R 0 v3) (own_nx ho r1 (by decide)),
      ((gb_set w' R 0 v3).block _ (Array.getElem?_eq_some_iff.1 t1).1 (fun e => by injection e with e; have := h.lo.2.2; omega)).trans t1, own_gbx e1 (gb_set w' R 0 v3) (own_nx e1 r1 (by decide))⟩
/-- .. within a round: the event in its box at E, its line in its box at X. -/
structure RS (w wr : World) (bl bm R E X c : Nat) (va : Value) (lns : List Ln) (lay : List UInt8 → List Lay) (last : List UInt8 → Int) (v2 : Value) (es : List Evt) (e : Evt) (x : Ln) : Prop where
  s : RQ w wr bl bm R c va lns lay last v2 es
  e : wr.heap[E]? = some e.ob
  x : wr.heap[X]? = some x.ob
  nx : va.ownBlock ≠ some X
  lx : w.heap.size ≤ X
theorem RS.lv (h : RS w wr bl bm R E X c va lns lay last v2 es e x) (hl : Lv w.heap.size bl bm wr w') (hq : QW w' w.heap.size bl bm c' lay' last') : RS w w' bl bm R E X c' va lns lay' last' v2 es e x :=
  ⟨h.s.lv hl hq, hl.cells h.s.q h.e (by decide), hl.cells h.s.q h.x (by decide), h.nx, h.lx⟩
theorem RS.li (h : RS w wr bl bm R E X c va lns lay last v2 es e x) (hl : Li bl bm wr w') (hq : QW w' w.heap.size bl bm c' lay' last') : RS w w' bl bm R E X c' va lns lay' last' v2 es e x := h.lv (Lv.of_li hl) hq
theorem RS.below (h : RS w wr bl bm R E X c va lns lay last v2 es e x) (hb : Below wr.heap.size wr w') : RS w w' bl bm R E X c va lns lay last v2 es e x := h.lv (Lv.of_below hb) (h.s.q.below hb)
theorem RS.setx (h : RS w wr bl bm R E X c va lns lay last v2 es e x) (j : Nat) (u : Value) (x' : Ln) (hx : (x.cells.toArray).setIfInBounds j u = x'.cells.toArray) : RS w (wr.setCell ⟨X, j, none⟩ u) bl bm R E X c va lns lay last v2 es e x' where
  s := h.s.setx h.x h.nx h.lx j u
  e := ((gb_set wr X j u).block E (Array.getElem?_eq_some_iff.1 h.e).1 (fun e' => by injection e' with e'; have hx := h.x; rw [← e', h.e] at hx; injection hx with hx; injection hx with _ hx; cases hx)).trans h.e
  x := by rw [mid_self u h.x]; show some (Obj.cells ((x.cells.toArray).setIfInBounds j u) _ _) = _; rw [hx]; rfl
  nx := h.nx
  lx := h.lx
theorem RS.mono (h : RS w wr bl bm R E X c va lns lay last v2 es e x) (hc : c ≤ c') : RS w wr bl bm R E X c' va lns lay last v2 es e x :=
  ⟨⟨h.s.bel, h.s.q.mono hc, h.s.lo, h.s.r, h.s.ln, h.s.t2, h.s.ev⟩, h.e, h.x, h.nx, h.lx⟩
end
section
variable {w wr w' : World} {bl bm R c c' E X : Nat} {va v2 : Value} {lns : List Ln} {lay lay' : List UInt8 → List Lay} {last last' : List UInt8 → Int} {es : List Evt} {e : Evt} {x x' : Ln}
theorem RQ.sumC (h : RQ w wr bl bm R c va lns lay last v2 es) (s : ByteArray) (hs : s.size ≤ maxLen) (hg : GoodY 20000000000000 (lay s.data.toList)) (hl : (lay s.data.toList).length ≤ 1000) :
    Calls Tryz.prog 9 #[.agg #[va, .map (some bl)], .string s] wr fun r w' => r = .returned (.tuple #[.int .i64 (sumQ (lay s.data.toList)), .int .i64 (sumV (lay s.data.toList))]) ∧ Below wr.heap.size wr w' := by
  obtain ⟨a, n, hv⟩ := own_slice h.ln
  exact refSum_any va bl lay s wr ⟨a, _, n, hv⟩ (h.q.looks s hs) hs hg hl
theorem RS.layC (h : RS w wr bl bm R E X c va lns lay last v2 es e x) (hs : e.item.size ≤ maxLen) (hc : c < 1000000) (hl : (lay e.key).length ≤ 1000) (q v : Int) :
    Calls Tryz.prog 37 #[.int .i64 q, .int .i64 v, .pointer (some ⟨R, 0, none⟩), .pointer (some ⟨E, 0, none⟩)] wr fun r w' => r = .returned (.tuple #[]) ∧ RS w w' bl bm R E X (c + 1) va lns (updL lay e.key (lay e.key ++ [⟨e.id, q, v⟩])) last v2 es e x := by
  obtain ⟨d0, d1, -⟩ := ev_cells h.e
  refine (refLay_any R E w.heap.size bl bm c lay last e.item e.id q v wr h.s.q (rr_cells h.s.r).2.1 d0 d1 h.s.bel.size hs hc hl).mono ?_
  rintro r w' ⟨rfl, hq, hli⟩
  exact ⟨rfl, h.li hli hq⟩
theorem RS.takeC (h : RS w wr bl bm R E X c va lns lay last v2 es e x) (hs : e.item.size ≤ maxLen) (hc : c < 1000000) (hl : (lay e.key).length ≤ 1000) (hg : GoodY 20000000000000 (lay e.key)) (n : Int) (hn : 0 ≤ n) (hn2 : n ≤ 1000000000) (hw : NW w) :
    Calls Tryz.prog 38 #[.pointer (some ⟨R, 0, none⟩), .string e.item, .int .i64 n] wr fun r w' => r = .returned (.tuple #[.int .i64 (takeP (lay e.key) n).1, .int .i64 (takeP (lay e.key) n).2.1]) ∧ RS w w' bl bm R E X (c + 1) va lns (updL lay e.key (takeP (lay e.key) n).2.2) last v2 es e x := by
  refine (refTake_any R w.heap.size bl bm c lay last e.item n wr h.s.q (rr_cells h.s.r).2.1 h.s.bel.size hs hc hl hg hn hn2 (hw.below h.s.bel)).mono ?_
  rintro r w' ⟨rfl, hq, hli⟩
  exact ⟨rfl, h.li hli hq⟩
theorem RS.setiC (h : RS w wr bl bm R E X c va lns lay last v2 es e x) (hs : e.item.size ≤ maxLen) (hc : c < 1000000) (n : Int) :
    ∃ w', (Instr.mapUpdate 92 (.map (some bm)) (.string e.item) (.int .i64 n)).run Tryz.prog wr = .ok () w' ∧ RS w w' bl bm R E X (c + 1) va lns lay (updL last e.key n) v2 es e x := by
  obtain ⟨w', h1, h2, h3⟩ := h.s.q.seti e.item hs (by unfold maxLen; omega) n
  exact ⟨w', h1, h.li h3 h2⟩
end
theorem updL_updL {β : Type} (L : List UInt8 → β) (s : List UInt8) (a b : β) : updL (updL L s a) s b = updL L s b := by
  funext x
  unfold updL
  split <;> rfl
theorem val_le {ls : List Lay} (h : ∀ x ∈ ls, 1 ≤ x.qty ∧ x.qty ≤ 100000 ∧ 0 ≤ x.val) {x : Lay} (hx : x ∈ ls) : x.val ≤ sumV ls := by
  induction ls with
  | nil => cases hx
  | cons y r ih =>
    rw [sumV_cons]
    have h1 := h y (by simp)
    have h2 := sumV_nn fun z hz => h z (List.mem_cons_of_mem _ hz)
    rcases List.mem_cons.1 hx with rfl | hx
    · omega
    · have := ih (fun z hz => h z (List.mem_cons_of_mem _ hz)) hx
      omega
theorem lay_fz {W : World} {g : Nat} {cur : Array Value} (h : W.heap[g]? = some (.cells cur 96 (0, 0))) (j : Nat) : W.frozen? ⟨g, j, none⟩ = false := by
  simp [World.frozen?, h]
/-- How it begins. -/
theorem rq_start (w : World) : ∃ W0 B, B = w.heap.size ∧ W0 = ((((w.alloc (.cells #[.slice none 0 0, .map none] 28)).alloc (.map #[] 0)).alloc (.cells #[.slice none 0 0, .map (some (B + 1))] 28)).alloc (.map #[] 0)) ∧
    W0.heap.size = B + 4 ∧ Below w.heap.size w W0 ∧ QW W0 w.heap.size (B + 1) (B + 3) 0 stk0.lay stk0.last ∧ W0.heap[B + 2]? = some (.cells #[.slice none 0 0, .map (some (B + 1))] 28 (0, 0)) ∧ W0.heap[B]? = some (.cells #[.slice none 0 0, .map none] 28 (0, 0)) := by
  obtain ⟨w1, h1⟩ : ∃ w1, w1 = w.alloc (.cells #[.slice none 0 0, .map none] 28) := ⟨_, rfl⟩
  obtain ⟨w2, h2⟩ : ∃ w2, w2 = w1.alloc (.map #[] 0) := ⟨_, rfl⟩
  obtain ⟨w3, h3⟩ : ∃ w3, w3 = w2.alloc (.cells #[.slice none 0 0, .map (some (w.heap.size + 1))] 28) := ⟨_, rfl⟩
  obtain ⟨w4, h4⟩ : ∃ w4, w4 = w3.alloc (.map #[] 0) := ⟨_, rfl⟩
  have s1 : w1.heap.size = w.heap.size + 1 := by rw [h1]; simp
  have s2 : w2.heap.size = w.heap.size + 2 := by rw [h2]; simp [s1]
  have s3 : w3.heap.size = w.heap.size + 3 := by rw [h3]; simp [s2]
  have s4 : w4.heap.size = w.heap.size + 4 := by rw [h4]; simp [s3]
  have b1 : Below w.heap.size w w1 := by rw [h1]; exact (Below.refl _ w).new _
  have b2 : Below w1.heap.size w1 w2 := by rw [h2]; exact (Below.refl _ w1).new _
  have b3 : Below w2.heap.size w2 w3 := by rw [h3]; exact (Below.refl _ w2).new _
  have b4 : Below w3.heap.size w3 w4 := by rw [h4]; exact (Below.refl _ w3).new _
  have m1 : MV Tryz.prog 9 (.slice none 0 0) w2 (w.heap.size + 1) [] (fun _ => .slice none 0 0) := by rw [h2, ← s1]; exact MV.made _ _ _ w1
  have m2 : MVI Tryz.prog 9 w4 (w.heap.size + 3) [] (fun _ => 0) := by rw [h4, ← s3]; exact MVI.made _ _ w3
  have t3 : w3.heap[w.heap.size + 2]? = some (.cells #[.slice none 0 0, .map (some (w.heap.size + 1))] 28 (0, 0)) := by rw [h3, ← s2]; exact World.alloc_heap_new w2 _
  have t4 := (b4.block (w.heap.size + 2) (by omega)).trans t3
  have q1 : w1.heap[w.heap.size]? = some (.cells #[.slice none 0 0, .map none] 28 (0, 0)) := by rw [h1]; exact World.alloc_heap_new w _
  have q4 := (b4.block _ (by omega)).trans ((b3.block _ (by omega)).trans ((b2.block _ (by omega)).trans q1))
  exact ⟨w4, w.heap.size, rfl, by rw [h4, h3, h2, h1], s4, ((b1.step b2).step b3).step b4, ⟨by omega, ⟨[], _, (m1.below b3).below b4, Nat.le_refl _, fun l => World.ownsRow_nil _ _ _ _, fun l l' g h => by cases h⟩, ⟨[], _, m2, Nat.le_refl _, fun l => rfl⟩⟩, t4, q4⟩
end Go.Proofs.YtpbbbiifeihkaaaGreatDoor
