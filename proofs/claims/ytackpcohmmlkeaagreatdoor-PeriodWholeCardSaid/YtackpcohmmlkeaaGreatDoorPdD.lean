/- Joined: PdE, PdD. -/
import Derived.Test.YtackpcohmmlkeaaGreatDoorPdO
import Derived.Test.YtackpcohmmlkeaaGreatDoorBkA
import Derived.Deep.RegionHeld

/- PdE: For Close: closes appended, the last stores. -/
section
namespace Go.Proofs.YtackpcohmmlkeaaGreatDoor
open Go.RowKit
set_option linter.unusedVariables false
set_option linter.unusedSimpArgs false

theorem slice_clipC (a : Option Addr) (n cap : Nat) (hc : n ≤ cap) (w : World) :
    (Instr.slice 41 (.slice a n cap) none (some (.int .i64 n)) (some (.int .i64 n))).run Tryz.prog w = .ok (.slice a n n) w := by
  cases a with
  | none => go_simp
  | some ad => go_simp
theorem clipC_any (a : Option Addr) (n cap : Nat) (hc : n ≤ cap) (w : World) :
    Calls Tryz.prog 48 #[.slice a n cap] w fun e w' => e = .returned (.slice a n n) ∧ w' = w := by
  have h := fun W => slice_clipC a n cap hc W
  go_enter Tryz.func48, Tryz.ntmps48
  go_wp2
  go_ret
  exact ⟨rfl, rfl⟩
theorem zerosC (n : Nat) : (Builtin.zeroCells (Value.cells (.agg #[.int .i64 0, .int .i64 0, .int .i64 0, .int .i64 0, .int .i64 0, .int .i64 0, .int .i64 0])) n).size = n * 7 := by
  simp [Builtin.zeroCells, Value.cells]
/-- The cells of closes, for reading. -/
def RdC (w : World) (a : Option Addr) (ls : List Cl) : Prop := ∀ ad, a = some ad → ∃ g, ad = ⟨g, 0, none⟩ ∧ g < w.heap.size ∧ ∀ j u, (flC ls)[j]? = some u → w.cell? ⟨g, j, none⟩ = some u
theorem RdC.below {w w' : World} {a : Option Addr} {ls : List Cl} (h : RdC w a ls) (hb : Below w.heap.size w w') : RdC w' a ls := fun ad ha => by
  obtain ⟨g, e, hg, hc⟩ := h ad ha
  exact ⟨g, e, Nat.lt_of_lt_of_le hg hb.size, fun j u hu => (hb.cell (p := ⟨g, j, none⟩) hg).trans (hc j u hu)⟩
theorem rdC_of_own {w : World} {base c : Nat} {a : Option Addr} {ls : List Cl} (h : w.ownsRow base 57 7 (.slice a ls.length c) ls.length (flC ls)) : RdC w a ls := fun ad ha => by
  subst ha
  have hlen : (flC ls).length = ls.length * 7 := flK_len cl_len ls
  rcases h.2 with ⟨e, -⟩ | ⟨g, cap, cur, e, hg, hc, hnc, hm, hs, ht⟩
  · cases e
  · injection e with e1 e2 e3
    injection e1 with e1
    subst e1
    refine ⟨g, rfl, (Array.getElem?_eq_some_iff.1 hc).1, fun j u hu => ?_⟩
    have hj : j < ls.length * 7 := by rw [← hlen]; exact (List.getElem?_eq_some_iff.1 hu).1
    rw [← ht, List.getElem?_take_of_lt hj] at hu
    simpa [World.cell?, hc] using hu
theorem rdC_cells {w : World} {ad : Addr} {ls : List Cl} (h : RdC w (some ad) ls) (j : Nat) (u : Value) (hu : (flC ls)[j]? = some u) : w.cell? (ad.add j) = some u := by
  obtain ⟨g, rfl, -, hc⟩ := h ad rfl
  have e0 : (⟨g, 0, none⟩ : Addr).add j = ⟨g, j, none⟩ := by simp [Addr.add]; omega
  rw [e0]
  exact hc j u hu
/-- 'append(s, c)', s a full slice of closes: all is laid anew. -/
theorem run_appC {w : World} (ty : TypeId) (a : Option Addr) (ls : List Cl) (v : Cl) (h : RdC w a ls) (h0 : a = none → ls = []) (ad : Addr) (c2 : Nat) (hr : ∀ j u, v.cells[j]? = some u → w.cell? (ad.add j) = some u) (hb : ls.length ≤ 100000) (base : Nat) (hB : base ≤ w.heap.size) :
    ∃ v' w', (Builtin.append_ #[41, 41] ty #[.slice a ls.length ls.length, .slice (some ad) 1 c2]).run Tryz.prog w = .ok v' w' ∧ w'.ownsRow base 57 7 v' (ls.length + 1) (flC (ls ++ [v])) ∧ Below w.heap.size w w' := by
  obtain ⟨i0, hi, hiz, his, hib⟩ := info_parts info_cl
  have hml : (100000 : Nat) + 1 ≤ maxLen := by unfold maxLen; omega
  have hfv : flC (ls ++ [v]) = flC ls ++ v.cells := by simp [flC, flK]
  cases a with
  | none =>
    have := h0 rfl
    subst this
    have hrun := run_append_nil (P := Tryz.prog) w 41 ty 57 i0 _ Tryz.underlying41 hi hiz ad 1 c2 v.cells (by rw [his]; rfl) hr (by omega) (by omega) (by rw [hib]; omega)
    refine ⟨_, _, hrun, ?_, (Below.refl _ w).drew.alloc (Nat.le_refl _) _⟩
    rw [hfv]
    exact own_fresh w _ 7 1 _ v.cells _ rfl (zerosC _) (grownCap_ge _ _ _ _) (grownCap_le_maxLen _ _ _ _ (by omega)) base hB
  | some b =>
    have hrun := run_append_grow (P := Tryz.prog) w 41 ty 57 i0 _ Tryz.underlying41 hi hiz b ls.length ls.length (flC ls) (by rw [flK_len cl_len, his]) (rdC_cells h) ad 1 c2 v.cells (by rw [his]; rfl) hr (by omega) (by omega) (growslice_fits (by omega) (by rw [hib]; omega))
    refine ⟨_, _, hrun, ?_, (Below.refl _ w).drew.alloc (Nat.le_refl _) _⟩
    rw [hfv]
    have := own_fresh w 57 7 (ls.length + 1) (grownCap w (ls.length + 1) ls.length 57) (flC ls ++ v.cells) _ (by rw [List.length_append, flK_len cl_len, cl_len]; omega) (zerosC _) (grownCap_ge _ _ _ _) (grownCap_le_maxLen _ _ _ _ (by omega)) base hB
    simpa using this
theorem wp_appC {w : World} {o : Oper} {a : Act} {K : Act → World → Prop} {Q : Exit → Act → World → Prop} (s x : Operand)
    (ho : o.op = .call { callee := .builtin .append, args := #[s, x], argTypes := #[41, 41] }) (sa : Option Addr) (ls : List Cl) (v : Cl) (hs : a.eval s = .slice sa ls.length ls.length) (h : RdC w sa ls) (h0 : sa = none → ls = [])
    (ad : Addr) (c2 : Nat) (hx : a.eval x = .slice (some ad) 1 c2) (hr : ∀ j u, v.cells[j]? = some u → w.cell? (ad.add j) = some u) (hb : ls.length ≤ 100000) (base : Nat) (hB : base ≤ w.heap.size)
    (hk : ∀ v' w', w'.ownsRow base 57 7 v' (ls.length + 1) (flC (ls ++ [v])) → Below w.heap.size w w' → K (a.put o.dst v') w') : o.wp Tryz.prog a w K Q := by
  obtain ⟨v', w', hrun, h2, h3⟩ := run_appC o.type sa ls v h h0 ad c2 hr hb base hB
  unfold Oper.wp execOp
  simp only [ho, resolve, invoke, builtin, Sem.run_bind, Sem.run_pure, Result.andThen_ok, List.map_toArray, List.map_cons, List.map_nil, hs, hx, hrun]
  exact hk v' w' h2 h3
theorem region_cutN {P : Program} {c : Code} {a : Act} {w : World} {Q : Exit → Act → World → Prop} {T : Nat → Act} (F : Nat → World → Prop) (h : c.wp P (fun e a' w' => e = .normal ∧ ∃ g, a' = T g ∧ F g w') a w) (hq : ∀ g w', F g w' → Q .normal (T g) w') : c.wp P Q a w :=
  wp_mono h fun e a' w' ⟨he, g, ha, hf⟩ => by subst he; subst ha; exact hq g w' hf
/-- The last stores of a close: its row, what all come to. -/
theorem close_fin {w1 w2 : World} {B O : Nat} {p : Pd} {v : Value} {c : Cl} {f : Fg} (h : PW w1 B O p) (hb : Below w1.heap.size w1 w2) (ho : w2.ownsRow (B + 1) 57 7 v (p.l.length + 1) (flC (p.l ++ [c]))) :
    (w2.setCell ⟨B, O, none⟩ v).there B (O + 1) 5 ∧ PW ((w2.setCell ⟨B, O, none⟩ v).setCells B (O + 1) f.cells) B O ⟨p.l ++ [c], f⟩ ∧ Cp B O w1 ((w2.setCell ⟨B, O, none⟩ v).setCells B (O + 1) f.cells) := by
  have hl := h.lt
  have h2 := h.below hb
  obtain ⟨cur, t, fz, e1, e2⟩ := h2.nt
  obtain ⟨v0, r0, -⟩ := h2.row
  have hcp : Cp B O w1 ((w2.setCell ⟨B, O, none⟩ v).setCells B (O + 1) f.cells) :=
    (((((((Cp.of_below (O := O) hb hl).set v ⟨Nat.le_refl _, by omega⟩).set (.int .i64 f.i) (j := O + 1) ⟨by omega, by omega⟩).set (.int .i64 f.o) (j := O + 1 + 1) ⟨by omega, by omega⟩).set (.int .i64 f.l) (j := O + 1 + 1 + 1) ⟨by omega, by omega⟩).set (.int .i64 f.g) (j := O + 1 + 1 + 1 + 1) ⟨by omega, by omega⟩).set (.int .i64 f.t) (j := O + 1 + 1 + 1 + 1 + 1) ⟨by omega, by omega⟩)
  have hth : (w2.setCell ⟨B, O, none⟩ v).there B (O + 1) 5 := by
    intro j hj
    constructor
    · have hs : ∃ u, p.sum.cells[j]? = some u := by
        have : j < p.sum.cells.length := hj
        exact ⟨_, List.getElem?_eq_getElem this⟩
      obtain ⟨u, hu⟩ := hs
      have h3 := h2.cs j u hu
      exact World.isSome_setCells B [v] O w2 ⟨B, O + 1 + j, none⟩ (by rw [h3]; rfl)
    · rw [World.frozen?_setCell]
      exact h2.fz _
  refine ⟨hth, ⟨?_, ?_, ?_, ?_⟩, hcp⟩
  · intro j u hu
    exact World.rangeAt_setCells_same _ B (O + 1) f.cells hth j u hu
  · intro j
    rw [World.frozen?_setCells, World.frozen?_setCell]
    exact h2.fz j
  · refine ⟨v, ?_, ?_⟩
    · rw [World.cell?_setCells_out B f.cells (O + 1) _ ⟨B, O, none⟩ (fun _ _ => by simp)]
      rw [cell_set O ⟨_, r0⟩, if_pos rfl]
    · have hne : v.ownBlock ≠ some B := by
        intro e
        rcases ho.2 with ⟨rfl, -⟩ | ⟨g, cap, cu, rfl, hg, -⟩
        · simp [Value.ownBlock] at e
        · have : g = B := by simpa [Value.ownBlock] using e
          omega
      have ho2 := own_gbxK ho (set_gb w2 B O v) hne
      have := own_gbxK ho2 (setCells_gb B f.cells (O + 1) _) hne
      simpa using this
  · obtain ⟨cur1, t1, fz1, a1, a2⟩ := h.nt
    obtain ⟨cur', h3⟩ := hcp.ty _ _ _ a1
    exact ⟨cur', t1, fz1, h3, a2⟩
theorem PW.gb {w w' : World} {B O X : Nat} {p : Pd} {cur : Array Value} {t : TypeId} {fz : Nat × Nat} (h : PW w B O p) (hg : w.grownBy w' (some X)) (hX : X ≠ B) (hx : w.heap[X]? = some (.cells cur t fz)) (ht : t ≠ 57) : PW w' B O p := by
  have hb : w'.heap[B]? = w.heap[B]? := hg.block B h.lt (fun e => by injection e with e; exact hX e.symm)
  obtain ⟨v, r0, ho⟩ := h.row
  obtain ⟨cu, t1, f1, e1, e2⟩ := h.nt
  refine ⟨fun j u hu => ?_, fun j => ?_, ⟨v, ?_, own_gbxK ho hg (own_nxK ho hx ht)⟩, ⟨cu, t1, f1, hb.trans e1, e2⟩⟩
  · have := h.cs j u hu
    simp only [World.cell?, hb] at this ⊢
    exact this
  · have := h.fz j
    simp only [World.frozen?, hb] at this ⊢
    exact this
  · simp only [World.cell?, hb] at r0 ⊢
    exact r0
theorem figA {W1 w6 : World} (hb : Below W1.heap.size W1 w6) (f : Fg) : Below W1.heap.size W1 ((w6.alloc fg0.ob).setCells w6.heap.size 0 f.cells) ∧ W1.heap.size ≤ w6.heap.size ∧ ((w6.alloc fg0.ob).setCells w6.heap.size 0 f.cells).heap[w6.heap.size]? = some f.ob :=
  ⟨below_gb (hb.new _) (setCells_gb w6.heap.size f.cells 0 _) hb.size (Nat.le_trans hb.size (by simp)), hb.size, fig_set (World.alloc_heap_new w6 fg0.ob) rfl f⟩
theorem figB {W1 w6 : World} (hb : Below (W1.alloc fg0.ob).heap.size (W1.alloc fg0.ob) w6) (f : Fg) : Below W1.heap.size W1 (w6.setCells W1.heap.size 0 f.cells) ∧ W1.heap.size ≤ W1.heap.size ∧ (w6.setCells W1.heap.size 0 f.cells).heap[W1.heap.size]? = some f.ob := by
  have h1 : Below W1.heap.size W1 w6 := ((Below.refl _ W1).new _).step hb
  exact ⟨below_gb h1 (setCells_gb W1.heap.size f.cells 0 _) (Nat.le_refl _) h1.size, Nat.le_refl _, fig_set ((hb.block W1.heap.size (by simp)).trans (World.alloc_heap_new W1 fg0.ob)) rfl f⟩
theorem leaf8 {W1 w' : World} {f2 : Fg} {T : Nat → Act} {a' : Act} (g : Nat) (hT : a' = T g) (h1 : Below W1.heap.size W1 w') (h2 : W1.heap.size ≤ g) (h3 : w'.heap[g]? = some f2.ob) : Exit.normal = Exit.normal ∧ ∃ g, a' = T g ∧ Below W1.heap.size W1 w' ∧ W1.heap.size ≤ g ∧ w'.heap[g]? = some f2.ob := ⟨rfl, g, hT, h1, h2, h3⟩
/-- A block laid within the call grows. -/
theorem cp_gb {B O X : Nat} {w w1 w2 : World} (h : Cp B O w w1) (hg : w1.grownBy w2 (some X)) (hX : w.heap.size ≤ X) (hB : B < w.heap.size) : Cp B O w w2 := by
  have hs := h.size
  have hb : w2.heap[B]? = w1.heap[B]? := hg.block B (by omega) (fun e => by injection e with e; omega)
  refine ⟨hg.os.trans h.os, hg.tape.trans h.tape, hg.output.trans h.output, Nat.le_trans hs hg.size, fun k hk hne => (hg.block k (by omega) (fun e => by injection e with e; omega)).trans (h.block k hk hne), fun o ho => ?_, fun o => ?_, fun cur t fz e => ?_⟩
  · rw [← h.far o ho]; simp only [World.cell?, hb]
  · rw [← h.frz o]; simp only [World.frozen?, hb]
  · obtain ⟨c1, e1⟩ := h.ty cur t fz e
    exact ⟨c1, hb.trans e1⟩
end Go.Proofs.YtackpcohmmlkeaaGreatDoor
end

/- PdD: Close. -/
section
namespace Go.Proofs.YtackpcohmmlkeaaGreatDoor
open Go.RowKit
set_option linter.unusedVariables false
set_option linter.unusedSimpArgs false

set_option maxHeartbeats 4000000 in
set_option maxRecDepth 100000 in
theorem pclose_any (B O Bb : Nat) (b : Bk) (p : Pd) (m : Int) (w : World) (hk : BkW w Bb b) (hp : PW w B O p) (hI : BkI b) (hJ : PdI b p) (hw : DW w) :
    Calls Tryz.prog 16 #[.pointer (some ⟨B, O, none⟩), .pointer (some ⟨Bb, 0, none⟩), .int .i64 m] w fun e w' => e = .returned (.tuple #[(p.close b m).2.1.agg, errB (p.close b m).2.2]) ∧ PW w' B O (p.close b m).1 ∧ Cp B O w w' := by
  have hpl := hJ.len
  have hB := hp.lt
  have HL : Hid (∀ W, Below w.heap.size w W → Calls Tryz.prog 47 #[.pointer (some ⟨B, O, none⟩)] W fun e w' => e = .returned (.int .i64 p.last) ∧ Below W.heap.size W w') := Lib.hid (fun W hW => plast_any B O p W (hp.below hW) (by omega))
  have HP := Lib.hid hp
  obtain ⟨w0, hw0⟩ : ∃ w0, w0 = w.alloc (.cells #[.int .i64 0, .int .i64 0, .int .i64 0, .int .i64 0, .int .i64 0] 29) := ⟨_, rfl⟩
  have hb0 : Below w.heap.size w w0 := by rw [hw0]; exact (Below.refl _ _).new _
  have h4 : w0.heap[w.heap.size]? = some fg0.ob := by rw [hw0]; exact World.alloc_heap_new w _
  have HB0 := Lib.hid hb0
  have H4 := Lib.hid h4
  have HW0 := Lib.hid hw0
  by_cases h1 : m < 0 ∨ 3300 ≤ m
  · rw [show p.close b m = (p, fg0, some 1) from if_pos h1]
    clear hw0 h4
    rcases h1 with h1 | h1
    · go_enter Tryz.func16, Tryz.ntmps16
      go_wp2_with fail
      exact bodyPost_ret (v := .tuple #[fg0.agg, errB (some 1)]) (by simp [results, Tryz.results16, go_sem, fg0, errB]) rfl ⟨rfl, hp.below (by rw [← HW0.out]; exact hb0), Cp.of_below (by rw [← HW0.out]; exact hb0) hB⟩
    · have h1' : ¬ m < 0 := by omega
      go_enter Tryz.func16, Tryz.ntmps16
      go_wp2_with fail
      exact bodyPost_ret (v := .tuple #[fg0.agg, errB (some 1)]) (by simp [results, Tryz.results16, go_sem, fg0, errB]) rfl ⟨rfl, hp.below (by rw [← HW0.out]; exact hb0), Cp.of_below (by rw [← HW0.out]; exact hb0) hB⟩
  have g1 : ¬ m < 0 := by omega
  have g2 : ¬ 3300 ≤ m := by omega
  by_cases h2 : m ≤ p.last
  · rw [show p.close b m = (p, fg0, some 10) from (if_neg h1).trans (if_pos h2)]
    generalize p.last = pl at HL h2
    clear hw0 h4 hb0 h1
    go_enter Tryz.func16, Tryz.ntmps16
    go_wp2_with fail
    rw [← HW0.out]
    refine (HL.out _ HB0.out).mono ?_
    rintro e w2 ⟨rfl, hb2⟩
    have hb02 := HB0.out.step hb2
    have h42 := (hb2.block w.heap.size (Array.getElem?_eq_some_iff.1 H4.out).1).trans H4.out
    have HT := fig_there h42 rfl
    obtain ⟨d0, d1, d2, d3, d4⟩ := fig_cells (fig_set h42 rfl fg0)
    have HBF := Lib.hid (below_gb hb02 (setCells_gb w.heap.size fg0.cells 0 w2) (Nat.le_refl _) hb02.size)
    go_wp2_with ((show Go.wpList _ _ _ ({ op := Go.Op.store _ _ _, .. } :: _) _ _; refine wpList_store_mid rfl 29 (.tmp 6) (.tmp 24) rfl w.heap.size 0 fg0.cells.toArray rfl rfl HT (by kernel_rfl) (all_oneCell_toArray (one_fg fg0)) ?_))
    exact bodyPost_ret (v := .tuple #[fg0.agg, errB (some 10)]) (by simp [results, Tryz.results16, go_sem, d0, d1, d2, d3, d4, errB]) rfl ⟨rfl, HP.out.below HBF.out, Cp.of_below HBF.out hB⟩
  by_cases h3 : p.l.length = 60
  · rw [show p.close b m = (p, fg0, some 12) from (if_neg h1).trans ((if_neg h2).trans (if_pos h3))]
    generalize p.last = pl at HL h2
    have hn : ((p.l.length : Int) == 60) = true := by simp [h3]
    clear hw0 h4 hb0 h1
    go_enter Tryz.func16, Tryz.ntmps16
    go_wp2_with fail
    rw [← HW0.out]
    refine (HL.out _ HB0.out).mono ?_
    rintro e w2 ⟨rfl, hb2⟩
    have hb02 := HB0.out.step hb2
    have h42 := (hb2.block w.heap.size (Array.getElem?_eq_some_iff.1 H4.out).1).trans H4.out
    have HT := fig_there h42 rfl
    obtain ⟨d0, d1, d2, d3, d4⟩ := fig_cells (fig_set h42 rfl fg0)
    have HBF := Lib.hid (below_gb hb02 (setCells_gb w.heap.size fg0.cells 0 w2) (Nat.le_refl _) hb02.size)
    obtain ⟨v, c0, ho⟩ := (HP.out.below hb02).row
    obtain ⟨xa, xc, rfl⟩ := own_slice ho
    have hB2 : B < w2.heap.size := cell_lt c0
    clear ho
    go_wp2_with ((show Go.wpList _ _ _ ({ op := Go.Op.store _ _ _, .. } :: _) _ _; refine wpList_store_mid rfl 29 (.tmp 6) (.tmp 33) rfl w.heap.size 0 fg0.cells.toArray rfl rfl HT (by kernel_rfl) (all_oneCell_toArray (one_fg fg0)) ?_))
    exact bodyPost_ret (v := .tuple #[fg0.agg, errB (some 12)]) (by simp [results, Tryz.results16, go_sem, d0, d1, d2, d3, d4, errB]) rfl ⟨rfl, HP.out.below HBF.out, Cp.of_below HBF.out hB⟩
  · rw [show p.close b m = (⟨p.l ++ [⟨m, b.turn, (allF (b.as (-1)) m).minus p.sum⟩], allF (b.as (-1)) m⟩, (allF (b.as (-1)) m).minus p.sum, none) from (if_neg h1).trans ((if_neg h2).trans (if_neg h3))]
    generalize p.last = pl at HL h2
    have hn : ((p.l.length : Int) == 60) = false := by simp; omega
    have hle := as_le hI (-1)
    have hok := as_ok hI (-1)
    have hal := allF_le (b.as (-1)) m (by omega)
    have hsl := hJ.total_le hI
    have HU : Hid (∀ a c W, Below w.heap.size w W → RdE W.heap.size W (.slice a (b.as (-1)).length c) (b.as (-1)) → Calls Tryz.prog 12 #[.slice a (b.as (-1)).length c, .int .i64 m] W (Gives (allF (b.as (-1)) m).agg W)) := Lib.hid fun a c W hW hr => until_any a _ c _ m W hr (hw.below hW) (by omega) (fun e he => (hok.1 e he).2.2) (fun e he => day_bd (hok.1 e he).2.2) hok.2
    generalize allF (b.as (-1)) m = f at HU hal ⊢
    have HMN : Hid (∀ W, Calls Tryz.prog 13 #[f.agg, p.sum.agg] W (Gives (f.minus p.sum).agg W)) := Lib.hid fun W => fminus_any f p.sum W (Fg.le_mono hal (by omega)) (Fg.le_mono hsl (by omega))
    generalize f.minus p.sum = f2 at HMN ⊢
    have HKW : Hid (∀ W, Below w.heap.size w W → BkW W Bb b) := Lib.hid fun W hW => hk.below hW
    have HI := Lib.hid hI
    clear hw0 h4 hb0 h1 hk hp hI hJ hw hle hok hal hsl
    go_enter Tryz.func16, Tryz.ntmps16
    go_wp2_with fail
    rw [← HW0.out]
    refine (HL.out _ HB0.out).mono ?_
    rintro e w2 ⟨rfl, hb2⟩
    have hb02 := HB0.out.step hb2
    have HB2 := Lib.hid hb02
    have H42 := Lib.hid ((hb2.block w.heap.size (Array.getElem?_eq_some_iff.1 H4.out).1).trans H4.out)
    obtain ⟨v, c0, ho⟩ := (HP.out.below hb02).row
    obtain ⟨xa, xc, rfl⟩ := own_slice ho
    have hB2 : B < w2.heap.size := cell_lt c0
    clear ho hb02 hb2 HL HB0 H4
    go_wp2_with fail
    refine (as_any Bb b (-1) _ (HKW.out _ HB2.out) HI.out).mono ?_
    rintro e w3 ⟨v3, rfl, ho3, hb3⟩
    obtain ⟨xa3, xc3, rfl⟩ := own_slice ho3
    have hr3 := Lib.hid (rdE_of_own ho3 rfl)
    have HB3 := Lib.hid (HB2.out.step hb3)
    have H43 := Lib.hid ((hb3.block w.heap.size (Array.getElem?_eq_some_iff.1 H42.out).1).trans H42.out)
    clear ho3 hb3 H42
    go_wp2_with fail
    refine (HU.out xa3 xc3 w3 HB3.out hr3.out).mono ?_
    rintro e w4 ⟨rfl, hb4⟩
    have HB4 := Lib.hid ((HB3.out.step hb4).new f.ob)
    have H44 := Lib.hid ((((Below.refl w4.heap.size w4).new f.ob).block w.heap.size (by have := (HB3.out.step hb4).size; have := (Array.getElem?_eq_some_iff.1 H43.out).1; have := hb4.size; omega)).trans ((hb4.block w.heap.size (Array.getElem?_eq_some_iff.1 H43.out).1).trans H43.out))
    have H84 := Lib.hid (World.alloc_heap_new w4 f.ob)
    have h84 : w.heap.size < w4.heap.size := by have := (Array.getElem?_eq_some_iff.1 H43.out).1; have := hb4.size; omega
    clear hb4 hr3 HB3 H43 HU HB2 c0 hB2
    go_wp2_with fail
    obtain ⟨X8, hX8⟩ : ∃ X8, X8 = w4.heap.size := ⟨_, rfl⟩
    rw [← hX8] at H84 h84 ⊢
    clear hX8
    generalize w4.alloc f.ob = W1 at HB4 H44 H84 ⊢
    have hP1 := HP.out.below HB4.out
    obtain ⟨c1, c2, c3, c4, c5⟩ := hP1.cells
    have hB1 := hP1.lt
    obtain ⟨v, c0, ho⟩ := hP1.row
    obtain ⟨xa1, xc1, e1⟩ := own_slice ho
    subst e1
    have hxc := own_capV ho
    have hrv := rdC_of_own ho
    have hnil : xa1 = none → p.l = [] := by
      intro hx
      subst hx
      rcases ho.2 with ⟨-, h0⟩ | ⟨g, cap, cur, e1, -⟩
      · exact List.length_eq_zero_iff.1 h0
      · cases e1
    have HNIL := Lib.hid hnil
    have HCL := Lib.hid (fun W => clipC_any xa1 p.l.length xc1 hxc W)
    have HRV1 := Lib.hid hrv
    obtain ⟨e0, e1, e2, e3, e4⟩ := fig_cells H84.out
    have hX81 : X8 < W1.heap.size := (Array.getElem?_eq_some_iff.1 H84.out).1
    clear hP1 ho hnil hrv
    refine region_cutN (T := ?T2) (fun g w' => Below W1.heap.size W1 w' ∧ W1.heap.size ≤ g ∧ w'.heap[g]? = some f2.ob) ?h2 ?q2
    case h2 =>
      refine wp_region_held_drew (S := fun W => Below W1.heap.size W1 W) (by kernel_rfl) (below_drewN (Below.refl _ _) 1) (fun hHeld => ?_)
      obtain ⟨W8, hW8⟩ : ∃ W8, W8 = W1.drew := ⟨_, rfl⟩
      rw [← hW8] at hHeld ⊢
      clear hW8
      refine wpAnyH_take (i := 0) (v := ?_) rfl (by kernel_rfl) (by kernel_rfl) (by kernel_rfl) (fun _ _ _ h => absurd h.1 nofun) (Or.inl ⟨by rfl, ?_⟩) hHeld ?_
      rotate_left
      · intro W hSw; have e0 := (hSw.cell (p := ⟨X8, 0, none⟩) hX81).trans e0; have e1 := (hSw.cell (p := ⟨X8, 1, none⟩) hX81).trans e1; have e2 := (hSw.cell (p := ⟨X8, 2, none⟩) hX81).trans e2; have e3 := (hSw.cell (p := ⟨X8, 3, none⟩) hX81).trans e3; have e4 := (hSw.cell (p := ⟨X8, 4, none⟩) hX81).trans e4; go_simp; try (with_reducible rfl)
      refine wpAnyH_take (i := 1) (v := ?_) rfl (by kernel_rfl) (by kernel_rfl) (by kernel_rfl) (fun _ _ _ h => absurd h.1 nofun) (Or.inl ⟨by rfl, ?_⟩) hHeld ?_
      rotate_left
      · intro W hSw; go_simp; try (with_reducible rfl)
      refine wpAnyH_take (i := 2) (v := ?_) rfl (by kernel_rfl) (by kernel_rfl) (by kernel_rfl) (fun _ _ _ h => absurd h.1 nofun) (Or.inl ⟨by rfl, ?_⟩) hHeld ?_
      rotate_left
      · intro W hSw; go_simp; try (with_reducible rfl)
      refine wpAnyH_take (i := 3) (v := ?_) rfl (by kernel_rfl) (by kernel_rfl) (by kernel_rfl) (fun _ _ _ h => absurd h.1 nofun) (Or.inl ⟨by rfl, ?_⟩) hHeld ?_
      rotate_left
      · intro W hSw; go_simp; try (with_reducible rfl)
      refine wpAnyH_take (i := 4) (v := ?_) rfl (by kernel_rfl) (by kernel_rfl) (by kernel_rfl) (fun _ _ _ h => absurd h.1 nofun) (Or.inl ⟨by rfl, ?_⟩) hHeld ?_
      rotate_left
      · intro W hSw; have d1 := (hSw.cell (p := ⟨B, O + 1, none⟩) hB1).trans c1; have d2 := (hSw.cell (p := ⟨B, O + 2, none⟩) hB1).trans c2; have d3 := (hSw.cell (p := ⟨B, O + 3, none⟩) hB1).trans c3; have d4 := (hSw.cell (p := ⟨B, O + 4, none⟩) hB1).trans c4; have d5 := (hSw.cell (p := ⟨B, O + 5, none⟩) hB1).trans c5; go_simp; try (with_reducible rfl)
      refine wpAnyH_ready (rs := [5, 6]) (by kernel_rfl) (by simp) (AllReadyH.cons rfl (fun K hK => ?_) (AllReadyH.cons rfl (fun K hK => ?_) AllReadyH.nil))
      · go_simp
        refine (HMN.out _).mono ?_
        rintro e w6 ⟨rfl, hb6⟩
        try have hNew := (hb6.block _ (Array.getElem?_eq_some_iff.1 hNew).1).trans hNew
        refine hK.out _ _ (hHeld.step hb6) (fun hHeld => ?_)
        clear hK K
        refine wpAnyH_ready (rs := [6]) (by kernel_rfl) (by simp) (AllReadyH.cons rfl (fun K hK => ?_) AllReadyH.nil)
        have hSz := hHeld.size
        go_simp
        first
          | (obtain ⟨g, hg⟩ : ∃ g, g = w6.heap.size := ⟨_, rfl⟩; have hNew := World.alloc_heap_new w6 fg0.ob)
          | (obtain ⟨g, hg⟩ : ∃ g, g = W8.heap.size := ⟨_, rfl⟩; have hNew := World.alloc_heap_new W8 fg0.ob)
        rw [← hg] at hSz hNew ⊢
        clear hg
        refine hK.out _ _ (hHeld.new _) (fun hHeld => ?_)
        clear hK K
        refine wpAnyH_ready (rs := [7]) (by kernel_rfl) (by simp) (AllReadyH.cons rfl (fun K hK => ?_) AllReadyH.nil)
        rw [if_pos (by rfl)]
        refine wp_store_mid 29 (.tmp 9) (.tmp 44) rfl g 0 f2.cells.toArray rfl rfl (fig_there hNew rfl) (by kernel_rfl) (all_oneCell_toArray (one_fg f2)) ?_
        refine hK.out (Go.Act.put _ none undef) _ (below_gbP hHeld (setCells_gb _ _ _ _) hSz hHeld.size) (fun hHeld => ?_)
        clear hK K
        refine wpAnyH_done (by kernel_rfl) ?_ _
        refine ⟨rfl, g, ?_, hHeld, hSz, fig_set hNew rfl f2⟩
        exact rfl
      · have hSz := hHeld.size
        go_simp
        first
          | (obtain ⟨g, hg⟩ : ∃ g, g = w6.heap.size := ⟨_, rfl⟩; have hNew := World.alloc_heap_new w6 fg0.ob)
          | (obtain ⟨g, hg⟩ : ∃ g, g = W8.heap.size := ⟨_, rfl⟩; have hNew := World.alloc_heap_new W8 fg0.ob)
        rw [← hg] at hSz hNew ⊢
        clear hg
        refine hK.out _ _ (hHeld.new _) (fun hHeld => ?_)
        clear hK K
        refine wpAnyH_ready (rs := [5]) (by kernel_rfl) (by simp) (AllReadyH.cons rfl (fun K hK => ?_) AllReadyH.nil)
        go_simp
        refine (HMN.out _).mono ?_
        rintro e w6 ⟨rfl, hb6⟩
        try have hNew := (hb6.block _ (Array.getElem?_eq_some_iff.1 hNew).1).trans hNew
        refine hK.out _ _ (hHeld.step hb6) (fun hHeld => ?_)
        clear hK K
        refine wpAnyH_ready (rs := [7]) (by kernel_rfl) (by simp) (AllReadyH.cons rfl (fun K hK => ?_) AllReadyH.nil)
        rw [if_pos (by rfl)]
        refine wp_store_mid 29 (.tmp 9) (.tmp 44) rfl g 0 f2.cells.toArray rfl rfl (fig_there hNew rfl) (by kernel_rfl) (all_oneCell_toArray (one_fg f2)) ?_
        refine hK.out (Go.Act.put _ none undef) _ (below_gbP hHeld (setCells_gb _ _ _ _) hSz hHeld.size) (fun hHeld => ?_)
        clear hK K
        refine wpAnyH_done (by kernel_rfl) ?_ _
        refine ⟨rfl, g, ?_, hHeld, hSz, fig_set hNew rfl f2⟩
        exact rfl
    rintro g9 w5 ⟨hb5, hg9, h9⟩
    have hX4B' : w.heap.size < w5.heap.size := by have := hb5.size; omega
    go_wp2_with fail
    refine wp_region_held_drew (S := fun W => W.heap[g9]? = some f2.ob) (by kernel_rfl) h9 (fun hHeld => ?_)
    have hb9 : Below W1.heap.size W1 w5.drew := hb5.step (below_drewN (Below.refl _ _) 1)
    have hg9l : g9 < w5.drew.heap.size := (Array.getElem?_eq_some_iff.1 h9).1
    obtain ⟨W9, hW9⟩ : ∃ W9, W9 = w5.drew := ⟨_, rfl⟩
    rw [← hW9] at hHeld hb9 hg9l ⊢
    clear hW9 h9 hb5 hX4B'
    have HP9 := Lib.hid (HP.out.below (HB4.out.step hb9))
    have HK9 := Lib.hid (HKW.out _ (HB4.out.step hb9))
    have H99 := Lib.hid hHeld
    have H89 := Lib.hid ((hb9.block X8 hX81).trans H84.out)
    have H49 := Lib.hid ((hb9.block w.heap.size (by omega)).trans H44.out)
    have HCP9 : Hid (Cp B O w W9) := Lib.hid (Cp.of_below (HB4.out.step hb9) hB)
    have c09 := (hb9.cell (p := ⟨B, O, none⟩) hB1).trans c0
    have hB9 : B < W9.heap.size := by have := hb9.size; omega
    have HRV9 := Lib.hid (HRV1.out.below hb9)
    obtain ⟨X4, hX4⟩ : ∃ X4, X4 = w.heap.size := ⟨_, rfl⟩
    have HX4 : Hid (w.heap.size ≤ X4) := Lib.hid (Nat.le_of_eq hX4.symm)
    have hX4B : B < X4 := by omega
    have hX48 : X4 < X8 := by omega
    have hX49 : X4 < g9 := by omega
    rw [← hX4] at H49 ⊢
    clear hX4 c1 c2 c3 c4 c5 c0 e0 e1 e2 e3 e4 HRV1 hb9
    have HBD : Hid (Below W9.heap.size W9 (W9.alloc (.cells #[.int .i64 m, .int .i64 b.turn, .int .i64 f2.i, .int .i64 f2.o, .int .i64 f2.l, .int .i64 f2.g, .int .i64 f2.t] 57))) := Lib.hid ((Below.refl _ W9).new _)
    have HRV := Lib.hid (HRV9.out.below HBD.out)
    have HBS : Hid (W9.heap.size ≤ (W9.alloc (.cells #[.int .i64 m, .int .i64 b.turn, .int .i64 f2.i, .int .i64 f2.o, .int .i64 f2.l, .int .i64 f2.g, .int .i64 f2.t] 57)).heap.size) := Lib.hid HBD.out.size
    have HNEW : Hid (∀ j u, (Cl.cells ⟨m, b.turn, f2⟩)[j]? = some u → (W9.alloc (.cells #[.int .i64 m, .int .i64 b.turn, .int .i64 f2.i, .int .i64 f2.o, .int .i64 f2.l, .int .i64 f2.g, .int .i64 f2.t] 57)).cell? ((⟨W9.heap.size, 0, none⟩ : Addr).add j) = some u) := Lib.hid fun j u hu => by
      have e0 : (⟨W9.heap.size, 0, none⟩ : Addr).add j = ⟨W9.heap.size, j, none⟩ := by simp [Addr.add]; omega
      rw [e0]
      exact new_at W9 _ _ j u (by simpa [Cl.cells, Fg.cells] using hu)
    refine wpAnyH_take (i := 0) (v := ?_) rfl (by kernel_rfl) (by kernel_rfl) (by kernel_rfl) (fun _ _ _ h => h) (Or.inl ⟨by rfl, ?_⟩) hHeld ?_
    rotate_left
    · intro W hSw; go_simp; try (with_reducible rfl)
    refine wpAnyH_take (i := 1) (v := ?_) rfl (by kernel_rfl) (by kernel_rfl) (by kernel_rfl) (fun _ _ _ h => h) (Or.inl ⟨by rfl, ?_⟩) hHeld ?_
    rotate_left
    · intro W hSw; go_simp; try (with_reducible rfl)
    refine wpAnyH_take (i := 2) (v := ?_) rfl (by kernel_rfl) (by kernel_rfl) (by kernel_rfl) (fun _ _ _ h => h) (Or.inl ⟨by rfl, ?_⟩) hHeld ?_
    rotate_left
    · intro W hSw; go_simp; try (with_reducible rfl)
    refine wpAnyH_take (i := 3) (v := ?_) rfl (by kernel_rfl) (by kernel_rfl) (by kernel_rfl) (fun _ _ _ h => h) (Or.inl ⟨by rfl, ?_⟩) hHeld ?_
    rotate_left
    · intro W hSw; go_simp; try (with_reducible rfl)
    refine wpAnyH_take (i := 6) (v := ?_) rfl (by kernel_rfl) (by kernel_rfl) (by kernel_rfl) (fun _ _ _ h => h) (Or.inl ⟨by rfl, ?_⟩) hHeld ?_
    rotate_left
    · intro W hSw; go_simp; try (with_reducible rfl)
    refine wpAnyH_take (i := 7) (v := ?_) rfl (by kernel_rfl) (by kernel_rfl) (by kernel_rfl) (fun _ _ _ h => h) (Or.inl ⟨by rfl, ?_⟩) hHeld ?_
    rotate_left
    · intro W hSw; go_simp; try (with_reducible rfl)
    refine wpAnyH_take (i := 9) (v := ?_) rfl (by kernel_rfl) (by kernel_rfl) (by kernel_rfl) (fun _ _ _ h => h) (Or.inl ⟨by rfl, ?_⟩) hHeld ?_
    rotate_left
    · intro W hSw; obtain ⟨i0, i1, i2, i3, i4⟩ := fig_cells hSw; go_simp; try (with_reducible rfl)
    refine wpAnyH_ready (rs := [4]) (by kernel_rfl) (by simp) (AllReadyH.cons rfl (fun K hK => ?_) AllReadyH.nil)
    go_simp
    refine hK.out _ _ hHeld (fun hHeld => ?_)
    clear hK K
    refine wpAnyH_ready (rs := [5]) (by kernel_rfl) (by simp) (AllReadyH.cons rfl (fun K hK => ?_) AllReadyH.nil)
    go_simp
    refine (HCL.out _).mono ?_
    rintro e w13 ⟨rfl, hw13⟩
    rw [hw13]
    clear hw13
    refine hK.out _ _ hHeld (fun hHeld => ?_)
    clear hK K
    refine wpAnyH_ready (rs := [8]) (by kernel_rfl) (by simp) (AllReadyH.cons rfl (fun K hK => ?_) AllReadyH.nil)
    go_simp
    refine (turn_any Bb b _ HK9.out).mono ?_
    rintro e w13 ⟨rfl, hw13⟩
    rw [hw13]
    clear hw13
    refine hK.out _ _ hHeld (fun hHeld => ?_)
    clear hK K
    refine wpAnyH_ready (rs := [10]) (by kernel_rfl) (by simp) (AllReadyH.cons rfl (fun K hK => ?_) AllReadyH.nil)
    go_simp
    refine hK.out _ _ hHeld (fun hHeld => ?_)
    clear hK K
    refine wpAnyH_ready (rs := [11]) (by kernel_rfl) (by simp) (AllReadyH.cons rfl (fun K hK => ?_) AllReadyH.nil)
    go_simp
    refine hK.out _ _ ((Below.heap_alloc W9 _ g9 (Array.getElem?_eq_some_iff.1 hHeld).1).trans hHeld) (fun hHeld => ?_)
    clear hK K
    refine wpAnyH_ready (rs := [12]) (by kernel_rfl) (by simp) (AllReadyH.cons rfl (fun K hK => ?_) AllReadyH.nil)
    rw [if_pos (by rfl)]
    refine wp_appC (.tmp 50) (.tmp 56) rfl xa1 p.l ⟨m, b.turn, f2⟩ rfl HRV.out HNIL.out ⟨W9.heap.size, 0, none⟩ 1 rfl HNEW.out (by omega) W9.heap.size HBS.out ?_
    intro v2 w14 hoa hba
    obtain ⟨ya, yc, rfl⟩ := own_slice hoa
    have hb14 := HBD.out.step hba
    have hP14 := HP9.out.below hb14
    have hs0 := (hb14.cell (p := ⟨B, O, none⟩) hB9).trans c09
    have hf0 := hP14.fz O
    have hB14 : B < w14.heap.size := hP14.lt
    have HFIN := Lib.hid (close_fin (f := f) HP9.out hb14 (own_base_cK hoa (show B + 1 ≤ W9.heap.size by omega)))
    have h814 := (hb14.block _ (Array.getElem?_eq_some_iff.1 H89.out).1).trans H89.out
    have h914 := (hb14.block _ (Array.getElem?_eq_some_iff.1 H99.out).1).trans H99.out
    have h414 := (hb14.block _ (Array.getElem?_eq_some_iff.1 H49.out).1).trans H49.out
    clear hoa hba hP14
    refine hK.out _ _ h914 (fun hHeld => ?_)
    clear hK K
    refine wpAnyH_take (i := 13) (v := ?_) rfl (by kernel_rfl) (by kernel_rfl) (by kernel_rfl) (fun _ _ _ h => h) (Or.inl ⟨by rfl, ?_⟩) hHeld ?_
    rotate_left
    · intro W hSw; go_simp; try (with_reducible rfl)
    refine wpAnyH_take (i := 14) (v := ?_) rfl (by kernel_rfl) (by kernel_rfl) (by kernel_rfl) (fun _ _ _ h => h) (Or.inl ⟨by rfl, ?_⟩) hHeld ?_
    rotate_left
    · intro W hSw; go_simp; try (with_reducible rfl)
    refine wpAnyH_ready (rs := [15]) (by kernel_rfl) (by simp) (AllReadyH.cons rfl (fun K hK => ?_) AllReadyH.nil)
    have HG15 := set_gb w14 B O (.slice ya (p.l.length + 1) yc)
    have h915 := (HG15.block g9 (Array.getElem?_eq_some_iff.1 h914).1 (fun e => by injection e with e; omega)).trans h914
    go_simp
    refine hK.out _ _ h915 (fun hHeld => ?_)
    clear hK K
    refine wpAnyH_done (by kernel_rfl) ?_ _
    obtain ⟨ht15, hpw16, hcp16⟩ := HFIN.out
    have h815 := (HG15.block X8 (Array.getElem?_eq_some_iff.1 h814).1 (fun e => by injection e with e; omega)).trans h814
    have h415 := (HG15.block X4 (Array.getElem?_eq_some_iff.1 h414).1 (fun e => by injection e with e; omega)).trans h414
    have hl15 := HG15.size
    clear HFIN HG15
    generalize w14.setCell ⟨B, O, none⟩ (.slice ya (p.l.length + 1) yc) = w15 at ht15 hpw16 hcp16 h815 h915 h415 hl15 ⊢
    have HG16 := setCells_gb B f.cells (O + 1) w15
    have h916 := (HG16.block g9 (Array.getElem?_eq_some_iff.1 h915).1 (fun e => by injection e with e; omega)).trans h915
    have h416 := (HG16.block X4 (Array.getElem?_eq_some_iff.1 h415).1 (fun e => by injection e with e; omega)).trans h415
    have hl16 := HG16.size
    obtain ⟨e0, e1, e2, e3, e4⟩ := fig_cells h815
    have hX815 : X8 < w15.heap.size := (Array.getElem?_eq_some_iff.1 h815).1
    have ht16 := fig_there h416 rfl
    have hs17 := fig_set h416 rfl f2
    have HG17 := setCells_gb X4 f2.cells 0 (w15.setCells B (O + 1) f.cells)
    have hpw17 := hpw16.gb HG17 (by omega) h416 (by decide)
    have hcp17 := cp_gb (HCP9.out.trans hcp16) HG17 HX4.out (by omega)
    obtain ⟨d0, d1, d2, d3, d4⟩ := fig_cells hs17
    obtain ⟨k0, k1, k2, k3, k4⟩ := fig_cells h916
    have hX916 : g9 < (w15.setCells B (O + 1) f.cells).heap.size := (Array.getElem?_eq_some_iff.1 h916).1
    clear HG16 h814 h914 h414 hs0 hf0 HG17 hpw16 hcp16 hs17 h815 h915 h415 hHeld
    go_wp2_with (first
      | (show Go.wpList _ _ _ ({ op := Go.Op.store _ (.tmp 63) _, .. } :: _) _ _; refine wpList_store_mid rfl 29 (.tmp 63) (.tmp 61) rfl B (O + 1) f.cells.toArray rfl rfl ht15 (by kernel_rfl) (all_oneCell_toArray (one_fg f)) ?_; show Go.wpList _ _ _ _ _ (w15.setCells B (O + 1) f.cells); generalize w15.setCells B (O + 1) f.cells = w16 at h916 h416 hl16 ht16 hpw17 hcp17 d0 d1 d2 d3 d4 k0 k1 k2 k3 k4 hX916 ⊢; clear e0 e1 e2 e3 e4 ht15)
      | (show Go.wpList _ _ _ ({ op := Go.Op.store _ (.tmp 6) _, .. } :: _) _ _; refine wpList_store_mid rfl 29 (.tmp 6) (.tmp 64) rfl X4 0 f2.cells.toArray rfl rfl ht16 (by kernel_rfl) (all_oneCell_toArray (one_fg f2)) ?_))
    exact bodyPost_ret (v := .tuple #[f2.agg, errB none]) (by simp [results, Tryz.results16, go_sem, d0, d1, d2, d3, d4, errB]) rfl ⟨rfl, hpw17, hcp17⟩
end Go.Proofs.YtackpcohmmlkeaaGreatDoor
end
