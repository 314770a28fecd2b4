/- tallymankeep.LedgerBalances: the walk. -/
import Derived.Test.YtefbedineniejaaLbN
import Derived.Test.YtefbedineniejaaLgPb
import Derived.Deep.RegionWith
namespace Go.Proofs.Ytefbedineniejaa
open Go.RowKit
open Go.Maps (Keyed)
set_option linter.unusedVariables false

theorem region_then {P : Program} {c : Code} {a : Act} {w : World} {Q : Exit → Act → World → Prop} {T : Value → Value → Act} (F : Value → Value → World → Prop) (h : c.wp P (fun e a' w' => e = .normal ∧ ∃ vx vy, a' = T vx vy ∧ F vx vy w') a w) (hq : ∀ vx vy w', F vx vy w' → Q .normal (T vx vy) w') : c.wp P Q a w :=
  wp_mono h fun e a' w' ⟨he, vx, vy, ha, hf⟩ => by subst he; subst ha; exact hq vx vy w' hf
theorem region_then4 {P : Program} {c : Code} {a : Act} {w : World} {Q : Exit → Act → World → Prop} {T : Value → Value → Value → Nat → Act} (F : Value → Value → Value → Nat → World → Prop) (h : c.wp P (fun e a' w' => e = .normal ∧ ∃ vx vy vz vu, a' = T vx vy vz vu ∧ F vx vy vz vu w') a w) (hq : ∀ vx vy vz vu w', F vx vy vz vu w' → Q .normal (T vx vy vz vu) w') : c.wp P Q a w :=
  wp_mono h fun e a' w' ⟨he, vx, vy, vz, vu, ha, hf⟩ => by subst he; subst ha; exact hq vx vy vz vu w' hf
/-- 'append(out, xs...)', the operation by itself. -/
theorem wp_app {P : Program} {w : World} {o : Oper} {a : Act} {K : Act → World → Prop} {Q : Exit → Act → World → Prop} (s x : Operand) (t : TypeId)
    (ho : o.op = .call { callee := .builtin .append, args := #[s, x], argTypes := #[t, t] })
    (base base' : Nat) (e : TypeId) (i : TypeInfo) (z : Value) (size bytes : Nat) (ht : P.underlying t = some (.slice e)) (hi : P.info? e = some i) (hz : i.zero = some z)
    (hsize : i.size = size) (hby : i.bytes = bytes) (hzs : z.cells.size = size) (hsz : 0 < size)
    (v : Value) (n : Nat) (xs : List Value) (hown : w.ownsRow base e size v n xs) (hs : a.eval s = v)
    (y : Value) (m : Nat) (us : List Value) (hy : w.ownsRow base' e size y m us) (hx : a.eval x = y) (h1 : ∀ u ∈ us, u.oneCell' = true)
    (h63 : n + m ≤ maxLen) (hbytes : (n + m) * bytes ≤ 140737488355328) (hbase : base ≤ w.heap.size)
    (h : ∀ v' w', w'.ownsRow base e size v' (n + m) (xs ++ us) → w.grownBy w' v.ownBlock → K (a.put o.dst v') w') :
    o.wp P a w K Q := by
  obtain ⟨hul, hy2⟩ := hy
  rcases hy2 with ⟨rfl, h0⟩ | ⟨g, cap, cur, rfl, hB, hc, hn, hm, hs', ht'⟩
  · subst h0
    obtain rfl : us = [] := List.length_eq_zero_iff.1 (by simpa using hul)
    subst hsize
    have hrun := run_append_owned_none (P := P) (w := w) base t o.type e i i.size ht hi v n xs hown
    unfold Oper.wp
    simp [execOp, ho, resolve, invoke, builtin, hs, hx, hrun, Result.andThen]
    exact h v w (by simpa using hown) ⟨rfl, rfl, rfl, Nat.le_refl _, fun _ _ _ => rfl⟩
  · refine wp_append_own w s x t ho base e i z size bytes ht hi hz hsize hby hzs hsz v n xs hs hown ⟨g, 0, none⟩ m cap us hx hul ?_ h1 h63 hbytes hbase fun v' w' h2 h3 _ => h v' w' h2 h3
    intro j u hj
    have e0 : (⟨g, 0, none⟩ : Addr).add j = ⟨g, j, none⟩ := by simp [Addr.add]; omega
    rw [e0]
    have hjl : j < us.length := by
      apply Classical.byContradiction; intro hn'; rw [List.getElem?_eq_none (by omega)] at hj; cases hj
    have h4 : (cur.toList.take (m * size))[j]? = us[j]? := by rw [ht']
    rw [List.getElem?_take_of_lt (by omega), hj] at h4
    simp only [World.cell?, hc]
    simpa using h4
theorem below_undrew {w w' : World} (h : Below w.drew.heap.size w.drew w') : Below w.heap.size w w' := ⟨h.os, h.tape, h.output, h.size, h.block⟩
/-- Block b holds figures. -/
def At5 (W : World) (b : Nat) (i o l g t : Int) : Prop := W.heap[b]? = some (.cells #[.int .i64 i, .int .i64 o, .int .i64 l, .int .i64 g, .int .i64 t] 23 (0, 0))
theorem At5.below {W W' : World} {b : Nat} {i o l g t : Int} (h : At5 W b i o l g t) (hb : Below W.heap.size W W') : At5 W' b i o l g t := (hb.block b (Array.getElem?_eq_some_iff.1 h).1).trans h
theorem At5.cells {W : World} {b : Nat} {i o l g t : Int} (h : At5 W b i o l g t) (j : Nat) : W.cell? ⟨b, j, none⟩ = (#[Value.int .i64 i, .int .i64 o, .int .i64 l, .int .i64 g, .int .i64 t] : Array Value)[j]? := by
  simp only [World.cell?, show W.heap[b]? = _ from h]; simp
/-- Postings as they come of figures, and of figures behind others. -/
structure Good (L : List Lg.P) : Prop where
  len : L.length ≤ 10
  apart : ∀ p ∈ L, ¬ p.d = p.c ∧ 0 < p.n
  mag : Tr.mag L ≤ 100000000000000
  small : ∀ p ∈ L, (p.d.size ≤ 10 ∧ p.c.size ≤ 10) ∧ (p.d ≠ ⟨#[119, 114, 111, 110, 103]⟩ ∧ p.c ≠ ⟨#[119, 114, 111, 110, 103]⟩)
theorem good_figs (i o l g t : Int) (h : Lil i ∧ Lil o ∧ Lil l ∧ Lil g ∧ Lil t) : Good (Lg.figs i o l g t) := by
  obtain ⟨⟨a1, a2⟩, ⟨b1, b2⟩, ⟨c1, c2⟩, ⟨d1, d2⟩, ⟨e1, e2⟩⟩ := h
  exact ⟨Nat.le_trans (Lg.figs_len i o l g t) (by omega), Tr.figs_apart i o l g t, Int.le_trans (Tr.figs_mag i o l g t 4000000000000 ⟨⟨by omega, a2⟩, ⟨by omega, b2⟩, ⟨by omega, c2⟩, ⟨by omega, d2⟩, ⟨by omega, e2⟩⟩) (by omega), acc_small [] i o l g t⟩
theorem good_app {i o l g t i' o' l' g' t' : Int} (h : Lil i ∧ Lil o ∧ Lil l ∧ Lil g ∧ Lil t) (h' : Lil i' ∧ Lil o' ∧ Lil l' ∧ Lil g' ∧ Lil t') : Good (Lg.figs i o l g t ++ Lg.figs i' o' l' g' t') := by
  have A := good_figs _ _ _ _ _ h
  have B := good_figs _ _ _ _ _ h'
  have m1 := Tr.figs_mag i o l g t 4000000000000 ⟨⟨by have := h.1.1; omega, h.1.2⟩, ⟨by have := h.2.1.1; omega, h.2.1.2⟩, ⟨by have := h.2.2.1.1; omega, h.2.2.1.2⟩, ⟨by have := h.2.2.2.1.1; omega, h.2.2.2.1.2⟩, ⟨by have := h.2.2.2.2.1; omega, h.2.2.2.2.2⟩⟩
  have m2 := Tr.figs_mag i' o' l' g' t' 4000000000000 ⟨⟨by have := h'.1.1; omega, h'.1.2⟩, ⟨by have := h'.2.1.1; omega, h'.2.1.2⟩, ⟨by have := h'.2.2.1.1; omega, h'.2.2.1.2⟩, ⟨by have := h'.2.2.2.1.1; omega, h'.2.2.2.1.2⟩, ⟨by have := h'.2.2.2.2.1; omega, h'.2.2.2.2.2⟩⟩
  refine ⟨?_, fun p hp => ?_, by rw [Tr.mag_app]; omega, fun p hp => ?_⟩
  · have := Lg.figs_len i o l g t; have := Lg.figs_len i' o' l' g' t'; rw [List.length_append]; omega
  · rcases List.mem_append.1 hp with hp | hp
    · exact A.apart p hp
    · exact B.apart p hp
  · rcases List.mem_append.1 hp with hp | hp
    · exact A.small p hp
    · exact B.small p hp
theorem Good.sum {L : List Lg.P} (h : Good L) (x : Lit) : Tr.sum L x = Tr.pure L x := Tr.sum_pure L (fun p hp => (h.apart p hp).1) (by have := h.mag; omega) x
theorem of_good (L : List Lg.P) (h : Good L) (v : Value) (base : Nat) (w : World) (ho : OwnP w base v L) :
    Calls Try.prog 6 #[v] w (OfP (Tr.sum L) w) := by
  obtain ⟨a, cap, rfl, hr, -, -⟩ := rd_of_own ho
  have := h.len
  exact of_any L a cap w (by omega) hr (fun p hp => by have := (h.small p hp).1; unfold maxLen; omega) (bal_zero L (fun p hp => (h.apart p hp).1) (by have := h.mag; omega) (by omega))
theorem fit_lil {n : Int} (h : Lil n) : Fit n := ⟨by have := h.1; omega, by have := h.2; omega⟩
theorem post_lil (i o l g t : Int) (h : Lil i ∧ Lil o ∧ Lil l ∧ Lil g ∧ Lil t) (w : World) : Calls Try.prog 9 #[figV i o l g t] w (PostP w.heap.size (Lg.figs i o l g t) w) :=
  figPosts_any i o l g t w (fit_lil h.1) (fit_lil h.2.1) (fit_lil h.2.2.1) (fit_lil h.2.2.2.1) (fit_lil h.2.2.2.2)
theorem lil_add {n m : Int} (h : Lg.InB n) (k : Lg.InB m) : Lil (n + m) := ⟨by have := h.2; have := k.2; omega, by have := h.1; have := k.1; omega⟩
theorem lil_neg {n : Int} (h : Lil n) : Lil (-n) := ⟨by have := h.2; omega, by have := h.1; omega⟩
theorem lil_in {n : Int} (h : Lg.InB n) : Lil n := ⟨by have := h.2; omega, by have := h.1; omega⟩

set_option maxHeartbeats 4000000 in
set_option maxRecDepth 100000 in
theorem ledgerBalances_walk (i o l g t i' o' l' g' t' : Int) (w : World) :
    Calls Try.prog 3 #[.agg #[.int .i64 i, .int .i64 o, .int .i64 l, .int .i64 g, .int .i64 t], .agg #[.int .i64 i', .int .i64 o', .int .i64 l', .int .i64 g', .int .i64 t']] w (Gives (.bool true) w) := by
  go_enter Try.func3, Try.ntmps3
  go_wp2_with fail
  obtain ⟨i0, hi, hiz, his, hib⟩ := info_parts info_pst
  obtain ⟨W0, hW0⟩ : ∃ W0, W0 = (w.alloc (.cells #[.int .i64 i, .int .i64 o, .int .i64 l, .int .i64 g, .int .i64 t] 23)).alloc (.cells #[.int .i64 i', .int .i64 o', .int .i64 l', .int .i64 g', .int .i64 t'] 23) := ⟨_, rfl⟩
  have hB0 : Below w.heap.size w W0 := by rw [hW0]; exact ((Below.refl _ _).new _).new _
  have hx0 : At5 W0 w.heap.size i o l g t := by rw [hW0]; exact (Below.heap_alloc _ _ _ (by simp)).trans (heap_new _ _)
  have hy0 : At5 W0 (w.heap.size + 1) i' o' l' g' t' := by rw [hW0]; have := heap_new (w.alloc (.cells #[.int .i64 i, .int .i64 o, .int .i64 l, .int .i64 g, .int .i64 t] 23)) (.cells #[.int .i64 i', .int .i64 o', .int .i64 l', .int .i64 g', .int .i64 t'] 23); rw [World.size_alloc] at this; exact this
  have hz0 : W0.heap.size = w.heap.size + 2 := by rw [hW0]; simp
  rw [← hW0]
  clear hW0
  refine (posted_any _).mono ?_
  rintro e w1 ⟨rfl, hb1⟩
  have hB1 := hB0.step hb1
  have hx1 := hx0.below hb1
  have hy1 := hy0.below hb1
  have cx1 := hx1.cells
  have cy1 := hy1.cells
  clear hx0 hy0 hb1 hz0 hB0
  by_cases hin : inAll [i, o, l, g, t]
  · have HI := Lib.hid hin
    go_wp2_with fail
    refine (bounded_yes i o l g t _ HI.out).mono ?_
    rintro e w2 ⟨rfl, hb2⟩
    have hB2 := hB1.step hb2
    have hx2 := hx1.below hb2
    have hy2 := hy1.below hb2
    have cx2 := hx2.cells
    have cy2 := hy2.cells
    clear cx1 cy1 hx1 hy1 hb2 hin
    by_cases hin' : inAll [i', o', l', g', t']
    · have HI' := Lib.hid hin'
      go_wp2_with fail
      refine (bounded_yes i' o' l' g' t' _ HI'.out).mono ?_
      rintro e w3 ⟨rfl, hb3⟩
      have hB3 := hB2.step hb3
      have hx3 := hx2.below hb3
      have hy3 := hy2.below hb3
      have cx3 := hx3.cells
      have cy3 := hy3.cells
      clear cx2 cy2 hx2 hy2 hb3 hin'
      have hL : Lil i ∧ Lil o ∧ Lil l ∧ Lil g ∧ Lil t := ⟨lil_in (HI.out i (by simp)), lil_in (HI.out o (by simp)), lil_in (HI.out l (by simp)), lil_in (HI.out g (by simp)), lil_in (HI.out t (by simp))⟩
      have hL' : Lil i' ∧ Lil o' ∧ Lil l' ∧ Lil g' ∧ Lil t' := ⟨lil_in (HI'.out i' (by simp)), lil_in (HI'.out o' (by simp)), lil_in (HI'.out l' (by simp)), lil_in (HI'.out g' (by simp)), lil_in (HI'.out t' (by simp))⟩
      have HPx := Lib.hid (fun W => post_lil i o l g t hL W)
      have HPy := Lib.hid (fun W => post_lil i' o' l' g' t' hL' W)
      have HLS : Hid (Lil (i + i') ∧ Lil (o + o') ∧ Lil (l + l') ∧ Lil (g + g') ∧ Lil (t + t')) := Lib.hid ⟨lil_add (HI.out i (by simp)) (HI'.out i' (by simp)), lil_add (HI.out o (by simp)) (HI'.out o' (by simp)), lil_add (HI.out l (by simp)) (HI'.out l' (by simp)), lil_add (HI.out g (by simp)) (HI'.out g' (by simp)), lil_add (HI.out t (by simp)) (HI'.out t' (by simp))⟩
      have HLL := Lib.hid hL
      have HLL' := Lib.hid hL'
      clear hL hL'
      go_wp2_with fail
      refine region_then (T := ?T) (fun vx vy w' => ∃ w4, OwnP w4 w3.heap.size vx (Lg.figs i o l g t) ∧ Below w3.heap.size w3 w4 ∧ OwnP w' w4.heap.size vy (Lg.figs i' o' l' g' t') ∧ Below w4.heap.size w4 w') ?h ?q
      case h =>
        refine wp_region_any (by kernel_rfl) ?_
        refine wpAny_ready (rs := [0, 2]) (by kernel_rfl) (by simp) (AllReady.cons rfl (fun K hK => ?_) (AllReady.cons rfl (fun K hK => ?_) AllReady.nil))
        · go_simp
          refine hK _ _ ?_
          clear hK K
          refine wpAny_ready (rs := [1, 2]) (by kernel_rfl) (by simp) (AllReady.cons rfl (fun K hK => ?_) (AllReady.cons rfl (fun K hK => ?_) AllReady.nil))
          · go_simp
            refine (HPx.out _).mono ?_
            rintro e w4 ⟨vx, rfl, hox, hbx⟩
            replace hbx := below_undrew hbx
            have cy4 := (hy3.below hbx).cells
            refine hK _ _ ?_
            clear hK K
            refine wpAny_ready (rs := [2]) (by kernel_rfl) (by simp) (AllReady.cons rfl (fun K hK => ?_) AllReady.nil)
            go_simp
            refine hK _ _ ?_
            clear hK K
            refine wpAny_ready (rs := [3]) (by kernel_rfl) (by simp) (AllReady.cons rfl (fun K hK => ?_) AllReady.nil)
            go_simp
            refine (HPy.out _).mono ?_
            rintro e w5 ⟨vy, rfl, hoy, hby⟩
            refine hK _ _ ?_
            clear hK K
            refine wpAny_ready (rs := [4]) (by kernel_rfl) (by simp) (AllReady.cons rfl (fun K hK => ?_) AllReady.nil)
            go_simp
            refine hK _ _ ?_
            clear hK K
            refine wpAny_ready (rs := [5]) (by kernel_rfl) (by simp) (AllReady.cons rfl (fun K hK => ?_) AllReady.nil)
            go_simp
            refine hK _ _ ?_
            clear hK K
            refine wpAny_done (by kernel_rfl) ?_ _
            refine ⟨rfl, vx, vy, ?_, w4, hox, hbx, hoy, hby⟩
            exact rfl
          · go_simp
            refine hK _ _ ?_
            clear hK K
            refine wpAny_ready (rs := [1]) (by kernel_rfl) (by simp) (AllReady.cons rfl (fun K hK => ?_) AllReady.nil)
            go_simp
            refine (HPx.out _).mono ?_
            rintro e w4 ⟨vx, rfl, hox, hbx⟩
            replace hbx := below_undrew hbx
            have cy4 := (hy3.below hbx).cells
            refine hK _ _ ?_
            clear hK K
            refine wpAny_ready (rs := [3]) (by kernel_rfl) (by simp) (AllReady.cons rfl (fun K hK => ?_) AllReady.nil)
            go_simp
            refine (HPy.out _).mono ?_
            rintro e w5 ⟨vy, rfl, hoy, hby⟩
            refine hK _ _ ?_
            clear hK K
            refine wpAny_ready (rs := [4]) (by kernel_rfl) (by simp) (AllReady.cons rfl (fun K hK => ?_) AllReady.nil)
            go_simp
            refine hK _ _ ?_
            clear hK K
            refine wpAny_ready (rs := [5]) (by kernel_rfl) (by simp) (AllReady.cons rfl (fun K hK => ?_) AllReady.nil)
            go_simp
            refine hK _ _ ?_
            clear hK K
            refine wpAny_done (by kernel_rfl) ?_ _
            refine ⟨rfl, vx, vy, ?_, w4, hox, hbx, hoy, hby⟩
            exact rfl
        · go_simp
          refine hK _ _ ?_
          clear hK K
          refine wpAny_ready (rs := [0]) (by kernel_rfl) (by simp) (AllReady.cons rfl (fun K hK => ?_) AllReady.nil)
          go_simp
          refine hK _ _ ?_
          clear hK K
          refine wpAny_ready (rs := [1]) (by kernel_rfl) (by simp) (AllReady.cons rfl (fun K hK => ?_) AllReady.nil)
          go_simp
          refine (HPx.out _).mono ?_
          rintro e w4 ⟨vx, rfl, hox, hbx⟩
          replace hbx := below_undrew hbx
          have cy4 := (hy3.below hbx).cells
          refine hK _ _ ?_
          clear hK K
          refine wpAny_ready (rs := [3]) (by kernel_rfl) (by simp) (AllReady.cons rfl (fun K hK => ?_) AllReady.nil)
          go_simp
          refine (HPy.out _).mono ?_
          rintro e w5 ⟨vy, rfl, hoy, hby⟩
          refine hK _ _ ?_
          clear hK K
          refine wpAny_ready (rs := [4]) (by kernel_rfl) (by simp) (AllReady.cons rfl (fun K hK => ?_) AllReady.nil)
          go_simp
          refine hK _ _ ?_
          clear hK K
          refine wpAny_ready (rs := [5]) (by kernel_rfl) (by simp) (AllReady.cons rfl (fun K hK => ?_) AllReady.nil)
          go_simp
          refine hK _ _ ?_
          clear hK K
          refine wpAny_done (by kernel_rfl) ?_ _
          refine ⟨rfl, vx, vy, ?_, w4, hox, hbx, hoy, hby⟩
          exact rfl
      rintro vx vy w5 ⟨w4, hox, hbx, hoy, hby⟩
      have hB5 := (hB3.step hbx).step hby
      have hx5 := (hx3.below hbx).below hby
      have hy5 := (hy3.below hbx).below hby
      have cx5 := hx5.cells
      have cy5 := hy5.cells
      have hox5 := OwnP.below hox hby
      have G1 := good_figs _ _ _ _ _ HLL.out
      have G2 := good_figs _ _ _ _ _ HLL'.out
      have n1 := G1.len
      have n2 := G2.len
      have HG12 := Lib.hid (good_app HLL.out HLL'.out)
      clear cx3 cy3 hx3 hy3
      go_wp2_with fail
      refine (clone_any _ vx w5 _ hox5 (by omega)).mono ?_
      rintro e w6 ⟨vc, rfl, hoc, hb6⟩
      have hB6 := hB5.step hb6
      have hx6 := hx5.below hb6
      have hy6 := hy5.below hb6
      have cx6 := hx6.cells
      have cy6 := hy6.cells
      have hox6 := OwnP.below hox5 hb6
      have hoy6 := OwnP.below hoy hb6
      clear cx5 cy5
      go_wp2_with (first
        | (at_builtin; refine app_own rfl (.tmp 29) (.tmp 30) 26 rfl w5.heap.size w4.heap.size 37 i0 (.agg #[.string ⟨#[]⟩, .string ⟨#[]⟩, .int .i64 0]) 3 40 Try.underlying26 hi hiz his hib rfl (by decide) _ _ _ hoc rfl _ _ _ hoy6 rfl (fl_one _) (by unfold maxLen; omega) (by omega) hb6.size ?_; intro va w7 hoa hga))
      have hoa' : OwnP w7 w5.heap.size va (Lg.figs i o l g t ++ Lg.figs i' o' l' g' t') := by
        unfold OwnP; simpa [Lg.fl, List.flatMap_append] using hoa
      have hb57 := hb6.owngrown hoc hga
      have hB7 := hB5.step hb57
      have hx7 := hx5.below hb57
      have hy7 := hy5.below hb57
      have hox7 := OwnP.below hox5 hb57
      clear hoa hga hoc hox6 hoy6 hx6 hy6 cx6 cy6 hB6 hoy hox
      refine (of_good _ HG12.out va _ w7 hoa').mono ?_
      rintro e w8 ⟨b8, k8, g8, rfl, hl8, hm8, hg8, hk8, hb8⟩
      have hB8 := hB7.step hb8
      have hx8 := hx7.below hb8
      have hy8 := hy7.below hb8
      have hox8 := OwnP.below hox7 hb8
      have cx8 := hx8.cells
      have cy8 := hy8.cells
      have hm8' := Lib.hid hm8
      have HG8 := Lib.hid hg8
      have HK8 := Lib.hid hk8
      have hwr : ¬ wrongK ∈ k8 := fun h => (HK8.out wrongK).1 h (wrong_zero _ fun p hp => (HG12.out.small p hp).2)
      have look8 := MV.get_ok hm8 (Go.Maps.string_keyed Try.underlying9) Try.underlying27 (zero_int _) (key := .string ⟨#[119, 114, 111, 110, 103]⟩) (kl := wrongK) (key_str ⟨#[119, 114, 111, 110, 103]⟩ (by decide))
      rw [decide_eq_false hwr] at look8
      clear hm8 hg8 hk8 hx7 hy7 hox7 hwr
      go_wp2_with fail
      refine (plus_any i o l g t i' o' l' g' t' w8 HLL.out HLL'.out).mono ?_
      rintro e w9 ⟨rfl, hb9⟩
      clear cx8 cy8 look8
      go_wp2_with fail
      refine (post_lil _ _ _ _ _ HLS.out w9).mono ?_
      rintro e w10 ⟨vp, rfl, hop, hb10⟩
      go_wp2_with fail
      refine (of_good _ (good_figs _ _ _ _ _ HLS.out) vp _ w10 hop).mono ?_
      rintro e w11 ⟨b11, k11, g11, rfl, hl11, hm11, hg11, hk11, hb11⟩
      have hb811 := (hb9.step hb10).step hb11
      have hB11 := hB8.step hb811
      have hx11 := hx8.below hb811
      have hox11 := OwnP.below hox8 hb811
      have cx11 := hx11.cells
      have HEQ : Hid (∀ x, Tr.sum (Lg.figs i o l g t ++ Lg.figs i' o' l' g' t') x = Tr.sum (Lg.figs (i + i') (o + o') (l + l') (g + g') (t + t')) x) := Lib.hid fun x => by
        rw [Good.sum HG12.out, Good.sum (good_figs _ _ _ _ _ HLS.out), Tr.figs_add]
      go_wp2_with fail
      refine (same_yes b8 b11 k8 k11 g8 g11 w11 (MV.below hm8'.out hb811) hm11 (fun x => by rw [HK8.out, hk11, HEQ.out]) (fun x => by rw [HG8.out, hg11, HEQ.out])).mono ?_
      rintro e w12 ⟨rfl, hb12⟩
      have hB12 := hB11.step hb12
      have hx12 := hx11.below hb12
      have hox12 := OwnP.below hox11 hb12
      have cx12 := hx12.cells
      clear hx11 hox11 cx11 hm11 hg11 hk11 hx8 hy8 hox8 hop hl11 hl8
      go_wp2_with fail
      have HLZ : Hid (Lil 0 ∧ Lil 0 ∧ Lil 0 ∧ Lil 0 ∧ Lil 0) := Lib.hid (by unfold Lil; omega)
      have HLN : Hid (Lil (-i) ∧ Lil (-o) ∧ Lil (-l) ∧ Lil (-g) ∧ Lil (-t)) := Lib.hid ⟨lil_neg (HLL.out).1, lil_neg (HLL.out).2.1, lil_neg (HLL.out).2.2.1, lil_neg (HLL.out).2.2.2.1, lil_neg (HLL.out).2.2.2.2⟩
      have HGT := Lib.hid (good_app HLL.out HLN.out)
      have n3 := (good_figs _ _ _ _ _ HLN.out).len
      have hox12d : OwnP w12.drew w3.heap.size vx (Lg.figs i o l g t) := hox12
      have HCL := Lib.hid (clone_any (Lg.figs i o l g t) vx w12.drew w3.heap.size hox12d (by omega))
      refine region_then4 (T := ?T2) (fun vc vq va b w' => ∃ ks g', MVI Try.prog 9 w' b ks g' ∧ (∀ x, x ∈ ks ↔ Tr.sum (Lg.figs i o l g t ++ Lg.figs (-i) (-o) (-l) (-g) (-t)) x ≠ 0) ∧ Below w12.heap.size w12 w') ?h2 ?q2
      case h2 =>
        refine wp_region_any (by kernel_rfl) ?_
        refine wpAny_take (i := 0) (v := ?_) rfl (by kernel_rfl) (by kernel_rfl) (by kernel_rfl) (fun _ _ _ h => absurd h.1 nofun) (Or.inl ⟨by rfl, ?_⟩) ?_
        rotate_left
        · intro _; go_simp; try (with_reducible rfl)
        refine wpAny_take (i := 1) (v := ?_) rfl (by kernel_rfl) (by kernel_rfl) (by kernel_rfl) (fun _ _ _ h => absurd h.1 nofun) (Or.inl ⟨by rfl, ?_⟩) ?_
        rotate_left
        · intro _; go_simp; try (with_reducible rfl)
        refine wpAny_take (i := 3) (v := ?_) rfl (by kernel_rfl) (by kernel_rfl) (by kernel_rfl) (fun _ _ _ h => absurd h.1 nofun) (Or.inl ⟨by rfl, ?_⟩) ?_
        rotate_left
        · intro _; go_simp; try (with_reducible rfl)
        refine wpAny_ready (rs := [2, 4]) (by kernel_rfl) (by simp) (AllReady.cons rfl (fun K hK => ?_) (AllReady.cons rfl (fun K hK => ?_) AllReady.nil))
        · go_simp
          refine HCL.out.mono ?_
          rintro e w13 ⟨vc2, rfl, hoc2, hbc⟩
          replace hbc := below_undrew hbc
          replace hoc2 : OwnP w13 w12.heap.size vc2 (Lg.figs i o l g t) := hoc2
          have cx13 := (hx12.below hbc).cells
          refine hK _ _ ?_
          clear hK K
          refine wpAny_ready (rs := [4]) (by kernel_rfl) (by simp) (AllReady.cons rfl (fun K hK => ?_) AllReady.nil)
          go_simp
          refine hK _ _ ?_
          clear hK K
          refine wpAny_ready (rs := [5]) (by kernel_rfl) (by simp) (AllReady.cons rfl (fun K hK => ?_) AllReady.nil)
          go_simp
          refine (minus_any 0 0 0 0 0 i o l g t w13 HLZ.out HLL.out).mono ?_
          rintro e w14 ⟨rfl, hb14⟩
          refine hK _ _ ?_
          clear hK K
          refine wpAny_ready (rs := [6]) (by kernel_rfl) (by simp) (AllReady.cons rfl (fun K hK => ?_) AllReady.nil)
          go_simp
          refine (post_lil _ _ _ _ _ HLN.out w14).mono ?_
          rintro e w15 ⟨vq, rfl, hoq, hb15⟩
          have hbe := (hbc.step hb14).step hb15
          have hoc3 := OwnP.below (OwnP.below hoc2 hb14) hb15
          refine hK _ _ ?_
          clear hK K
          refine wpAny_ready (rs := [7]) (by kernel_rfl) (by simp) (AllReady.cons rfl (fun K hK => ?_) AllReady.nil)
          refine wp_app (.tmp 53) (.tmp 57) 26 rfl w12.heap.size w14.heap.size 37 i0 (.agg #[.string ⟨#[]⟩, .string ⟨#[]⟩, .int .i64 0]) 3 40 Try.underlying26 hi hiz his hib rfl (by decide) _ _ _ hoc3 rfl _ _ _ hoq rfl (fl_one _) (by unfold maxLen; omega) (by omega) hbe.size ?_
          intro va2 w16 hoa2 hga2
          have hbf := hbe.owngrown hoc3 hga2
          replace hoa2 : OwnP w16 w12.heap.size va2 (Lg.figs i o l g t ++ Lg.figs (-i) (-o) (-l) (-g) (-t)) := by unfold OwnP; simpa [Lg.fl, List.flatMap_append] using hoa2
          refine hK _ _ ?_
          clear hK K
          refine wpAny_ready (rs := [8]) (by kernel_rfl) (by simp) (AllReady.cons rfl (fun K hK => ?_) AllReady.nil)
          go_simp
          refine (of_good _ HGT.out va2 _ w16 hoa2).mono ?_
          rintro e w17 ⟨b17, k17, g17, rfl, hl17, hm17, hg17, hk17, hb17⟩
          have hbt := hbf.step hb17
          refine hK _ _ ?_
          clear hK K
          refine wpAny_ready (rs := [9]) (by kernel_rfl) (by simp) (AllReady.cons rfl (fun K hK => ?_) AllReady.nil)
          go_simp
          refine hK _ _ ?_
          clear hK K
          refine wpAny_done (by kernel_rfl) ?_ _
          refine ⟨rfl, vc2, vq, va2, b17, ?_, k17, g17, hm17, hk17, hbt⟩
          exact rfl
        · go_simp
          refine hK _ _ ?_
          clear hK K
          refine wpAny_ready (rs := [2]) (by kernel_rfl) (by simp) (AllReady.cons rfl (fun K hK => ?_) AllReady.nil)
          go_simp
          refine HCL.out.mono ?_
          rintro e w13 ⟨vc2, rfl, hoc2, hbc⟩
          replace hbc := below_undrew hbc
          replace hoc2 : OwnP w13 w12.heap.size vc2 (Lg.figs i o l g t) := hoc2
          have cx13 := (hx12.below hbc).cells
          refine hK _ _ ?_
          clear hK K
          refine wpAny_ready (rs := [5]) (by kernel_rfl) (by simp) (AllReady.cons rfl (fun K hK => ?_) AllReady.nil)
          go_simp
          refine (minus_any 0 0 0 0 0 i o l g t w13 HLZ.out HLL.out).mono ?_
          rintro e w14 ⟨rfl, hb14⟩
          refine hK _ _ ?_
          clear hK K
          refine wpAny_ready (rs := [6]) (by kernel_rfl) (by simp) (AllReady.cons rfl (fun K hK => ?_) AllReady.nil)
          go_simp
          refine (post_lil _ _ _ _ _ HLN.out w14).mono ?_
          rintro e w15 ⟨vq, rfl, hoq, hb15⟩
          have hbe := (hbc.step hb14).step hb15
          have hoc3 := OwnP.below (OwnP.below hoc2 hb14) hb15
          refine hK _ _ ?_
          clear hK K
          refine wpAny_ready (rs := [7]) (by kernel_rfl) (by simp) (AllReady.cons rfl (fun K hK => ?_) AllReady.nil)
          refine wp_app (.tmp 53) (.tmp 57) 26 rfl w12.heap.size w14.heap.size 37 i0 (.agg #[.string ⟨#[]⟩, .string ⟨#[]⟩, .int .i64 0]) 3 40 Try.underlying26 hi hiz his hib rfl (by decide) _ _ _ hoc3 rfl _ _ _ hoq rfl (fl_one _) (by unfold maxLen; omega) (by omega) hbe.size ?_
          intro va2 w16 hoa2 hga2
          have hbf := hbe.owngrown hoc3 hga2
          replace hoa2 : OwnP w16 w12.heap.size va2 (Lg.figs i o l g t ++ Lg.figs (-i) (-o) (-l) (-g) (-t)) := by unfold OwnP; simpa [Lg.fl, List.flatMap_append] using hoa2
          refine hK _ _ ?_
          clear hK K
          refine wpAny_ready (rs := [8]) (by kernel_rfl) (by simp) (AllReady.cons rfl (fun K hK => ?_) AllReady.nil)
          go_simp
          refine (of_good _ HGT.out va2 _ w16 hoa2).mono ?_
          rintro e w17 ⟨b17, k17, g17, rfl, hl17, hm17, hg17, hk17, hb17⟩
          have hbt := hbf.step hb17
          refine hK _ _ ?_
          clear hK K
          refine wpAny_ready (rs := [9]) (by kernel_rfl) (by simp) (AllReady.cons rfl (fun K hK => ?_) AllReady.nil)
          go_simp
          refine hK _ _ ?_
          clear hK K
          refine wpAny_done (by kernel_rfl) ?_ _
          refine ⟨rfl, vc2, vq, va2, b17, ?_, k17, g17, hm17, hk17, hbt⟩
          exact rfl
      rintro vc2 vq va2 b17 w17 ⟨k17, g17, hm17, hk17, hb17⟩
      have hk0 : k17 = [] := List.eq_nil_iff_forall_not_mem.2 fun x hx => (hk17 x).1 hx (by rw [Good.sum HGT.out]; simpa using Tr.figs_turn i o l g t x)
      subst hk0
      have hB17 := hB12.step hb17
      have hox17 := OwnP.below hox12 hb17
      obtain ⟨ax, capx, rfl, hrx, -, -⟩ := rd_of_own hox17
      have len17 := fun ty => MV.len hm17 Try.underlying27 ty
      simp only [List.length_nil] at len17
      have HCB := Lib.hid (containsBad_no (Lg.figs i o l g t) ax capx w17 (by omega) hrx G1.apart)
      clear hm17 hk17 hox17 hox12 hox12d hrx HCL
      go_wp2_with fail

      refine HCB.out.mono ?_
      rintro e w18 ⟨rfl, hb18⟩
      go_wp2_with fail
      go_ret
      exact ⟨rfl, hB17.step hb18⟩
    · go_wp2_with fail
      refine (bounded_no i' o' l' g' t' _ hin').mono ?_
      rintro e w3 ⟨rfl, hb3⟩
      go_wp2_with fail
      go_ret
      exact ⟨rfl, hB2.step hb3⟩
  · go_wp2_with fail
    refine (bounded_no i o l g t _ hin).mono ?_
    rintro e w2 ⟨rfl, hb2⟩
    go_wp2_with fail
    go_ret
    exact ⟨rfl, hB1.step hb2⟩
end Go.Proofs.Ytefbedineniejaa
