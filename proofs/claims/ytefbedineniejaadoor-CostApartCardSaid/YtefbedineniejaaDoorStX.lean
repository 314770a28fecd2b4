/- slices.SortedStableFunc(slices.Values(l), event.Compare): a row of the call's own that holds the events in their order, those that are alike as they stood. -/
import Derived.Test.YtefbedineniejaaDoorStZ
import Derived.Test.YtefbedineniejaaDoorStQ
import Derived.Test.YtefbedineniejaaDoorEvG
namespace Go.Proofs.YtefbedineniejaaDoor
open Go.Shelf Go.RowKit Go.Lib Go.Sort
set_option linter.unusedVariables false
set_option linter.unusedSimpArgs false

def cfE (x y : Evt) : Int := Ev.cmpE x.id x.kind x.day y.id y.kind y.day
abbrev leE : Evt → Evt → Bool := Stb.leOf (ltOf cfE)
theorem leE_iff (x y : Evt) : leE x y = true ↔ (x.day < y.day ∨ (x.day = y.day ∧ (x.kind < y.kind ∨ (x.kind = y.kind ∧ x.id ≤ y.id)))) := by
  simp only [leE, Stb.leOf, ltOf, cfE, Ev.cmpE, Ev.or3, Ev.cmpI]
  by_cases h1 : x.day < y.day
  · simp [h1, show ¬ y.day < x.day by omega]
  · by_cases h2 : y.day < x.day
    · simp [h1, h2]; omega
    · have e : x.day = y.day := by omega
      by_cases h3 : x.kind < y.kind
      · simp [e, h3, show ¬ y.kind < x.kind by omega]
      · by_cases h4 : y.kind < x.kind
        · simp [e, h3, h4]; omega
        · have e2 : x.kind = y.kind := by omega
          by_cases h5 : x.id < y.id
          · simp [e, e2, h5, show ¬ y.id < x.id by omega]; omega
          · by_cases h6 : y.id < x.id
            · simp [e, e2, h5, h6]
            · simp [e, e2, h5, h6]; omega
theorem leE_total : Stb.Total leE := by
  intro x y
  rw [leE_iff, leE_iff]
  omega
theorem leE_trans : Stb.Trans leE := by
  intro x y z
  rw [leE_iff, leE_iff, leE_iff]
  omega

theorem stL : StL Tryd.prog where
  mixed := by kernel_rfl
  fswr := Tryd.func115
  frot := Tryd.func111
  fsym := Tryd.func103
  fstab := Tryd.func83
  fins := Tryd.func102
  tT := by kernel_rfl
  aT := fun w => by simp [go_sem]
  zT := fun w => by simp [go_sem]
  vT := fun w => by simp [go_sem]
  tI := by kernel_rfl
  aI := fun w => by simp [go_sem]
  zI := fun w => by simp [go_sem]
  vI := fun w => by simp [go_sem]
  tB := by kernel_rfl
  aB := fun w => by simp [go_sem]
  zB := fun w => by simp [go_sem]
  vB := fun w => by simp [go_sem]
  tU := by kernel_rfl
  aU := fun w => by simp [go_sem]
  zU := fun w => by simp [go_sem]
  vU := fun w => by simp [go_sem]
  tS := by kernel_rfl
  aS := fun w => by simp [go_sem]
  zS := fun w => by simp [go_sem]
  vS := fun w => by simp [go_sem]
  tC := by kernel_rfl
  aC := fun w => by simp [go_sem]
  zC := fun w => by simp [go_sem]
  vC := fun w => by simp [go_sem]
theorem agg_evt : ∀ w, (isAgg 50).run Tryd.prog w = .ok true w := fun w => by simp [go_sem]
theorem size_evt : ∀ w, (Go.sizeOf 50).run Tryd.prog w = .ok 7 w := fun w => by simp [go_sem]
theorem cells_len (e : Evt) : e.cells.length = 7 := rfl
theorem cmp_lays (blk off size : Nat) (w : World) : CmpLays Tryd.prog 50 #[] Evt.cells 7 cfE blk off size w := fun m os dk _ x y =>
  (compare_grow x.id x.kind x.qty x.price x.ofn x.day y.id y.kind y.qty y.price y.ofn y.day x.item y.item _).mono fun _ _ h => h

theorem flE_len (es : List Evt) : (flE es).length = es.length * 7 := by
  induction es with
  | nil => rfl
  | cons e es ih => simp only [flE, List.flatMap_cons, List.length_append, List.length_cons] at ih ⊢; rw [ih, cells_len]; omega
theorem flE_get (es : List Evt) : ∀ j, (flE es)[j]? = (es[j / 7]?).bind fun e => e.cells[j % 7]? := by
  induction es with
  | nil => intro j; simp [flE]
  | cons e es ih =>
    intro j
    simp only [flE, List.flatMap_cons] at ih ⊢
    by_cases h : j < 7
    · rw [List.getElem?_append_left (by rw [cells_len]; exact h), show j / 7 = 0 by omega, show j % 7 = j by omega]; simp
    · rw [List.getElem?_append_right (by rw [cells_len]; omega), ih, cells_len, show j / 7 = (j - 7) / 7 + 1 by omega, show j % 7 = (j - 7) % 7 by omega]; simp
/-- A row of the call's own, as the sort wants it. -/
theorem holds_of_own {w : World} {g : Nat} {es : List Evt} {cur : Array Value} (hg : w.heap[g]? = some (.cells cur 50 (0, 0))) (ht : cur.toList.take (es.length * 7) = flE es) : HoldsK Evt.cells 7 w g 0 es.toArray := by
  intro j hj
  have hj' : j < es.length * 7 := by simpa using hj
  have e1 : cur[j]? = (flE es)[j]? := by
    rw [← ht, List.getElem?_take_of_lt hj', Array.getElem?_toList]
  rw [flE_get] at e1
  have hi : j / 7 < es.length := by omega
  rw [List.getElem?_eq_getElem hi] at e1
  simp only [Option.bind_some] at e1
  have hm : j % 7 < es[j / 7].cells.length := by rw [cells_len]; omega
  rw [List.getElem?_eq_getElem hm] at e1
  constructor
  · rw [get_flatK _ _ _ _ (by simpa using hj')]
    simp only [World.cell?, hg, id]
    simp only [Nat.zero_add]
    rw [e1]
    simp [hi, hm]
  · simp [World.frozen?, hg]
theorem rdE_of_holds {w : World} {g off cap : Nat} {es : List Evt} (h : HoldsK Evt.cells 7 w g off es.toArray) (hg : g < w.heap.size) : RdE w.heap.size w (.slice (some ⟨g, off, none⟩) es.length cap) es := by
  refine .inr ⟨g, off, cap, rfl, hg, fun i hi j u hu => ?_⟩
  have hj : j < 7 := by
    have := (List.getElem?_eq_some_iff.1 hu).1
    rw [cells_len] at this; exact this
  have := (h (i * 7 + j) (by simp; omega)).1
  rw [get_flatK _ _ _ _ (by simp; omega), ← Nat.add_assoc] at this
  rw [this]
  rw [show (i * 7 + j) / 7 = i by omega, show (i * 7 + j) % 7 = j by omega]
  obtain ⟨hl, rfl⟩ := List.getElem?_eq_some_iff.1 hu
  simp [hi, hl]
theorem below_sort {w W : World} {blk off base : Nat} {d' : Array Evt} (hb : base ≤ blk) (hbw : base ≤ w.heap.size) (h : SWK Evt.cells 7 w blk off d' W) : Below base w W := by
  obtain ⟨n, os, rfl⟩ := h
  refine ⟨rfl, rfl, rfl, size_sortWorldK_c _ _ _ _ _ _ _ _, fun k hk => ?_⟩
  show (((Sort.ahead w n).heap.modify blk _) ++ os)[k]? = _
  rw [Array.getElem?_append, if_pos (by simp only [Array.size_modify]; show k < w.heap.size; omega), Array.getElem?_modify, if_neg (by omega)]
  rfl

theorem ins_none (fv : Value) (w : World) : Calls Tryd.prog 102 #[.slice none 0 0, .int .i64 0, .int .i64 0, fv] w fun e w' => e = .returned (.tuple #[]) ∧ w' = w := by
  go_enter Tryd.func102, Tryd.ntmps102
  go_wp2
  refine wp_loop_rounds 1 ?_
  rw [rounds_succ]
  go_wp2
  go_end0
  exact ⟨rfl, rfl⟩
set_option maxHeartbeats 1000000 in
theorem stab_none (g : Nat) (w : World) : Calls Tryd.prog 83 #[.slice none 0 0, .int .i64 0, .func (.func g) #[] #[]] w fun e w' => e = .returned (.tuple #[]) ∧ w' = w := by
  have H := Lib.hid (fun w => ins_none (.func (.func g) #[] #[]) w)
  go_enter Tryd.func83, Tryd.ntmps83
  go_wp2
  refine wp_loop_rounds 1 ?_
  rw [rounds_succ]
  go_wp2_with (go_at_call 102; refine (H.out _).mono ?_; rintro e w' ⟨rfl, rfl⟩)
  refine wp_loop_rounds 1 ?_
  rw [rounds_succ]
  go_wp2
  go_end0
  exact ⟨rfl, rfl⟩
set_option maxHeartbeats 1000000 in
theorem sortStable_any (base : Nat) (v : Value) (es : List Evt) (w : World) (hlen : es.length ≤ 1000000000) (ho : w.ownsRow base 50 7 v es.length (flE es)) (hbase : base ≤ w.heap.size) :
    Calls Tryd.prog 66 #[v, .func (.func 50) #[] #[]] w fun e w' => e = .returned (.tuple #[]) ∧ Below base w w' ∧ RdE w'.heap.size w' v (Stb.isort leE es) := by
  rcases ho.2 with ⟨rfl, hn⟩ | ⟨g, cap, cur, rfl, hg1, hg, hn, hcap, hsz, ht⟩
  · have he : es = [] := List.length_eq_zero_iff.1 hn
    subst he
    have H := Lib.hid (fun w => stab_none 50 w)
    clear ho hn
    go_enter Tryd.func66, Tryd.ntmps66
    go_wp2_with (go_at_call 83; refine (H.out _).mono ?_; rintro e w' ⟨rfl, rfl⟩)
    go_end0
    exact ⟨rfl, Below.refl _ _, .inl ⟨rfl, rfl⟩⟩
  · have hgl : g < w.heap.size := (Array.getElem?_eq_some_iff.1 hg).1
    have hH := holds_of_own hg ht
    have hsz1 : es.toArray.size = es.length := by simp
    have H0 := stable_w stL 7 agg_evt size_evt Evt.cells 50 #[] cfE (enters_of Tryd.func50 (by kernel_rfl) rfl) g 0 cap es.length es.toArray es.toArray w w (cmp_lays _ _ _ _) ⟨cells_len, one_evt, hH, hgl⟩ rfl (SWK.start hH) (by simp) (by simp; omega)
    rw [hsz1] at H0
    have H := Lib.hid H0
    clear H0 ho hcap hsz ht
    go_enter Tryd.func66, Tryd.ntmps66
    go_wp2_with (go_at_call 83; refine H.out.mono ?_; rintro e w' ⟨rfl, hS⟩)
    go_end0
    have hl := Stb.stab_law leE_total leE_trans es.toArray
    have hs := Stb.stab_size leE_total leE_trans es.toArray
    rw [hsz1] at hl hs
    have hh := hS.holds hgl hH (by rw [hs, hsz1])
    have ha : Stb.stab (ltOf cfE) es.toArray es.length = (Stb.isort leE es).toArray := by
      apply Array.ext'
      rw [hl]
    rw [ha] at hh
    have hle : (Stb.isort leE es).length = es.length := by
      have := congrArg Array.size ha
      rw [hs] at this; simpa using this.symm
    refine ⟨rfl, below_sort hg1 hbase hS, ?_⟩
    have := rdE_of_holds (cap := cap) hh (Nat.lt_of_lt_of_le hgl (below_sort (base := base) hg1 hbase hS).size)
    rw [hle] at this
    exact this
set_option maxHeartbeats 1000000 in
theorem sortedStable_any (g : Nat) (lb : Array Value) (eg : ∀ args w, (callFunc g args).run Tryd.prog w = .ok (.enter g args) w) (es : List Evt) (w : World) (hlen : es.length ≤ 1000000000) (hseq : SeqG Tryd.prog g lb Evt.agg w.heap.size es w) :
    Calls Tryd.prog 48 #[.func (.func g) #[] lb, .func (.func 50) #[] #[]] w fun e w' => ∃ v, e = .returned v ∧ Below w.heap.size w w' ∧ RdE w'.heap.size w' v (Stb.isort leE es) ∧ ∀ p n c, v = .slice (some p) n c → w.heap.size ≤ p.block := by
  have H1 := Lib.hid (collect_any g lb eg es hlen w hseq)
  have H2 := Lib.hid (fun v W hb ho => sortStable_any w.heap.size v es W hlen ho hb)
  clear hseq
  go_enter Tryd.func48, Tryd.ntmps48
  go_wp2_with (first | (go_at_call 65; refine H1.out.mono ?_; rintro e w' ⟨v, rfl, ho, hb⟩; have hb2 := hb.size) | (go_at_call 66; refine (H2.out _ _ hb2 ho).mono ?_; rintro e w2 ⟨rfl, hb3, hr⟩))
  go_ret
  refine ⟨v, rfl, hb.trans hb3, hr, fun p n c hv => ?_⟩
  rcases ho.2 with ⟨h0, -⟩ | ⟨g, cap, cur, h1, h2, -⟩
  · rw [h0] at hv; injection hv with hv; cases hv
  · rw [h1] at hv; injection hv with hv; injection hv with hv; subst hv; exact h2
end Go.Proofs.YtefbedineniejaaDoor
