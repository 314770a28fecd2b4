/- The order of events; a row of events as the sorts want it. -/
import Derived.Test.YtpbbbiifeihkaaaDoorEvt
import Derived.Test.YtpbbbiifeihkaaaDoorEvG
import Derived.Test.YtpbbbiifeihkaaaDoorStI
import Derived.Shelf.SlSortCmp.KitK
namespace Go.Proofs.YtpbbbiifeihkaaaDoor
open Go.Shelf Go.RowKit Go.Lib Go.Sort
set_option linter.unusedVariables false
set_option linter.unusedSimpArgs false

def cfE (x y : Evt) : Int := Ev.cmpE x.id x.kind x.day y.id y.kind y.day
abbrev leE : Evt → Evt → Bool := Stb.leOf (ltOf cfE)
theorem leE_iff (x y : Evt) : leE x y = true ↔ (x.day < y.day ∨ (x.day = y.day ∧ (x.kind < y.kind ∨ (x.kind = y.kind ∧ x.id ≤ y.id)))) := by
  simp only [leE, Stb.leOf, ltOf, cfE, Ev.cmpE, Ev.or3, Ev.cmpI]
  by_cases h1 : x.day < y.day
  · simp [h1, show ¬ y.day < x.day by omega]
  · by_cases h2 : y.day < x.day
    · simp [h1, h2]; omega
    · have e : x.day = y.day := by omega
      by_cases h3 : x.kind < y.kind
      · simp [e, h3, show ¬ y.kind < x.kind by omega]
      · by_cases h4 : y.kind < x.kind
        · simp [e, h3, h4]; omega
        · have e2 : x.kind = y.kind := by omega
          by_cases h5 : x.id < y.id
          · simp [e, e2, h5, show ¬ y.id < x.id by omega]; omega
          · by_cases h6 : y.id < x.id
            · simp [e, e2, h5, h6]
            · simp [e, e2, h5, h6]; omega
theorem leE_total : Stb.Total leE := by
  intro x y
  rw [leE_iff, leE_iff]
  omega
theorem leE_trans : Stb.Trans leE := by
  intro x y z
  rw [leE_iff, leE_iff, leE_iff]
  omega

theorem agg_evt : ∀ w, (isAgg 34).run Tryd.prog w = .ok true w := fun w => by simp [go_sem]
theorem size_evt : ∀ w, (Go.sizeOf 34).run Tryd.prog w = .ok 7 w := fun w => by simp [go_sem]
theorem cmp_lays (blk off size : Nat) (w : World) : CmpLays Tryd.prog 13 #[] Evt.cells 7 cfE blk off size w := fun m os dk _ x y =>
  (compare_grow x.id x.kind x.qty x.price x.ofn x.day y.id y.kind y.qty y.price y.ofn y.day x.item y.item _).mono fun _ _ h => h

/-- A row of the call's own, as the sort wants it. -/
theorem holds_of_own {w : World} {g : Nat} {es : List Evt} {cur : Array Value} (hg : w.heap[g]? = some (.cells cur 34 (0, 0))) (ht : cur.toList.take (es.length * 7) = flE es) : HoldsK Evt.cells 7 w g 0 es.toArray := by
  intro j hj
  have hj' : j < es.length * 7 := by simpa using hj
  have e1 : cur[j]? = (flE es)[j]? := by
    rw [← ht, List.getElem?_take_of_lt hj', Array.getElem?_toList]
  rw [flE_get] at e1
  have hi : j / 7 < es.length := by omega
  rw [List.getElem?_eq_getElem hi] at e1
  simp only [Option.bind_some] at e1
  have hm : j % 7 < es[j / 7].cells.length := by rw [cells_len]; omega
  rw [List.getElem?_eq_getElem hm] at e1
  constructor
  · rw [get_flatK _ _ _ _ (by simpa using hj')]
    simp only [World.cell?, hg, id]
    simp only [Nat.zero_add]
    rw [e1]
    simp [hi, hm]
  · simp [World.frozen?, hg]
theorem rdE_of_holds {w : World} {g off cap : Nat} {es : List Evt} (h : HoldsK Evt.cells 7 w g off es.toArray) (hg : g < w.heap.size) : RdE w.heap.size w (.slice (some ⟨g, off, none⟩) es.length cap) es := by
  refine .inr ⟨g, off, cap, rfl, hg, fun i hi j u hu => ?_⟩
  have hj : j < 7 := by
    have := (List.getElem?_eq_some_iff.1 hu).1
    rw [cells_len] at this; exact this
  have := (h (i * 7 + j) (by simp; omega)).1
  rw [get_flatK _ _ _ _ (by simp; omega), ← Nat.add_assoc] at this
  rw [this]
  rw [show (i * 7 + j) / 7 = i by omega, show (i * 7 + j) % 7 = j by omega]
  obtain ⟨hl, rfl⟩ := List.getElem?_eq_some_iff.1 hu
  simp [hi, hl]
theorem below_sort {w W : World} {blk off base : Nat} {d' : Array Evt} (hb : base ≤ blk) (hbw : base ≤ w.heap.size) (h : SWK Evt.cells 7 w blk off d' W) : Below base w W := by
  obtain ⟨n, os, rfl⟩ := h
  refine ⟨rfl, rfl, rfl, size_sortWorldK_c _ _ _ _ _ _ _ _, fun k hk => ?_⟩
  show (((Sort.ahead w n).heap.modify blk _) ++ os)[k]? = _
  rw [Array.getElem?_append, if_pos (by simp only [Array.size_modify]; show k < w.heap.size; omega), Array.getElem?_modify, if_neg (by omega)]
  rfl

theorem rdE_of_own {w : World} {base n : Nat} {v : Value} {es : List Evt} (h : w.ownsRow base 34 7 v n (flE es)) (hn : n = es.length) : RdE w.heap.size w v es := by
  subst hn
  rcases h.2 with ⟨rfl, h0⟩ | ⟨g, cap, cur, rfl, hB, hc, hn, hm, hs, ht⟩
  · exact .inl ⟨rfl, List.length_eq_zero_iff.1 h0⟩
  · exact rdE_of_holds (holds_of_own hc ht) (Array.getElem?_eq_some_iff.1 hc).1
end Go.Proofs.YtpbbbiifeihkaaaDoor
