/- A slice of events that came in: how it is read. -/
import Derived.Test.YtpbbbiifeihkaaaDoorOpenE
import Derived.Test.YtpbbbiifeihkaaaDoorEvt
import Derived.Deep.Slices
namespace Go.Proofs.YtpbbbiifeihkaaaDoor
open Go.Joins Go.ChangeShapes Go.WideShapes Go.RowKit Go.Deep

theorem shape_lt {w : World} {b : Nat} {x : TypeId × Nat} (h : w.shape? b = some x) : b < w.heap.size := by
  apply Classical.byContradiction
  intro hn
  unfold World.shape? at h
  rw [Array.getElem?_eq_none (by omega)] at h
  cases h
theorem slice_lt {P : Program} {w : World} {r : Reach} {b0 : Nat} {t e : TypeId} {a : Addr} {n c : Nat} (ht : P.underlying t = some (.slice e)) (h : Value.okWide P w r b0 t (.slice (some a) n c)) : a.block < w.heap.size ∧ a.spot = none := by
  simp only [Value.okWide, ht, Cell.okWide, Cell.ok, World.has] at h
  obtain ⟨-, -, -, hs, row, cells, h1, -⟩ := h
  exact ⟨shape_lt h1, hs⟩
/-- An event's numbers, as they came in. -/
def EvBd (e : Evt) : Prop := e.item.size ≤ maxLen ∧ (-9223372036854775808 ≤ e.id ∧ e.id ≤ 9223372036854775807) ∧ (-9223372036854775808 ≤ e.kind ∧ e.kind ≤ 9223372036854775807) ∧ (-9223372036854775808 ≤ e.qty ∧ e.qty ≤ 9223372036854775807) ∧ (-9223372036854775808 ≤ e.price ∧ e.price ≤ 9223372036854775807) ∧ (-9223372036854775808 ≤ e.ofn ∧ e.ofn ≤ 9223372036854775807) ∧ (-9223372036854775808 ≤ e.day ∧ e.day ≤ 9223372036854775807)
theorem trod_agg7 {H : Type} {enc : TypeId × Value → H} {P : Program} {w : World} {base : Nat} {spare : Nat → Bool} {held : Bool} {t : TypeId} {f0 f1 f2 f3 f4 f5 f6 : Field} {cs : List Value} {fuel : Nat} {x : DataW H × List MemPlace} (hs : P.underlying t = some (.struct #[f0, f1, f2, f3, f4, f5, f6])) (hone : oneCellFields P #[f0, f1, f2, f3, f4, f5, f6] = true) (hC : P.cellsOf t = 7)
    (hf : DataW.trod enc P w base spare held fuel t cs = some x) :
    ∃ (v0 v1 v2 v3 v4 v5 v6 : Value) (y0 y1 y2 y3 y4 y5 y6 : DataW H × List MemPlace) (n : Nat), cs = [v0, v1, v2, v3, v4, v5, v6] ∧
      DataW.trod enc P w base spare held n f0.type [v0] = some y0 ∧ DataW.trod enc P w base spare held n f1.type [v1] = some y1 ∧ DataW.trod enc P w base spare held n f2.type [v2] = some y2 ∧ DataW.trod enc P w base spare held n f3.type [v3] = some y3 ∧ DataW.trod enc P w base spare held n f4.type [v4] = some y4 ∧ DataW.trod enc P w base spare held n f5.type [v5] = some y5 ∧ DataW.trod enc P w base spare held n f6.type [v6] = some y6 := by
  obtain ⟨xs, n, _, hx, hl, hlen, hg⟩ := DataW.trod_struct hs hf
  have hl7 : cs.length = 7 := hl.trans hC
  obtain ⟨o0, k0⟩ := hone_of hone 0 f0 rfl
  obtain ⟨o1, k1⟩ := hone_of hone 1 f1 rfl
  obtain ⟨o2, k2⟩ := hone_of hone 2 f2 rfl
  obtain ⟨o3, k3⟩ := hone_of hone 3 f3 rfl
  obtain ⟨o4, k4⟩ := hone_of hone 4 f4 rfl
  obtain ⟨o5, k5⟩ := hone_of hone 5 f5 rfl
  obtain ⟨o6, k6⟩ := hone_of hone 6 f6 rfl
  match cs, hl7, xs, hlen with
  | [c0, c1, c2, c3, c4, c5, c6], _, [y0, y1, y2, y3, y4, y5, y6], _ =>
    exact ⟨c0, c1, c2, c3, c4, c5, c6, y0, y1, y2, y3, y4, y5, y6, n, rfl, by simpa [o0, k0] using hg 0 f0 rfl, by simpa [o1, k1] using hg 1 f1 rfl, by simpa [o2, k2] using hg 2 f2 rfl, by simpa [o3, k3] using hg 3 f3 rfl, by simpa [o4, k4] using hg 4 f4 rfl, by simpa [o5, k5] using hg 5 f5 rfl, by simpa [o6, k6] using hg 6 f6 rfl⟩
set_option maxRecDepth 100000 in
/-- Seven cells that read as an event. -/
theorem evt_of_cells {H : Type} {enc : TypeId × Value → H} {W : World} {base : Nat} {spare : Nat → Bool} {held : Bool} {n : Nat} {cs : List Value} {x : DataW H × List MemPlace}
    (h : DataW.trod enc Tryd.prog W base spare held n 34 cs = some x) : ∃ e : Evt, cs = e.cells ∧ EvBd e := by
  obtain ⟨v0, v1, v2, v3, v4, v5, v6, y0, y1, y2, y3, y4, y5, y6, n, rfl, h0, h1, h2, h3, h4, h5, h6⟩ := trod_agg7 Tryd.underlying34 (by kernel_rfl) (by kernel_rfl) h
  obtain ⟨z0, e0, -, w0⟩ := DataW.trod_int Tryd.underlying3 h0
  obtain ⟨z1, e1, -, w1⟩ := DataW.trod_string Tryd.underlying9 h1
  obtain ⟨z2, e2, -, w2⟩ := DataW.trod_int Tryd.underlying3 h2
  obtain ⟨z3, e3, -, w3⟩ := DataW.trod_int Tryd.underlying3 h3
  obtain ⟨z4, e4, -, w4⟩ := DataW.trod_int Tryd.underlying3 h4
  obtain ⟨z5, e5, -, w5⟩ := DataW.trod_int Tryd.underlying3 h5
  obtain ⟨z6, e6, -, w6⟩ := DataW.trod_int Tryd.underlying3 h6
  simp only [List.cons.injEq, and_true] at e0 e1 e2 e3 e4 e5 e6
  subst e0 e1 e2 e3 e4 e5 e6
  exact ⟨⟨z0, z1, z2, z3, z4, z5, z6⟩, rfl, w1, wf_bounds w0, wf_bounds w2, wf_bounds w3, wf_bounds w4, wf_bounds w5, wf_bounds w6⟩
set_option maxRecDepth 100000 in
theorem open_evs {H : Type} {enc : TypeId × Value → H} {W : World} {r : Reach} {b0 : Nat} {v : Value} {d : DataW H} {p : List MemPlace}
    (hv : Value.okWide Tryd.prog W r b0 37 v) (h : DataW.Trod enc Tryd.prog W 0 (fun _ => true) true 37 v d p) :
    ∃ es : List Evt, RdE W.heap.size W v es ∧ (∀ e ∈ es, EvBd e) ∧ es.length ≤ maxLen := by
  obtain ⟨a0, len0, cap0, rfl⟩ := okWide_slice Tryd.underlying37 hv
  obtain ⟨fuel, hf⟩ := h
  have hc7 : Tryd.prog.cellsOf 34 = 7 := by kernel_rfl
  rcases open_slice Tryd.underlying37 hf with ⟨hcs, -⟩ | ⟨a, len, cap, m, n, D, Pl, hcs, -, hl, hm, hmm, -, hx⟩
  · simp [Value.cells] at hcs
    obtain ⟨rfl, rfl, rfl⟩ := hcs
    exact ⟨[], .inl ⟨rfl, rfl⟩, by simp, by simp [maxLen]⟩
  · simp [Value.cells] at hcs
    obtain ⟨rfl, rfl, rfl⟩ := hcs
    simp only [if_true] at hmm
    subst hmm
    obtain ⟨hlt, hsp⟩ := slice_lt Tryd.underlying37 hv
    obtain ⟨ev, hev⟩ := choose_lt (α := Evt) (n := len0) (p := fun i e => (∀ j u, e.cells[j]? = some u → W.cell? (a.add (i * 7 + j)) = some u) ∧ EvBd e) (fun i hi => by
      obtain ⟨cs', h1, h2⟩ := hx i (by omega)
      obtain ⟨e, rfl, he⟩ := evt_of_cells h2
      obtain ⟨-, -, hcell⟩ := World.cells?_some h1
      refine ⟨e, fun j u hj => ?_, he⟩
      have := hcell j (by rw [hc7]; exact (List.getElem?_eq_some_iff.1 hj).1)
      rw [hc7, hj, add_add] at this
      exact this)
    obtain ⟨b, off, spot⟩ := a
    simp only at hsp hlt
    subst hsp
    refine ⟨(List.range len0).map ev, .inr ⟨b, off, m, by simp, hlt, fun i hi j u hu => ?_⟩, fun e he => ?_, by simp; omega⟩
    · simp only [List.length_map, List.length_range] at hi
      simp only [List.getElem_map, List.getElem_range] at hu
      have := (hev i hi).1 j u hu
      have e0 : (⟨b, off, none⟩ : Addr).add (i * 7 + j) = ⟨b, off + i * 7 + j, none⟩ := by simp only [Addr.add]; split <;> simp <;> omega
      rw [e0] at this
      exact this
    · obtain ⟨i, hi, rfl⟩ := List.mem_map.1 he
      exact (hev i (List.mem_range.1 hi)).2
end Go.Proofs.YtpbbbiifeihkaaaDoor
