/- A slice of the law's acts that came in: how it is read. -/
import Derived.Test.YtpbbbiifeihkaaaGreatDoorOpenAs
namespace Go.Proofs.YtpbbbiifeihkaaaGreatDoor
open Go.Joins Go.ChangeShapes Go.WideShapes Go.RowKit Go.Deep

set_option maxRecDepth 100000 in
/-- Nine cells that read as an act. -/
theorem act_of_cellsL {H : Type} {enc : TypeId × Value → H} {W : World} {base : Nat} {spare : Nat → Bool} {held : Bool} {n : Nat} {cs : List Value} {x : DataW H × List MemPlace}
    (h : DataW.trod enc Tryz.prog W base spare held n 52 cs = some x) : ∃ a : ActV, cs = a.cells ∧ ActBd a := by
  obtain ⟨v0, v1, cs2, y0, y1, y2, n, rfl, h0, h1, h2⟩ := trod_agg3 Tryz.underlying52 (by kernel_rfl) (by kernel_rfl) (by kernel_rfl) (by kernel_rfl) (by kernel_rfl) (by kernel_rfl) (by kernel_rfl) h
  obtain ⟨z0, e0, -, w0⟩ := DataW.trod_int Tryz.underlying3 h0
  obtain ⟨z1, e1, -, w1⟩ := DataW.trod_int Tryz.underlying3 h1
  obtain ⟨e, rfl, he⟩ := evt_of_cells h2
  simp only [List.cons.injEq, and_true] at e0 e1
  subst e0 e1
  exact ⟨⟨z0, z1, e⟩, rfl, wf_bounds w0, wf_bounds w1, he⟩
set_option maxRecDepth 100000 in
theorem open_actsL {H : Type} {enc : TypeId × Value → H} {W : World} {r : Reach} {b0 : Nat} {v : Value} {d : DataW H} {p : List MemPlace}
    (hv : Value.okWide Tryz.prog W r b0 39 v) (h : DataW.Trod enc Tryz.prog W 0 (fun _ => true) true 39 v d p) :
    ∃ es : List ActV, RdA W.heap.size W v es ∧ (∀ e ∈ es, ActBd e) ∧ es.length ≤ maxLen := by
  obtain ⟨a0, len0, cap0, rfl⟩ := okWide_slice Tryz.underlying39 hv
  obtain ⟨fuel, hf⟩ := h
  have hc9 : Tryz.prog.cellsOf 52 = 9 := by kernel_rfl
  rcases open_slice Tryz.underlying39 hf with ⟨hcs, -⟩ | ⟨a, len, cap, m, n, D, Pl, hcs, -, hl, hm, hmm, -, hx⟩
  · simp [Value.cells] at hcs
    obtain ⟨rfl, rfl, rfl⟩ := hcs
    exact ⟨[], ⟨none, 0, rfl, fun k hk => absurd hk (by simp)⟩, by simp, by simp [maxLen]⟩
  · simp [Value.cells] at hcs
    obtain ⟨rfl, rfl, rfl⟩ := hcs
    simp only [if_true] at hmm
    subst hmm
    obtain ⟨hlt, hsp⟩ := slice_lt Tryz.underlying39 hv
    obtain ⟨ev, hev⟩ := choose_lt (α := ActV) (n := len0) (p := fun i e => (∀ j u, e.cells[j]? = some u → W.cell? (a.add (i * 9 + j)) = some u) ∧ ActBd e) (fun i hi => by
      obtain ⟨cs', h1, h2⟩ := hx i (by omega)
      obtain ⟨e, rfl, he⟩ := act_of_cellsL h2
      obtain ⟨-, -, hcell⟩ := World.cells?_some h1
      refine ⟨e, fun j u hj => ?_, he⟩
      have := hcell j (by rw [hc9]; exact (List.getElem?_eq_some_iff.1 hj).1)
      rw [hc9, hj, add_add] at this
      exact this)
    obtain ⟨b, off, spot⟩ := a
    simp only at hsp hlt
    subst hsp
    refine ⟨(List.range len0).map ev, ⟨some ⟨b, off, none⟩, m, by simp, fun i hi => ⟨b, off, rfl, hlt, fun j u hu => ?_⟩⟩, fun e he => ?_, by simp; omega⟩
    · simp only [List.length_map, List.length_range] at hi
      simp only [List.getElem_map, List.getElem_range] at hu
      have := (hev i hi).1 j u hu
      have e0 : (⟨b, off, none⟩ : Addr).add (i * 9 + j) = ⟨b, off + i * 9 + j, none⟩ := by simp only [Addr.add]; split <;> simp <;> omega
      rw [e0] at this
      exact this
    · obtain ⟨i, hi, rfl⟩ := List.mem_map.1 he
      exact (hev i (List.mem_range.1 hi)).2
end Go.Proofs.YtpbbbiifeihkaaaGreatDoor
