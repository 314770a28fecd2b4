/- A slice of acts that came in: how it is read. -/
import Derived.Test.YtackpcohmmlkeaaGreatDoorOpenEs
import Derived.Test.YtackpcohmmlkeaaGreatDoorBkL
namespace Go.Proofs.YtackpcohmmlkeaaGreatDoor
open Go.Joins Go.ChangeShapes Go.WideShapes Go.RowKit Go.Deep

instance : Inhabited ActV := ⟨⟨0, 0, default⟩⟩
/-- An act's numbers, as they came in. -/
def ActBd (x : ActV) : Prop := (-9223372036854775808 ≤ x.what ∧ x.what ≤ 9223372036854775807) ∧ (-9223372036854775808 ≤ x.id ∧ x.id ≤ 9223372036854775807) ∧ EvBd x.e
theorem trod_agg3 {H : Type} {enc : TypeId × Value → H} {P : Program} {w : World} {base : Nat} {spare : Nat → Bool} {held : Bool} {t : TypeId} {f0 f1 f2 : Field} {cs : List Value} {fuel : Nat} {x : DataW H × List MemPlace} (hs : P.underlying t = some (.struct #[f0, f1, f2]))
    (c0 : P.cellsOf f0.type = 1) (o0 : f0.offset = 0) (c1 : P.cellsOf f1.type = 1) (o1 : f1.offset = 1) (c2 : P.cellsOf f2.type = 7) (o2 : f2.offset = 2) (hC : P.cellsOf t = 9) (hf : DataW.trod enc P w base spare held fuel t cs = some x) :
    ∃ (v0 v1 : Value) (cs2 : List Value) (y0 y1 y2 : DataW H × List MemPlace) (n : Nat), cs = v0 :: v1 :: cs2 ∧
      DataW.trod enc P w base spare held n f0.type [v0] = some y0 ∧ DataW.trod enc P w base spare held n f1.type [v1] = some y1 ∧ DataW.trod enc P w base spare held n f2.type cs2 = some y2 := by
  obtain ⟨xs, n, _, hx, hl, hlen, hg⟩ := DataW.trod_struct hs hf
  have hl9 : cs.length = 9 := hl.trans hC
  match cs, hl9, xs, hlen with
  | [v0, v1, v2, v3, v4, v5, v6, v7, v8], _, [y0, y1, y2], _ =>
    exact ⟨v0, v1, [v2, v3, v4, v5, v6, v7, v8], y0, y1, y2, n, rfl, by simpa [o0, c0] using hg 0 f0 rfl, by simpa [o1, c1] using hg 1 f1 rfl, by simpa [o2, c2] using hg 2 f2 rfl⟩
set_option maxRecDepth 100000 in
/-- Nine cells that read as an act. -/
theorem act_of_cells {H : Type} {enc : TypeId × Value → H} {W : World} {base : Nat} {spare : Nat → Bool} {held : Bool} {n : Nat} {cs : List Value} {x : DataW H × List MemPlace}
    (h : DataW.trod enc Tryz.prog W base spare held n 51 cs = some x) : ∃ a : ActV, cs = a.cells ∧ ActBd a := by
  obtain ⟨v0, v1, cs2, y0, y1, y2, n, rfl, h0, h1, h2⟩ := trod_agg3 Tryz.underlying51 (by kernel_rfl) (by kernel_rfl) (by kernel_rfl) (by kernel_rfl) (by kernel_rfl) (by kernel_rfl) (by kernel_rfl) h
  obtain ⟨z0, e0, -, w0⟩ := DataW.trod_int Tryz.underlying3 h0
  obtain ⟨z1, e1, -, w1⟩ := DataW.trod_int Tryz.underlying3 h1
  obtain ⟨e, rfl, he⟩ := evt_of_cells h2
  simp only [List.cons.injEq, and_true] at e0 e1
  subst e0 e1
  exact ⟨⟨z0, z1, e⟩, rfl, wf_bounds w0, wf_bounds w1, he⟩
set_option maxRecDepth 100000 in
theorem open_acts {H : Type} {enc : TypeId × Value → H} {W : World} {r : Reach} {b0 : Nat} {v : Value} {d : DataW H} {p : List MemPlace}
    (hv : Value.okWide Tryz.prog W r b0 35 v) (h : DataW.Trod enc Tryz.prog W 0 (fun _ => true) true 35 v d p) :
    ∃ es : List ActV, RdA W.heap.size W v es ∧ (∀ e ∈ es, ActBd e) ∧ es.length ≤ maxLen := by
  obtain ⟨a0, len0, cap0, rfl⟩ := okWide_slice Tryz.underlying35 hv
  obtain ⟨fuel, hf⟩ := h
  have hc9 : Tryz.prog.cellsOf 51 = 9 := by kernel_rfl
  rcases open_slice Tryz.underlying35 hf with ⟨hcs, -⟩ | ⟨a, len, cap, m, n, D, Pl, hcs, -, hl, hm, hmm, -, hx⟩
  · simp [Value.cells] at hcs
    obtain ⟨rfl, rfl, rfl⟩ := hcs
    exact ⟨[], ⟨none, 0, rfl, fun k hk => absurd hk (by simp)⟩, by simp, by simp [maxLen]⟩
  · simp [Value.cells] at hcs
    obtain ⟨rfl, rfl, rfl⟩ := hcs
    simp only [if_true] at hmm
    subst hmm
    obtain ⟨hlt, hsp⟩ := slice_lt Tryz.underlying35 hv
    obtain ⟨ev, hev⟩ := choose_lt (α := ActV) (n := len0) (p := fun i e => (∀ j u, e.cells[j]? = some u → W.cell? (a.add (i * 9 + j)) = some u) ∧ ActBd e) (fun i hi => by
      obtain ⟨cs', h1, h2⟩ := hx i (by omega)
      obtain ⟨e, rfl, he⟩ := act_of_cells h2
      obtain ⟨-, -, hcell⟩ := World.cells?_some h1
      refine ⟨e, fun j u hj => ?_, he⟩
      have := hcell j (by rw [hc9]; exact (List.getElem?_eq_some_iff.1 hj).1)
      rw [hc9, hj, add_add] at this
      exact this)
    obtain ⟨b, off, spot⟩ := a
    simp only at hsp hlt
    subst hsp
    refine ⟨(List.range len0).map ev, ⟨some ⟨b, off, none⟩, m, by simp, fun i hi => ⟨b, off, rfl, hlt, fun j u hu => ?_⟩⟩, fun e he => ?_, by simp; omega⟩
    · simp only [List.length_map, List.length_range] at hi
      simp only [List.getElem_map, List.getElem_range] at hu
      have := (hev i hi).1 j u hu
      have e0 : (⟨b, off, none⟩ : Addr).add (i * 9 + j) = ⟨b, off + i * 9 + j, none⟩ := by simp only [Addr.add]; split <;> simp <;> omega
      rw [e0] at this
      exact this
    · obtain ⟨i, hi, rfl⟩ := List.mem_map.1 he
      exact (hev i (List.mem_range.1 hi)).2
end Go.Proofs.YtackpcohmmlkeaaGreatDoor
