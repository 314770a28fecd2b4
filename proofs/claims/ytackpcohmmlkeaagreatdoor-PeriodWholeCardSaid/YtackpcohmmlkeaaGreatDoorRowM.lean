/- A row of the call's own, of elements of K cells, that is written in its midst: what it holds, element by element. -/
import Derived.Test.YtackpcohmmlkeaaGreatDoorBase
import Derived.Deep.MidRow
import Derived.RangeFuncRecord
import Derived.Lib.SliceRun
import Derived.Laws.AppendOwnNone
namespace Go.Proofs.YtackpcohmmlkeaaGreatDoor
open Go.RowKit
set_option linter.unusedVariables false

theorem run_clearK {P : Program} (w : World) (t e ty : TypeId) (z : Value) (ht : P.underlying t = some (.slice e)) (hv : ∀ w, (zeroValue e).run P w = .ok z w) (b o n c : Nat) (hn : 0 < n) (h1 : ∀ v ∈ (Builtin.zeroCells z.cells n).toList, v.oneCell' = true)
    (hc : w.there b o (Builtin.zeroCells z.cells n).toList.length) :
    (Builtin.clear_ #[t] ty #[.slice (some ⟨b, o, none⟩) n c]).run P w = .ok (.tuple #[]) (w.setCells b o (Builtin.zeroCells z.cells n).toList) := by
  have hst := run_storeCells_cells (P := P) b o (Builtin.zeroCells z.cells n).toList 0 w (by simpa using fun j hj => (hc j (by simpa using hj)).1) (by simpa using fun j hj => (hc j (by simpa using hj)).2) h1
  simp only [Nat.add_zero] at hst
  obtain ⟨m, rfl⟩ : ∃ m, n = m + 1 := ⟨n - 1, by omega⟩
  simp [Builtin.clear_, run_underlying ht, hv, hst]
theorem mid_heap (w : World) (b o k : Nat) (v : Value) (h : k ≠ b) : (w.setCell ⟨b, o, none⟩ v).heap[k]? = w.heap[k]? := by
  show (w.heap.modify b _)[k]? = _
  rw [Array.getElem?_modify, if_neg (Ne.symm h)]
theorem mid_self {w : World} {b o : Nat} {cur : Array Value} {t : TypeId} {fz : Nat × Nat} (v : Value) (h : w.heap[b]? = some (.cells cur t fz)) : (w.setCell ⟨b, o, none⟩ v).heap[b]? = some (.cells (cur.setIfInBounds o v) t fz) := by
  obtain ⟨hlt, hk⟩ := Array.getElem?_eq_some_iff.1 h
  show (w.heap.modify b _)[b]? = _
  rw [Array.getElem?_eq_getElem (by rw [Array.size_modify]; exact hlt), Array.getElem_modify_self, hk]
  rfl
theorem setCells_gb (b : Nat) : ∀ (vs : List Value) (o : Nat) (w : World), w.grownBy (w.setCells b o vs) (some b)
  | [], _, w => ⟨rfl, rfl, rfl, Nat.le_refl _, fun _ _ _ => rfl⟩
  | v :: r, o, w => by
    have h := setCells_gb b r (o + 1) (w.setCell ⟨b, o, none⟩ v)
    refine ⟨h.os.trans rfl, h.tape.trans rfl, h.output.trans rfl, Nat.le_trans (by simp) h.size, fun k hk hne => (h.block k (by simpa using hk) hne).trans (mid_heap w b o k v (fun e => hne (by rw [e])))⟩
theorem setCells_blk (b : Nat) {t : TypeId} {fz : Nat × Nat} : ∀ (vs : List Value) (o : Nat) (w : World) (cur : Array Value), w.heap[b]? = some (.cells cur t fz) → ∃ cur', (w.setCells b o vs).heap[b]? = some (.cells cur' t fz) ∧ cur'.size = cur.size
  | [], _, w, cur, h => ⟨cur, h, rfl⟩
  | v :: r, o, w, cur, h => by
    obtain ⟨cur', h1, h2⟩ := setCells_blk b r (o + 1) _ _ (mid_self (o := o) v h)
    exact ⟨cur', h1, by simpa using h2⟩
theorem new_at (w : World) (vs : Array Value) (t : TypeId) (j : Nat) (u : Value) (h : vs.toList[j]? = some u) : (w.alloc (.cells vs t)).cell? ⟨w.heap.size, j, none⟩ = some u := by
  simp only [World.cell?, World.alloc_heap_new]
  simpa using h
section
variable {α : Type} (enc : α → List Value) (K : Nat)
def flK (l : List α) : List Value := l.flatMap enc
variable {enc K} (hK : ∀ x, (enc x).length = K)
include hK
theorem flK_len (l : List α) : (flK enc l).length = l.length * K := by
  induction l with
  | nil => simp [flK]
  | cons e es ih => simp only [flK, List.flatMap_cons, List.length_append, List.length_cons] at ih ⊢; rw [ih, hK, Nat.add_mul]; omega
theorem flK_get (es : List α) : ∀ i (h : i < es.length) j, j < K → (flK enc es)[i * K + j]? = (enc es[i])[j]? := by
  induction es with
  | nil => intro i h; exact absurd h (by simp)
  | cons e es ih =>
    intro i h j hj
    simp only [flK, List.flatMap_cons] at ih ⊢
    cases i with
    | zero => rw [List.getElem?_append_left (by rw [hK]; omega)]; simp
    | succ i =>
      rw [List.getElem?_append_right (by rw [hK, Nat.add_mul]; omega), show (i + 1) * K + j - (enc e).length = i * K + j by rw [hK, Nat.add_mul]; omega]
      exact ih i (by simpa using h) j hj
/-- Cells that hold all elements are the elements' cells. -/
theorem take_flK {cur : Array Value} {l : List α} (h : ∀ i (hi : i < l.length) j u, (enc l[i])[j]? = some u → cur[i * K + j]? = some u) (hs : l.length * K ≤ cur.size) : cur.toList.take (l.length * K) = flK enc l := by
  apply List.ext_getElem?
  intro m
  by_cases hm : m < l.length * K
  · rw [List.getElem?_take_of_lt hm]
    have hK0 : 0 < K := by rcases Nat.eq_zero_or_pos K with h0 | h0; · rw [h0] at hm; omega
                           · exact h0
    have hi : m / K < l.length := Nat.div_lt_of_lt_mul (by rw [Nat.mul_comm]; exact hm)
    have hj : m % K < K := Nat.mod_lt _ hK0
    have hm2 : m = m / K * K + m % K := (Nat.div_add_mod' m K).symm
    have hg := flK_get hK l (m / K) hi (m % K) hj
    rw [← hm2] at hg
    rw [hg]
    have he : (enc l[m / K])[m % K]? = some ((enc l[m / K])[m % K]'(by rw [hK]; exact hj)) := List.getElem?_eq_getElem _
    have := h (m / K) hi (m % K) _ he
    rw [← hm2] at this
    rw [he, ← this]
    simp
  · rw [List.getElem?_eq_none (by rw [List.length_take]; omega), List.getElem?_eq_none (by rw [flK_len hK]; omega)]
omit hK in
/-- Between two rounds of a walk that writes what is kept over what it has read. -/
structure DI (T : TypeId) (enc : α → List Value) (K : Nat) (base b sz : Nat) (w0 W : World) (es kept : List α) (j : Nat) : Prop where
  bel : Below base w0 W
  bb : base ≤ b
  blk : ∃ cur, W.heap[b]? = some (.cells cur T (0, 0)) ∧ cur.size = sz
  hi : ∀ t (h : t < es.length), j ≤ t → W.rangeAt b (t * K) (enc es[t])
  lo : ∀ t (h : t < kept.length), W.rangeAt b (t * K) (enc kept[t])
section
variable {T : TypeId} {base b sz : Nat} {w0 W W' : World} {es kept : List α} {j : Nat}
omit hK in
theorem rng_below {b o : Nat} {vs : List Value} (h : W.rangeAt b o vs) (hb : Below W.heap.size W W') : W'.rangeAt b o vs := fun k u hu => (hb.cell (p := ⟨b, o + k, none⟩) (cell_lt (h k u hu))).trans (h k u hu)
omit hK in
theorem DI.below (h : DI T enc K base b sz w0 W es kept j) (hb : Below W.heap.size W W') (hB : base ≤ W.heap.size) : DI T enc K base b sz w0 W' es kept j := by
  obtain ⟨cur, h1, h2⟩ := h.blk
  exact ⟨h.bel.trans (hb.mono hB), h.bb, ⟨cur, (hb.block _ (Array.getElem?_eq_some_iff.1 h1).1).trans h1, h2⟩, fun t ht hj => rng_below (h.hi t ht hj) hb, fun t ht => rng_below (h.lo t ht) hb⟩
omit hK in
theorem DI.there (h : DI T enc K base b sz w0 W es kept j) (o n : Nat) (hn : o + n ≤ sz) : W.there b o n := by
  obtain ⟨cur, h1, h2⟩ := h.blk
  intro k hk
  have hlt : o + k < cur.size := by omega
  constructor
  · simp [World.cell?, h1, hlt]
  · simp [World.frozen?, h1]
omit hK in
theorem DI.drop (h : DI T enc K base b sz w0 W es kept j) : DI T enc K base b sz w0 W es kept (j + 1) := ⟨h.bel, h.bb, h.blk, fun t ht hj => h.hi t ht (by omega), h.lo⟩
theorem DI.keep (h : DI T enc K base b sz w0 W es kept j) (hj : j < es.length) (hk : kept.length ≤ j) (hs : es.length * K ≤ sz) : DI T enc K base b sz w0 (W.setCells b (kept.length * K) (enc es[j])) es (kept ++ [es[j]]) (j + 1) := by
  obtain ⟨cur, h1, h2⟩ := h.blk
  obtain ⟨cur', h3, h4⟩ := setCells_blk b (enc es[j]) (kept.length * K) W cur h1
  have hgb := setCells_gb b (enc es[j]) (kept.length * K) W
  have hm1 : kept.length * K + K ≤ es.length * K := by
    have := Nat.mul_le_mul_right K (show kept.length + 1 ≤ es.length by omega)
    rwa [Nat.add_mul, Nat.one_mul] at this
  refine ⟨h.bel.trans ⟨hgb.os, hgb.tape, hgb.output, ?_, fun k hk' => hgb.block k (by have := h.bb; have := (Array.getElem?_eq_some_iff.1 h1).1; omega) (fun e => by have := h.bb; injection e with e; omega)⟩, h.bb, ⟨cur', h3, by omega⟩, fun t ht hjt => ?_, fun t ht => ?_⟩
  · exact hgb.size
  · refine World.rangeAt_setCells_apart (h.hi t ht (by omega)) b _ _ (Or.inr (Or.inr ?_))
    rw [hK]
    have := Nat.mul_le_mul_right K (show kept.length + 1 ≤ t by omega)
    rwa [Nat.add_mul, Nat.one_mul] at this
  · rw [List.length_append, List.length_cons, List.length_nil] at ht
    by_cases e : t = kept.length
    · subst e
      rw [List.getElem_append_right (Nat.le_refl _)]
      simp only [Nat.sub_self, List.getElem_cons_zero]
      exact World.rangeAt_setCells_same W b _ _ (h.there _ _ (by rw [hK]; omega))
    · rw [List.getElem_append_left (by omega)]
      refine World.rangeAt_setCells_apart (h.lo t (by omega)) b _ _ (Or.inr (Or.inl ?_))
      rw [hK]
      have := Nat.mul_le_mul_right K (show t + 1 ≤ kept.length by omega)
      rwa [Nat.add_mul, Nat.one_mul] at this
/-- What lies behind those that are kept may turn. -/
theorem DI.behind (h : DI T enc K base b sz w0 W es kept j) (vs : List Value) : DI T enc K base b sz w0 (W.setCells b (kept.length * K) vs) [] kept j := by
  obtain ⟨cur, h1, h2⟩ := h.blk
  obtain ⟨cur', h3, h4⟩ := setCells_blk b vs (kept.length * K) W cur h1
  have hgb := setCells_gb b vs (kept.length * K) W
  refine ⟨h.bel.trans ⟨hgb.os, hgb.tape, hgb.output, hgb.size, fun k hk' => hgb.block k (by have := h.bb; have := (Array.getElem?_eq_some_iff.1 h1).1; omega) (fun e => by have := h.bb; injection e with e; omega)⟩, h.bb, ⟨cur', h3, by omega⟩, fun t ht => absurd ht (by simp), fun t ht => ?_⟩
  refine World.rangeAt_setCells_apart (h.lo t ht) b _ _ (Or.inr (Or.inl ?_))
  rw [hK]
  have := Nat.mul_le_mul_right K (show t + 1 ≤ kept.length by omega)
  rwa [Nat.add_mul, Nat.one_mul] at this
/-- What is kept is a row of the call's own. -/
theorem DI.own (h : DI T enc K base b sz w0 W es kept j) (cap : Nat) (hc : sz = cap * K) (hn : kept.length ≤ cap) (hm : cap ≤ maxLen) : W.ownsRow base T K (.slice (some ⟨b, 0, none⟩) kept.length cap) kept.length (flK enc kept) := by
  obtain ⟨cur, h1, h2⟩ := h.blk
  refine ⟨flK_len hK kept, Or.inr ⟨b, cap, cur, rfl, h.bb, h1, hn, hm, by omega, take_flK hK (fun i hi k u hu => ?_) ?_⟩⟩
  · have := h.lo i hi k u hu
    simp only [World.cell?, h1] at this
    simpa using this
  · rw [h2, hc]; exact Nat.mul_le_mul_right K hn
/-- A row of the call's own, at the start. -/
theorem DI.start {n g : Nat} {cur : Array Value} (hB : base ≤ g) (hb : w0.heap[g]? = some (.cells cur T (0, 0))) (ht : cur.toList.take (es.length * K) = flK enc es) (hs : es.length * K ≤ cur.size) (hn : n ≤ es.length) (hW : Below w0.heap.size w0 W) (hbb : base ≤ w0.heap.size) : DI T enc K base g cur.size w0 W es (es.take n) n := by
  have hlt := (Array.getElem?_eq_some_iff.1 hb).1
  have hb' := (hW.block g hlt).trans hb
  have all : ∀ t (h : t < es.length), W.rangeAt g (t * K) (enc es[t]) := by
    intro t ht' k u hu
    have hk : k < K := by rw [← hK es[t]]; exact (List.getElem?_eq_some_iff.1 hu).1
    have h1 := flK_get hK es t ht' k hk
    have hlt2 : t * K + k < es.length * K := by
      have := Nat.mul_le_mul_right K (show t + 1 ≤ es.length by omega)
      rw [Nat.add_mul, Nat.one_mul] at this
      omega
    rw [hu, ← ht, List.getElem?_take_of_lt hlt2] at h1
    simp only [World.cell?, hb']
    simpa using h1
  refine ⟨hW.mono hbb, hB, ⟨cur, hb', rfl⟩, fun t ht' _ => all t ht', fun t ht' => ?_⟩
  rw [List.getElem_take]
  exact all t _
end
end
end Go.Proofs.YtackpcohmmlkeaaGreatDoor
