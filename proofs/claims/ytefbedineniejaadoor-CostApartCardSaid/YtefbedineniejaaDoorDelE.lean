/- Joined: RowM, DelE. -/
import Derived.Test.YtefbedineniejaaDoorBase
import Derived.Deep.MidRow
import Derived.RangeFuncRecord
import Derived.Lib.SliceRun
import Derived.Laws.AppendOwnNone
import Derived.Test.YtefbedineniejaaDoorCsT
import Derived.Test.YtefbedineniejaaDoorBase2
import Derived.Deep.Upon

/- RowM: A row of the call's own, of elements of K cells, that is written in its midst: what it holds, element by element. -/
section
namespace Go.Proofs.YtefbedineniejaaDoor
open Go.RowKit
set_option linter.unusedVariables false

theorem run_clearK {P : Program} (w : World) (t e ty : TypeId) (z : Value) (ht : P.underlying t = some (.slice e)) (hv : ∀ w, (zeroValue e).run P w = .ok z w) (b o n c : Nat) (hn : 0 < n) (h1 : ∀ v ∈ (Builtin.zeroCells z.cells n).toList, v.oneCell' = true)
    (hc : w.there b o (Builtin.zeroCells z.cells n).toList.length) :
    (Builtin.clear_ #[t] ty #[.slice (some ⟨b, o, none⟩) n c]).run P w = .ok (.tuple #[]) (w.setCells b o (Builtin.zeroCells z.cells n).toList) := by
  have hst := run_storeCells_cells (P := P) b o (Builtin.zeroCells z.cells n).toList 0 w (by simpa using fun j hj => (hc j (by simpa using hj)).1) (by simpa using fun j hj => (hc j (by simpa using hj)).2) h1
  simp only [Nat.add_zero] at hst
  obtain ⟨m, rfl⟩ : ∃ m, n = m + 1 := ⟨n - 1, by omega⟩
  simp [Builtin.clear_, run_underlying ht, hv, hst]
theorem mid_heap (w : World) (b o k : Nat) (v : Value) (h : k ≠ b) : (w.setCell ⟨b, o, none⟩ v).heap[k]? = w.heap[k]? := by
  show (w.heap.modify b _)[k]? = _
  rw [Array.getElem?_modify, if_neg (Ne.symm h)]
theorem mid_self {w : World} {b o : Nat} {cur : Array Value} {t : TypeId} {fz : Nat × Nat} (v : Value) (h : w.heap[b]? = some (.cells cur t fz)) : (w.setCell ⟨b, o, none⟩ v).heap[b]? = some (.cells (cur.setIfInBounds o v) t fz) := by
  obtain ⟨hlt, hk⟩ := Array.getElem?_eq_some_iff.1 h
  show (w.heap.modify b _)[b]? = _
  rw [Array.getElem?_eq_getElem (by rw [Array.size_modify]; exact hlt), Array.getElem_modify_self, hk]
  rfl
theorem setCells_gb (b : Nat) : ∀ (vs : List Value) (o : Nat) (w : World), w.grownBy (w.setCells b o vs) (some b)
  | [], _, w => ⟨rfl, rfl, rfl, Nat.le_refl _, fun _ _ _ => rfl⟩
  | v :: r, o, w => by
    have h := setCells_gb b r (o + 1) (w.setCell ⟨b, o, none⟩ v)
    refine ⟨h.os.trans rfl, h.tape.trans rfl, h.output.trans rfl, Nat.le_trans (by simp) h.size, fun k hk hne => (h.block k (by simpa using hk) hne).trans (mid_heap w b o k v (fun e => hne (by rw [e])))⟩
theorem setCells_blk (b : Nat) {t : TypeId} {fz : Nat × Nat} : ∀ (vs : List Value) (o : Nat) (w : World) (cur : Array Value), w.heap[b]? = some (.cells cur t fz) → ∃ cur', (w.setCells b o vs).heap[b]? = some (.cells cur' t fz) ∧ cur'.size = cur.size
  | [], _, w, cur, h => ⟨cur, h, rfl⟩
  | v :: r, o, w, cur, h => by
    obtain ⟨cur', h1, h2⟩ := setCells_blk b r (o + 1) _ _ (mid_self (o := o) v h)
    exact ⟨cur', h1, by simpa using h2⟩
theorem new_at (w : World) (vs : Array Value) (t : TypeId) (j : Nat) (u : Value) (h : vs.toList[j]? = some u) : (w.alloc (.cells vs t)).cell? ⟨w.heap.size, j, none⟩ = some u := by
  simp only [World.cell?, World.alloc_heap_new]
  simpa using h
section
variable {α : Type} (enc : α → List Value) (K : Nat)
def flK (l : List α) : List Value := l.flatMap enc
variable {enc K} (hK : ∀ x, (enc x).length = K)
include hK
theorem flK_len (l : List α) : (flK enc l).length = l.length * K := by
  induction l with
  | nil => simp [flK]
  | cons e es ih => simp only [flK, List.flatMap_cons, List.length_append, List.length_cons] at ih ⊢; rw [ih, hK, Nat.add_mul]; omega
theorem flK_get (es : List α) : ∀ i (h : i < es.length) j, j < K → (flK enc es)[i * K + j]? = (enc es[i])[j]? := by
  induction es with
  | nil => intro i h; exact absurd h (by simp)
  | cons e es ih =>
    intro i h j hj
    simp only [flK, List.flatMap_cons] at ih ⊢
    cases i with
    | zero => rw [List.getElem?_append_left (by rw [hK]; omega)]; simp
    | succ i =>
      rw [List.getElem?_append_right (by rw [hK, Nat.add_mul]; omega), show (i + 1) * K + j - (enc e).length = i * K + j by rw [hK, Nat.add_mul]; omega]
      exact ih i (by simpa using h) j hj
/-- Cells that hold all elements are the elements' cells. -/
theorem take_flK {cur : Array Value} {l : List α} (h : ∀ i (hi : i < l.length) j u, (enc l[i])[j]? = some u → cur[i * K + j]? = some u) (hs : l.length * K ≤ cur.size) : cur.toList.take (l.length * K) = flK enc l := by
  apply List.ext_getElem?
  intro m
  by_cases hm : m < l.length * K
  · rw [List.getElem?_take_of_lt hm]
    have hK0 : 0 < K := by rcases Nat.eq_zero_or_pos K with h0 | h0; · rw [h0] at hm; omega
                           · exact h0
    have hi : m / K < l.length := Nat.div_lt_of_lt_mul (by rw [Nat.mul_comm]; exact hm)
    have hj : m % K < K := Nat.mod_lt _ hK0
    have hm2 : m = m / K * K + m % K := (Nat.div_add_mod' m K).symm
    have hg := flK_get hK l (m / K) hi (m % K) hj
    rw [← hm2] at hg
    rw [hg]
    have he : (enc l[m / K])[m % K]? = some ((enc l[m / K])[m % K]'(by rw [hK]; exact hj)) := List.getElem?_eq_getElem _
    have := h (m / K) hi (m % K) _ he
    rw [← hm2] at this
    rw [he, ← this]
    simp
  · rw [List.getElem?_eq_none (by rw [List.length_take]; omega), List.getElem?_eq_none (by rw [flK_len hK]; omega)]
omit hK in
/-- Between two rounds of a walk that writes what is kept over what it has read. -/
structure DI (T : TypeId) (enc : α → List Value) (K : Nat) (base b sz : Nat) (w0 W : World) (es kept : List α) (j : Nat) : Prop where
  bel : Below base w0 W
  bb : base ≤ b
  blk : ∃ cur, W.heap[b]? = some (.cells cur T (0, 0)) ∧ cur.size = sz
  hi : ∀ t (h : t < es.length), j ≤ t → W.rangeAt b (t * K) (enc es[t])
  lo : ∀ t (h : t < kept.length), W.rangeAt b (t * K) (enc kept[t])
section
variable {T : TypeId} {base b sz : Nat} {w0 W W' : World} {es kept : List α} {j : Nat}
omit hK in
theorem rng_below {b o : Nat} {vs : List Value} (h : W.rangeAt b o vs) (hb : Below W.heap.size W W') : W'.rangeAt b o vs := fun k u hu => (hb.cell (p := ⟨b, o + k, none⟩) (cell_lt (h k u hu))).trans (h k u hu)
omit hK in
theorem DI.below (h : DI T enc K base b sz w0 W es kept j) (hb : Below W.heap.size W W') (hB : base ≤ W.heap.size) : DI T enc K base b sz w0 W' es kept j := by
  obtain ⟨cur, h1, h2⟩ := h.blk
  exact ⟨h.bel.trans (hb.mono hB), h.bb, ⟨cur, (hb.block _ (Array.getElem?_eq_some_iff.1 h1).1).trans h1, h2⟩, fun t ht hj => rng_below (h.hi t ht hj) hb, fun t ht => rng_below (h.lo t ht) hb⟩
omit hK in
theorem DI.there (h : DI T enc K base b sz w0 W es kept j) (o n : Nat) (hn : o + n ≤ sz) : W.there b o n := by
  obtain ⟨cur, h1, h2⟩ := h.blk
  intro k hk
  have hlt : o + k < cur.size := by omega
  constructor
  · simp [World.cell?, h1, hlt]
  · simp [World.frozen?, h1]
omit hK in
theorem DI.drop (h : DI T enc K base b sz w0 W es kept j) : DI T enc K base b sz w0 W es kept (j + 1) := ⟨h.bel, h.bb, h.blk, fun t ht hj => h.hi t ht (by omega), h.lo⟩
theorem DI.keep (h : DI T enc K base b sz w0 W es kept j) (hj : j < es.length) (hk : kept.length ≤ j) (hs : es.length * K ≤ sz) : DI T enc K base b sz w0 (W.setCells b (kept.length * K) (enc es[j])) es (kept ++ [es[j]]) (j + 1) := by
  obtain ⟨cur, h1, h2⟩ := h.blk
  obtain ⟨cur', h3, h4⟩ := setCells_blk b (enc es[j]) (kept.length * K) W cur h1
  have hgb := setCells_gb b (enc es[j]) (kept.length * K) W
  have hm1 : kept.length * K + K ≤ es.length * K := by
    have := Nat.mul_le_mul_right K (show kept.length + 1 ≤ es.length by omega)
    rwa [Nat.add_mul, Nat.one_mul] at this
  refine ⟨h.bel.trans ⟨hgb.os, hgb.tape, hgb.output, ?_, fun k hk' => hgb.block k (by have := h.bb; have := (Array.getElem?_eq_some_iff.1 h1).1; omega) (fun e => by have := h.bb; injection e with e; omega)⟩, h.bb, ⟨cur', h3, by omega⟩, fun t ht hjt => ?_, fun t ht => ?_⟩
  · exact hgb.size
  · refine World.rangeAt_setCells_apart (h.hi t ht (by omega)) b _ _ (Or.inr (Or.inr ?_))
    rw [hK]
    have := Nat.mul_le_mul_right K (show kept.length + 1 ≤ t by omega)
    rwa [Nat.add_mul, Nat.one_mul] at this
  · rw [List.length_append, List.length_cons, List.length_nil] at ht
    by_cases e : t = kept.length
    · subst e
      rw [List.getElem_append_right (Nat.le_refl _)]
      simp only [Nat.sub_self, List.getElem_cons_zero]
      exact World.rangeAt_setCells_same W b _ _ (h.there _ _ (by rw [hK]; omega))
    · rw [List.getElem_append_left (by omega)]
      refine World.rangeAt_setCells_apart (h.lo t (by omega)) b _ _ (Or.inr (Or.inl ?_))
      rw [hK]
      have := Nat.mul_le_mul_right K (show t + 1 ≤ kept.length by omega)
      rwa [Nat.add_mul, Nat.one_mul] at this
/-- What lies behind those that are kept may turn. -/
theorem DI.behind (h : DI T enc K base b sz w0 W es kept j) (vs : List Value) : DI T enc K base b sz w0 (W.setCells b (kept.length * K) vs) [] kept j := by
  obtain ⟨cur, h1, h2⟩ := h.blk
  obtain ⟨cur', h3, h4⟩ := setCells_blk b vs (kept.length * K) W cur h1
  have hgb := setCells_gb b vs (kept.length * K) W
  refine ⟨h.bel.trans ⟨hgb.os, hgb.tape, hgb.output, hgb.size, fun k hk' => hgb.block k (by have := h.bb; have := (Array.getElem?_eq_some_iff.1 h1).1; omega) (fun e => by have := h.bb; injection e with e; omega)⟩, h.bb, ⟨cur', h3, by omega⟩, fun t ht => absurd ht (by simp), fun t ht => ?_⟩
  refine World.rangeAt_setCells_apart (h.lo t ht) b _ _ (Or.inr (Or.inl ?_))
  rw [hK]
  have := Nat.mul_le_mul_right K (show t + 1 ≤ kept.length by omega)
  rwa [Nat.add_mul, Nat.one_mul] at this
/-- What is kept is a row of the call's own. -/
theorem DI.own (h : DI T enc K base b sz w0 W es kept j) (cap : Nat) (hc : sz = cap * K) (hn : kept.length ≤ cap) (hm : cap ≤ maxLen) : W.ownsRow base T K (.slice (some ⟨b, 0, none⟩) kept.length cap) kept.length (flK enc kept) := by
  obtain ⟨cur, h1, h2⟩ := h.blk
  refine ⟨flK_len hK kept, Or.inr ⟨b, cap, cur, rfl, h.bb, h1, hn, hm, by omega, take_flK hK (fun i hi k u hu => ?_) ?_⟩⟩
  · have := h.lo i hi k u hu
    simp only [World.cell?, h1] at this
    simpa using this
  · rw [h2, hc]; exact Nat.mul_le_mul_right K hn
/-- A row of the call's own, at the start. -/
theorem DI.start {n g : Nat} {cur : Array Value} (hB : base ≤ g) (hb : w0.heap[g]? = some (.cells cur T (0, 0))) (ht : cur.toList.take (es.length * K) = flK enc es) (hs : es.length * K ≤ cur.size) (hn : n ≤ es.length) (hW : Below w0.heap.size w0 W) (hbb : base ≤ w0.heap.size) : DI T enc K base g cur.size w0 W es (es.take n) n := by
  have hlt := (Array.getElem?_eq_some_iff.1 hb).1
  have hb' := (hW.block g hlt).trans hb
  have all : ∀ t (h : t < es.length), W.rangeAt g (t * K) (enc es[t]) := by
    intro t ht' k u hu
    have hk : k < K := by rw [← hK es[t]]; exact (List.getElem?_eq_some_iff.1 hu).1
    have h1 := flK_get hK es t ht' k hk
    have hlt2 : t * K + k < es.length * K := by
      have := Nat.mul_le_mul_right K (show t + 1 ≤ es.length by omega)
      rw [Nat.add_mul, Nat.one_mul] at this
      omega
    rw [hu, ← ht, List.getElem?_take_of_lt hlt2] at h1
    simp only [World.cell?, hb']
    simpa using h1
  refine ⟨hW.mono hbb, hB, ⟨cur, hb', rfl⟩, fun t ht' _ => all t ht', fun t ht' => ?_⟩
  rw [List.getElem_take]
  exact all t _
end
end
end Go.Proofs.YtefbedineniejaaDoor
end

/- DelE: slices.DeleteFunc at events: in a row of the call's own. -/
section
namespace Go.Proofs.YtefbedineniejaaDoor
open Go.RowKit
open Go.Maps (Keyed)
set_option linter.unusedVariables false

theorem zero_E : ∀ w, (zeroValue 50).run Tryd.prog w = .ok (.agg #[.int .i64 0, .string ⟨#[]⟩, .int .i64 0, .int .i64 0, .int .i64 0, .int .i64 0, .int .i64 0]) w := fun w => by simp [go_sem]
theorem zeros_E (n : Nat) : (Builtin.zeroCells (Value.cells (.agg #[.int .i64 0, .string ⟨#[]⟩, .int .i64 0, .int .i64 0, .int .i64 0, .int .i64 0, .int .i64 0])) n).toList.length = n * 7 ∧ ∀ v ∈ (Builtin.zeroCells (Value.cells (.agg #[.int .i64 0, .string ⟨#[]⟩, .int .i64 0, .int .i64 0, .int .i64 0, .int .i64 0, .int .i64 0])) n).toList, v.oneCell' = true := by
  simp [Builtin.zeroCells, Value.cells]
  intro i hi
  have : i % 7 < 7 := Nat.mod_lt _ (by decide)
  generalize i % 7 = m at this
  match m, this with
  | 0, _ => rfl
  | 1, _ => rfl
  | 2, _ => rfl
  | 3, _ => rfl
  | 4, _ => rfl
  | 5, _ => rfl
  | 6, _ => rfl
theorem sub_tail_E (b n cap i : Nat) (hi : i < n) (hn : n ≤ cap) (w : World) : (Instr.slice 37 (.slice (some ⟨b, 0, none⟩) n cap) (some (.int .i64 i)) none none).run Tryd.prog w = .ok (.slice (some ⟨b, i * 7, none⟩) (n - i) (cap - i)) w := by
  have hz : ∀ w, (sizeOf 50).run Tryd.prog w = .ok 7 w := fun w => by simp [go_sem]
  have h1 : ¬ cap - i = 0 := by omega
  have h2 : ((i : Int) ≤ (n : Int)) := by omega
  go_simp
  intro h
  omega
set_option maxHeartbeats 2000000 in
set_option maxRecDepth 100000 in
theorem delE_any (g : Nat) (cb : Array Value) (p : Evt → Bool) (base : Nat) (v : Value) (es : List Evt) (w : World) (ho : w.ownsRow base 50 7 v es.length (flE es)) (hB : base ≤ w.heap.size) (hlen : es.length ≤ 1000) (eg : ∀ args w, (callFunc g args).run Tryd.prog w = .ok (.enter g args) w)
    (hf : ∀ e ∈ es, ∀ W, Below base w W → Calls Tryd.prog g (#[e.agg] ++ cb) W fun x w' => x = .returned (.bool (p e)) ∧ Below W.heap.size W w') :
    Calls Tryd.prog 24 #[v, .func (.func g) #[] cb] w fun e w' => ∃ v', e = .returned v' ∧ w'.ownsRow base 50 7 v' (es.filter fun x => !p x).length (flE (es.filter fun x => !p x)) ∧ Below base w w' := by
  have HX := Lib.hid (indexE_any g cb p _ v es w (rdE_of_own ho rfl) (Nat.le_refl _) hlen eg (fun e he W hW => hf e he W (hW.mono hB)))
  have HO := Lib.hid ho
  obtain ⟨xa, xc, rfl⟩ := own_slice ho
  have HF := Lib.hid hf
  clear ho hf
  go_enter Tryd.func24, Tryd.ntmps24
  go_wp2_with fail
  refine HX.out.mono ?_
  rintro e w1 ⟨z, rfl, hz, hb1⟩
  rcases hz with ⟨rfl, hall⟩ | ⟨k, hk, rfl, hpk, hbef⟩
  · have hfil : (es.filter fun x => !p x) = es := List.filter_eq_self.2 fun x hx => by rw [hall x hx]; rfl
    have HFI := Lib.hid hfil
    clear hall hfil
    go_wp2_with fail
    go_ret
    rw [HFI.out]
    exact ⟨_, rfl, own_below HO.out hb1, hb1.mono hB⟩
  · have hne1 : (((k : Nat) : Int) == -1) = false := beq_eq_false_iff_ne.2 (by omega)
    rcases HO.out.2 with ⟨-, h0⟩ | ⟨b, cap, cur, e1, hbb, hc, hn, hm, hsz, ht⟩
    · omega
    injection e1 with e1 e2 e3
    subst e1 e3
    have hs7 : es.length * 7 ≤ cur.size := by rw [hsz]; exact Nat.mul_le_mul_right 7 hn
    have hD := DI.start (W := w1) (n := k) (fun (x : Evt) => (rfl : x.cells.length = 7)) hbb hc ht hs7 (by omega) hb1 hB
    have hkeep : (es.filter fun x => !p x) = es.take k ++ ((es.drop (k + 1)).filter fun x => !p x) := by
      have e0 : es = es.take k ++ (es[k] :: es.drop (k + 1)) := by rw [List.getElem_cons_drop]; exact (List.take_append_drop k es).symm
      conv => lhs; rw [e0]
      rw [List.filter_append, List.filter_cons, if_neg (by rw [hpk]; simp), List.filter_eq_self.2 fun x hx => by
        obtain ⟨j, hj, rfl⟩ := List.getElem_of_mem hx
        rw [List.getElem_take, hbef j (by rw [List.length_take] at hj; omega)]; rfl]
    have HKP : Hid ((es.filter fun x => !p x) = es.take k ++ ((es.drop (k + 1)).filter fun x => !p x)) := Lib.hid hkeep
    have hlk : (es.take k).length = k := by rw [List.length_take]; omega
    have HD0 := Lib.hid hD.drop
    have HLK := Lib.hid hlk
    have HS7 := Lib.hid hs7
    have hsz2 : cur.size = xc * 7 := hsz
    have HSZ := Lib.hid hsz2
    clear hD hkeep hlk hs7 hpk hbef hc ht hsz hsz2 hb1 HX
    have z7 := zero_E
    go_wp2_with fail
    go_loopg [5, 6] es.length (fun kx s5 s6 wr => ∃ (i j : Nat) (kept : List Evt), s5 = .int .i64 i ∧ s6 = .int .i64 j ∧ kept.length = i ∧ i < j ∧ j ≤ es.length ∧ es.length - j ≤ kx ∧ Hid (es.filter (fun x => !p x) = kept ++ ((es.drop j).filter fun x => !p x)) ∧ Hid (DI 50 Evt.cells 7 base b cur.size w wr es kept j))
    case atStart => exact ⟨k, k + 1, es.take k, rfl, by go_num, HLK.out, by omega, by omega, by omega, HKP, HD0⟩
    case round =>
      obtain ⟨i, j, kept, rfl, rfl, hki, hij, hj, hkx, HE, HD⟩ := hrel
      have HKI := Lib.hid hki
      clear hki
      by_cases hlt : j < es.length
      · have hltz : (j : Int) < (es.length : Int) := by omega
        have hil : (i : Int) < (es.length : Int) := by omega
        have hrg := HD.out.hi j hlt (Nat.le_refl _)
        obtain ⟨x, hx⟩ : ∃ x, x = es[j] := ⟨_, rfl⟩
        rw [← hx] at hrg
        have HXJ := Lib.hid hx
        have c0 : wr.cell? ⟨b, j * 7, none⟩ = some _ := hrg 0 _ rfl
        have c1 : wr.cell? ⟨b, j * 7 + 1, none⟩ = some _ := hrg 1 _ rfl
        have c2 : wr.cell? ⟨b, j * 7 + 2, none⟩ = some _ := hrg 2 _ rfl
        have c3 : wr.cell? ⟨b, j * 7 + 3, none⟩ = some _ := hrg 3 _ rfl
        have c4 : wr.cell? ⟨b, j * 7 + 4, none⟩ = some _ := hrg 4 _ rfl
        have c5 : wr.cell? ⟨b, j * 7 + 5, none⟩ = some _ := hrg 5 _ rfl
        have c6 : wr.cell? ⟨b, j * 7 + 6, none⟩ = some _ := hrg 6 _ rfl
        have hbw : b < wr.heap.size := cell_lt c0
        clear hrg hx
        have hBw : base ≤ wr.heap.size := Nat.le_trans HD.out.bb (by omega)
        have HW1 := Lib.hid ((HD.out.bel).trans (((Below.refl _ wr).new x.ob).mono hBw))
        have HC := Lib.hid (HF.out x (by rw [HXJ.out]; exact List.getElem_mem hlt) _ HW1.out)
        have HN := Lib.hid (fun (j : Nat) (u : Value) (h : x.cells[j]? = some u) => new_at wr x.cells.toArray 50 j u (by simpa using h))
        cases hp : p x with
        | true =>
          rw [hp] at HC
          have HP := Lib.hid hp
          clear hp
          go_wp2_with (go_at_fn g; refine HC.out.mono ?_; rintro e w2 ⟨rfl, hb2⟩)
          go_roundg (es.length - (j + 1))
          case measure => omega
          case rel =>
            refine ⟨i, j + 1, kept, rfl, by go_num, HKI.out, by omega, by omega, Nat.le_refl _, ?_, ?_⟩
            · show _ = _
              rw [HE.out, List.drop_eq_getElem_cons hlt, List.filter_cons, if_neg (by rw [← HXJ.out, HP.out]; simp)]
            · exact (HD.out.below (((Below.refl _ wr).new x.ob).step hb2) hBw).drop
        | false =>
          rw [hp] at HC
          have HP := Lib.hid hp
          clear hp
          have hlt2 : wr.heap.size < (wr.alloc x.ob).heap.size := by simp
          have HL2 := Lib.hid hlt2
          clear hlt2
          have hpi : i * 7 + 7 ≤ es.length * 7 := by omega
          have HPI := Lib.hid hpi
          clear hpi
          go_wp2_with (first
            | (go_at_fn g; refine HC.out.mono ?_; rintro e w2 ⟨rfl, hb2⟩
               have HD2 := Lib.hid (HD.out.below (((Below.refl _ wr).new x.ob).step hb2) hBw)
               have hbw2 : b < w2.heap.size := by have := hb2.size; simp at this; omega
               have d0 : w2.cell? ⟨wr.heap.size, 0, none⟩ = some _ := (hb2.cell (p := ⟨wr.heap.size, 0, none⟩) HL2.out).trans (HN.out 0 _ rfl)
               have d1 : w2.cell? ⟨wr.heap.size, 1, none⟩ = some _ := (hb2.cell (p := ⟨wr.heap.size, 1, none⟩) HL2.out).trans (HN.out 1 _ rfl)
               have d2 : w2.cell? ⟨wr.heap.size, 2, none⟩ = some _ := (hb2.cell (p := ⟨wr.heap.size, 2, none⟩) HL2.out).trans (HN.out 2 _ rfl)
               have d3 : w2.cell? ⟨wr.heap.size, 3, none⟩ = some _ := (hb2.cell (p := ⟨wr.heap.size, 3, none⟩) HL2.out).trans (HN.out 3 _ rfl)
               have d4 : w2.cell? ⟨wr.heap.size, 4, none⟩ = some _ := (hb2.cell (p := ⟨wr.heap.size, 4, none⟩) HL2.out).trans (HN.out 4 _ rfl)
               have d5 : w2.cell? ⟨wr.heap.size, 5, none⟩ = some _ := (hb2.cell (p := ⟨wr.heap.size, 5, none⟩) HL2.out).trans (HN.out 5 _ rfl)
               have d6 : w2.cell? ⟨wr.heap.size, 6, none⟩ = some _ := (hb2.cell (p := ⟨wr.heap.size, 6, none⟩) HL2.out).trans (HN.out 6 _ rfl)
               obtain ⟨o0, s0⟩ : ∃ o, w2.cell? ⟨b, i * 7, none⟩ = some o := Option.isSome_iff_exists.1 (HD2.out.there (i * 7) 7 (Nat.le_trans HPI.out HS7.out) 0 (by decide)).1
               have f0 : w2.frozen? ⟨b, i * 7, none⟩ = false := (HD2.out.there (i * 7) 7 (Nat.le_trans HPI.out HS7.out) 0 (by decide)).2
               obtain ⟨o1, s1⟩ : ∃ o, w2.cell? ⟨b, i * 7 + 1, none⟩ = some o := Option.isSome_iff_exists.1 (HD2.out.there (i * 7) 7 (Nat.le_trans HPI.out HS7.out) 1 (by decide)).1
               have f1 : w2.frozen? ⟨b, i * 7 + 1, none⟩ = false := (HD2.out.there (i * 7) 7 (Nat.le_trans HPI.out HS7.out) 1 (by decide)).2
               obtain ⟨o2, s2⟩ : ∃ o, w2.cell? ⟨b, i * 7 + 2, none⟩ = some o := Option.isSome_iff_exists.1 (HD2.out.there (i * 7) 7 (Nat.le_trans HPI.out HS7.out) 2 (by decide)).1
               have f2 : w2.frozen? ⟨b, i * 7 + 2, none⟩ = false := (HD2.out.there (i * 7) 7 (Nat.le_trans HPI.out HS7.out) 2 (by decide)).2
               obtain ⟨o3, s3⟩ : ∃ o, w2.cell? ⟨b, i * 7 + 3, none⟩ = some o := Option.isSome_iff_exists.1 (HD2.out.there (i * 7) 7 (Nat.le_trans HPI.out HS7.out) 3 (by decide)).1
               have f3 : w2.frozen? ⟨b, i * 7 + 3, none⟩ = false := (HD2.out.there (i * 7) 7 (Nat.le_trans HPI.out HS7.out) 3 (by decide)).2
               obtain ⟨o4, s4⟩ : ∃ o, w2.cell? ⟨b, i * 7 + 4, none⟩ = some o := Option.isSome_iff_exists.1 (HD2.out.there (i * 7) 7 (Nat.le_trans HPI.out HS7.out) 4 (by decide)).1
               have f4 : w2.frozen? ⟨b, i * 7 + 4, none⟩ = false := (HD2.out.there (i * 7) 7 (Nat.le_trans HPI.out HS7.out) 4 (by decide)).2
               obtain ⟨o5, s5⟩ : ∃ o, w2.cell? ⟨b, i * 7 + 5, none⟩ = some o := Option.isSome_iff_exists.1 (HD2.out.there (i * 7) 7 (Nat.le_trans HPI.out HS7.out) 5 (by decide)).1
               have f5 : w2.frozen? ⟨b, i * 7 + 5, none⟩ = false := (HD2.out.there (i * 7) 7 (Nat.le_trans HPI.out HS7.out) 5 (by decide)).2
               obtain ⟨o6, s6⟩ : ∃ o, w2.cell? ⟨b, i * 7 + 6, none⟩ = some o := Option.isSome_iff_exists.1 (HD2.out.there (i * 7) 7 (Nat.le_trans HPI.out HS7.out) 6 (by decide)).1
               have f6 : w2.frozen? ⟨b, i * 7 + 6, none⟩ = false := (HD2.out.there (i * 7) 7 (Nat.le_trans HPI.out HS7.out) 6 (by decide)).2))
          have HD3 := HD2.out.keep (fun (x : Evt) => (rfl : x.cells.length = 7)) hlt (by have := HKI.out; omega) HS7.out
          rw [HKI.out, ← HXJ.out] at HD3
          have HD4 := Lib.hid HD3
          clear HD3
          go_roundg (es.length - (j + 1))
          case measure => omega
          case rel =>
            refine ⟨i + 1, j + 1, kept ++ [x], by go_num, by go_num, by rw [List.length_append, HKI.out]; rfl, by omega, by omega, Nat.le_refl _, ?_, HD4.out⟩
            show _ = _
            rw [HE.out, List.drop_eq_getElem_cons hlt, List.filter_cons, if_pos (by rw [← HXJ.out, HP.out]; rfl), ← HXJ.out]
            simp
      · have hltz : ¬ ((j : Int) < (es.length : Int)) := by omega
        have hje : j = es.length := by omega
        subst hje
        have hfe : es.filter (fun x => !p x) = kept := by rw [HE.out, List.drop_length]; simp
        have HFE := Lib.hid hfe
        obtain ⟨hz1, hz2⟩ := zeros_E (es.length - i)
        have hth : wr.there b (i * 7) (Builtin.zeroCells (Value.cells (.agg #[.int .i64 0, .string ⟨#[]⟩, .int .i64 0, .int .i64 0, .int .i64 0, .int .i64 0, .int .i64 0])) (es.length - i)).toList.length := HD.out.there _ _ (by rw [hz1]; have := HS7.out; omega)
        have hcl := run_clearK (P := Tryd.prog) wr 37 50
        have hcl := fun ty => run_clearK (P := Tryd.prog) wr 37 50 ty (.agg #[.int .i64 0, .string ⟨#[]⟩, .int .i64 0, .int .i64 0, .int .i64 0, .int .i64 0, .int .i64 0]) Tryd.underlying37 (zero_E) b (i * 7) (es.length - i) (xc - i) (by omega) hz2 hth
        have hsb := sub_tail_E b es.length xc i hij hn
        have hsl := fun w => slice_sl_to (P := Tryd.prog) 37 Tryd.underlying37 7 (fun w => by simp [go_sem]) (some ⟨b, 0, none⟩) es.length xc i i rfl (by omega) w
        generalize (Builtin.zeroCells (Value.cells (.agg #[.int .i64 0, .string ⟨#[]⟩, .int .i64 0, .int .i64 0, .int .i64 0, .int .i64 0, .int .i64 0])) (es.length - i)).toList = vs at hcl
        have HDE := Lib.hid (HD.out.behind (fun (x : Evt) => (rfl : x.cells.length = 7)) vs)
        rw [HKI.out] at HDE
        clear hfe hz1 hz2 hth
        go_wp2_with fail
        go_ret
        rw [HFE.out]
        have hki := HKI.out
        subst hki
        exact ⟨_, rfl, HDE.out.own (fun (x : Evt) => (rfl : x.cells.length = 7)) xc HSZ.out (by omega) hm, HDE.out.bel⟩
end Go.Proofs.YtefbedineniejaaDoor
end
