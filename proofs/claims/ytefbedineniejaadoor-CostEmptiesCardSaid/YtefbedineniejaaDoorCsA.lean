/- Layers in a slice, and what 'append' makes of a full slice: a row of the call's own; nothing that was there is written. The teller's two maps. -/
import Derived.Test.YtefbedineniejaaDoorProg
import Derived.Test.YtefbedineniejaaDoorBase
import Derived.Test.YtefbedineniejaaDoorMp
import Derived.Test.YtefbedineniejaaDoorStQ
import Derived.Laws.AppendOwnNone
namespace Go.Proofs.YtefbedineniejaaDoor
open Go.RowKit
open Go.Maps (Keyed)
set_option linter.unusedVariables false

structure Lay where
  id : Int
  qty : Int
  val : Int
def Lay.cells (x : Lay) : List Value := [.int .i64 x.id, .int .i64 x.qty, .int .i64 x.val]
def flY (ls : List Lay) : List Value := ls.flatMap Lay.cells
theorem flY_app (a b : List Lay) : flY (a ++ b) = flY a ++ flY b := by simp [flY]
theorem flY_len (ls : List Lay) : (flY ls).length = ls.length * 3 := by
  induction ls with
  | nil => rfl
  | cons e es ih => simp only [flY, List.flatMap_cons, List.length_append, List.length_cons] at ih ⊢; rw [ih]; simp [Lay.cells]; omega
theorem flY_get (es : List Lay) : ∀ i (h : i < es.length) j, j < 3 → (flY es)[i * 3 + j]? = es[i].cells[j]? := by
  induction es with
  | nil => intro i h; exact absurd h (by simp)
  | cons e es ih =>
    intro i h j hj
    simp only [flY, List.flatMap_cons] at ih ⊢
    cases i with
    | zero => rw [List.getElem?_append_left (by simp [Lay.cells]; omega)]; simp
    | succ i =>
      rw [List.getElem?_append_right (by simp [Lay.cells]; omega), show (i + 1) * 3 + j - e.cells.length = i * 3 + j by simp [Lay.cells]; omega]
      exact ih i (by simpa using h) j hj
/-- The block, if there is one, is one of layers. -/
def TagY (w : World) (a : Option Addr) : Prop := ∀ p, a = some p → ∃ cur fz, w.heap[p.block]? = some (.cells cur 58 fz)
theorem TagY.below {w w' : World} {a : Option Addr} (h : TagY w a) (hb : Below w.heap.size w w') : TagY w' a := by
  intro p hp
  obtain ⟨cur, fz, hc⟩ := h p hp
  exact ⟨cur, fz, (hb.block _ (Array.getElem?_eq_some_iff.1 hc).1).trans hc⟩
theorem TagY.new (w : World) (cur : Array Value) : TagY (w.alloc (.cells cur 58)) (some ⟨w.heap.size, 0, none⟩) := by
  intro p hp
  cases hp
  exact ⟨_, _, World.alloc_heap_new w _⟩
/-- A slice whose cells are these layers. -/
def RdY (w : World) (v : Value) (ls : List Lay) : Prop := ∃ a c, v = .slice a ls.length c ∧ ls.length ≤ c ∧ c ≤ maxLen ∧ (a = none → c = 0) ∧ Rd w a (flY ls) ∧ TagY w a
theorem RdY.nil (w : World) : RdY w (.slice none 0 0) [] := ⟨_, 0, rfl, Nat.le_refl _, Nat.zero_le _, fun _ => rfl, Rd.nil _ _, nofun⟩
theorem RdY.below {w w' : World} {v : Value} {ls : List Lay} (h : RdY w v ls) (hb : Below w.heap.size w w') : RdY w' v ls := by
  obtain ⟨a, c, h1, h2, h3, h4, h5⟩ := h
  exact ⟨a, c, h1, h2, h3, h4, h5.1.below hb, h5.2.below hb⟩
/-- The cells of the i-th layer. -/
theorem RdY.at {w : World} {a : Option Addr} {n c : Nat} {ls : List Lay} (h : RdY w (.slice a n c) ls) (i : Nat) (hi : i < ls.length) : n = ls.length ∧ ∃ b off, a = some ⟨b, off, none⟩ ∧
    w.cell? ⟨b, off + i * 3, none⟩ = some (.int .i64 ls[i].id) ∧ w.cell? ⟨b, off + i * 3 + 1, none⟩ = some (.int .i64 ls[i].qty) ∧ w.cell? ⟨b, off + i * 3 + 2, none⟩ = some (.int .i64 ls[i].val) := by
  obtain ⟨a', c', h1, h2, h3, h4, h5⟩ := h
  injection h1 with e1 e2 e3
  subst e1 e2 e3
  have g : ∀ j, j < 3 → ∃ b off, a = some ⟨b, off, none⟩ ∧ w.cell? ⟨b, off + (i * 3 + j), none⟩ = some ((flY ls).getD (i * 3 + j) undef) := fun j hj => h5.1 (i * 3 + j) (by rw [flY_len]; omega)
  obtain ⟨b, off, ha, g0⟩ := g 0 (by omega)
  obtain ⟨b1, off1, ha1, g1⟩ := g 1 (by omega)
  obtain ⟨b2, off2, ha2, g2⟩ := g 2 (by omega)
  rw [ha] at ha1 ha2
  injection ha1 with ha1; injection ha1 with p1 p2 p3
  injection ha2 with ha2; injection ha2 with q1 q2 q3
  subst p1 p2 q1 q2
  have k : ∀ j (hj : j < 3), (flY ls).getD (i * 3 + j) undef = ls[i].cells[j]?.getD undef := fun j hj => by rw [List.getD_eq_getElem?_getD, flY_get ls i hi j hj]
  refine ⟨rfl, b, off, ha, ?_, ?_, ?_⟩
  · rw [show off + i * 3 = off + (i * 3 + 0) by omega, g0, k 0 (by omega)]; rfl
  · rw [show off + i * 3 + 1 = off + (i * 3 + 1) by omega, g1, k 1 (by omega)]; rfl
  · rw [show off + i * 3 + 2 = off + (i * 3 + 2) by omega, g2, k 2 (by omega)]; rfl
theorem info_lay : (Tryd.prog.info? 58).map (fun i => (i.zero, i.size, i.bytes)) = some (some (.agg #[.int .i64 0, .int .i64 0, .int .i64 0]), 3, 24) := by kernel_rfl
theorem rd_new (w : World) (vs us : List Value) (e : TypeId) : Rd (w.alloc (.cells (vs.toArray ++ us.toArray) e)) (some ⟨w.heap.size, 0, none⟩) vs := by
  intro j hj
  refine ⟨w.heap.size, 0, rfl, ?_⟩
  simp only [World.cell?, World.alloc_heap_new, Nat.zero_add]
  simp only [Array.getElem?_append, List.size_toArray, hj, if_true, List.getElem?_toArray]
  simp [hj]
theorem rd_cells {w : World} {a : Addr} {vs : List Value} (h : Rd w (some a) vs) (j : Nat) (v : Value) (hv : vs[j]? = some v) : w.cell? (a.add j) = some v := by
  obtain ⟨hj, rfl⟩ := List.getElem?_eq_some_iff.1 hv
  obtain ⟨b, off, ha, hc⟩ := h j hj
  injection ha with ha
  subst ha
  rw [show (⟨b, off, none⟩ : Addr).add j = ⟨b, off + j, none⟩ by simp [Addr.add], hc]
  simp [hj]
/-- 'append(s, x...)', s a slice that is full: all is laid anew. -/
theorem run_app_full {w : World} (ty : TypeId) (a : Option Addr) (c : Nat) (ls ns : List Lay) (h : RdY w (.slice a ls.length c) ls) (hc : c = ls.length) (ad : Addr) (c2 : Nat) (hn : 0 < ns.length) (hr : Rd w (some ad) (flY ns)) (hb : ls.length + ns.length ≤ 100000) :
    ∃ v' w', (Builtin.append_ #[55, 55] ty #[.slice a ls.length c, .slice (some ad) ns.length c2]).run Tryd.prog w = .ok v' w' ∧ RdY w' v' (ls ++ ns) ∧ Below w.heap.size w w' := by
  obtain ⟨i0, hi, hiz, his, hib⟩ := info_parts info_lay
  obtain ⟨a', c', h1, h2, h3, h4, h5⟩ := h
  injection h1 with e1 e2 e3
  subst e1 e3
  subst hc
  have hml : (100000 : Nat) ≤ maxLen := by unfold maxLen; omega
  cases a with
  | none =>
    have h0 := h4 rfl
    have hls : ls = [] := List.length_eq_zero_iff.1 h0
    subst hls
    have hrun := run_append_nil (P := Tryd.prog) w 55 ty 58 i0 _ Tryd.underlying55 hi hiz ad ns.length c2 (flY ns) (by rw [flY_len, his]) (rd_cells hr) hn (by simp at hb; omega) (by rw [hib]; simp at hb; omega)
    refine ⟨_, _, hrun, ⟨some ⟨w.heap.size, 0, none⟩, grownCap w ns.length 0 58, rfl, grownCap_ge _ _ _ _, grownCap_le_maxLen _ _ _ _ (by simp at hb; omega), fun h => (by cases h), ?_, ?_⟩, ?_⟩
    · have := rd_new w.drew (flY ns) (Builtin.zeroCells (Value.agg #[.int .i64 0, .int .i64 0, .int .i64 0]).cells (grownCap w ns.length 0 58 - ns.length)).toList 58
      simpa using this
    · exact TagY.new w.drew _
    · exact (Below.refl _ w).drew.alloc (Nat.le_refl _) _
  | some b =>
    have hrun := run_append_grow (P := Tryd.prog) w 55 ty 58 i0 _ Tryd.underlying55 hi hiz b ls.length ls.length (flY ls) (by rw [flY_len, his]) (rd_cells h5.1) ad ns.length c2 (flY ns) (by rw [flY_len, his]) (rd_cells hr) (by omega) (by omega) (growslice_fits (by omega) (by rw [hib]; omega))
    refine ⟨_, _, hrun, ⟨some ⟨w.heap.size, 0, none⟩, grownCap w (ls.length + ns.length) ls.length 58, by rw [List.length_append], by rw [List.length_append]; exact grownCap_ge _ _ _ _, grownCap_le_maxLen _ _ _ _ (by omega), fun h => (by cases h), ?_, ?_⟩, ?_⟩
    · have := rd_new w.drew (flY (ls ++ ns)) (Builtin.zeroCells (Value.agg #[.int .i64 0, .int .i64 0, .int .i64 0]).cells (grownCap w (ls.length + ns.length) ls.length 58 - (ls.length + ns.length))).toList 58
      rw [flY_app] at this ⊢
      simpa using this
    · exact TagY.new w.drew _
    · exact (Below.refl _ w).drew.alloc (Nat.le_refl _) _
/-- 'append(s, x...)', s a slice that is full: as an operation. -/
theorem wp_app_full {w : World} {o : Oper} {a : Act} {K : Act → World → Prop} {Q : Exit → Act → World → Prop} (s x : Operand)
    (ho : o.op = .call { callee := .builtin .append, args := #[s, x], argTypes := #[55, 55] }) (sa : Option Addr) (c : Nat) (ls ns : List Lay) (hs : a.eval s = .slice sa ls.length c) (h : RdY w (.slice sa ls.length c) ls) (hc : c = ls.length)
    (ad : Addr) (c2 : Nat) (hx : a.eval x = .slice (some ad) ns.length c2) (hn : 0 < ns.length) (hr : Rd w (some ad) (flY ns)) (hb : ls.length + ns.length ≤ 100000)
    (hk : ∀ v' w', RdY w' v' (ls ++ ns) → Below w.heap.size w w' → K (a.put o.dst v') w') : o.wp Tryd.prog a w K Q := by
  obtain ⟨v', w', hrun, h2, h3⟩ := run_app_full o.type sa c ls ns h hc ad c2 hn hr hb
  unfold Oper.wp execOp
  simp only [ho, resolve, invoke, builtin, Sem.run_bind, Sem.run_pure, Result.andThen_ok, List.map_toArray, List.map_cons, List.map_nil, hs, hx, hrun]
  exact hk v' w' h2 h3
end Go.Proofs.YtefbedineniejaaDoor
