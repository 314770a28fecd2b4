/- Joined: CsA, CsB. -/
import Derived.Test.YtackpcohmmlkeaaGreatDoorProg
import Derived.Test.YtackpcohmmlkeaaGreatDoorBase
import Derived.Test.YtackpcohmmlkeaaGreatDoorMp
import Derived.Test.YtackpcohmmlkeaaGreatDoorStQ
import Derived.Laws.AppendOwnNone
import Derived.Deep.LoopGhost
import Derived.StringKeys

/- CsA: Layers in a slice, and what 'append' makes of a full slice: a row of the call's own; nothing that was there is written. The teller's two maps. -/
section
namespace Go.Proofs.YtackpcohmmlkeaaGreatDoor
open Go.RowKit
open Go.Maps (Keyed)
set_option linter.unusedVariables false

structure Lay where
  id : Int
  qty : Int
  val : Int
def Lay.cells (x : Lay) : List Value := [.int .i64 x.id, .int .i64 x.qty, .int .i64 x.val]
def flY (ls : List Lay) : List Value := ls.flatMap Lay.cells
theorem flY_app (a b : List Lay) : flY (a ++ b) = flY a ++ flY b := by simp [flY]
theorem flY_len (ls : List Lay) : (flY ls).length = ls.length * 3 := by
  induction ls with
  | nil => rfl
  | cons e es ih => simp only [flY, List.flatMap_cons, List.length_append, List.length_cons] at ih ⊢; rw [ih]; simp [Lay.cells]; omega
theorem flY_get (es : List Lay) : ∀ i (h : i < es.length) j, j < 3 → (flY es)[i * 3 + j]? = es[i].cells[j]? := by
  induction es with
  | nil => intro i h; exact absurd h (by simp)
  | cons e es ih =>
    intro i h j hj
    simp only [flY, List.flatMap_cons] at ih ⊢
    cases i with
    | zero => rw [List.getElem?_append_left (by simp [Lay.cells]; omega)]; simp
    | succ i =>
      rw [List.getElem?_append_right (by simp [Lay.cells]; omega), show (i + 1) * 3 + j - e.cells.length = i * 3 + j by simp [Lay.cells]; omega]
      exact ih i (by simpa using h) j hj
/-- The block, if there is one, is one of layers. -/
def TagY (w : World) (a : Option Addr) : Prop := ∀ p, a = some p → ∃ cur fz, w.heap[p.block]? = some (.cells cur 139 fz)
theorem TagY.below {w w' : World} {a : Option Addr} (h : TagY w a) (hb : Below w.heap.size w w') : TagY w' a := by
  intro p hp
  obtain ⟨cur, fz, hc⟩ := h p hp
  exact ⟨cur, fz, (hb.block _ (Array.getElem?_eq_some_iff.1 hc).1).trans hc⟩
theorem TagY.new (w : World) (cur : Array Value) : TagY (w.alloc (.cells cur 139)) (some ⟨w.heap.size, 0, none⟩) := by
  intro p hp
  cases hp
  exact ⟨_, _, World.alloc_heap_new w _⟩
/-- A slice whose cells are these layers. -/
def RdY (w : World) (v : Value) (ls : List Lay) : Prop := ∃ a c, v = .slice a ls.length c ∧ ls.length ≤ c ∧ c ≤ maxLen ∧ (a = none → c = 0) ∧ Rd w a (flY ls) ∧ TagY w a
theorem RdY.nil (w : World) : RdY w (.slice none 0 0) [] := ⟨_, 0, rfl, Nat.le_refl _, Nat.zero_le _, fun _ => rfl, Rd.nil _ _, nofun⟩
theorem RdY.below {w w' : World} {v : Value} {ls : List Lay} (h : RdY w v ls) (hb : Below w.heap.size w w') : RdY w' v ls := by
  obtain ⟨a, c, h1, h2, h3, h4, h5⟩ := h
  exact ⟨a, c, h1, h2, h3, h4, h5.1.below hb, h5.2.below hb⟩
/-- The cells of the i-th layer. -/
theorem RdY.at {w : World} {a : Option Addr} {n c : Nat} {ls : List Lay} (h : RdY w (.slice a n c) ls) (i : Nat) (hi : i < ls.length) : n = ls.length ∧ ∃ b off, a = some ⟨b, off, none⟩ ∧
    w.cell? ⟨b, off + i * 3, none⟩ = some (.int .i64 ls[i].id) ∧ w.cell? ⟨b, off + i * 3 + 1, none⟩ = some (.int .i64 ls[i].qty) ∧ w.cell? ⟨b, off + i * 3 + 2, none⟩ = some (.int .i64 ls[i].val) := by
  obtain ⟨a', c', h1, h2, h3, h4, h5⟩ := h
  injection h1 with e1 e2 e3
  subst e1 e2 e3
  have g : ∀ j, j < 3 → ∃ b off, a = some ⟨b, off, none⟩ ∧ w.cell? ⟨b, off + (i * 3 + j), none⟩ = some ((flY ls).getD (i * 3 + j) undef) := fun j hj => h5.1 (i * 3 + j) (by rw [flY_len]; omega)
  obtain ⟨b, off, ha, g0⟩ := g 0 (by omega)
  obtain ⟨b1, off1, ha1, g1⟩ := g 1 (by omega)
  obtain ⟨b2, off2, ha2, g2⟩ := g 2 (by omega)
  rw [ha] at ha1 ha2
  injection ha1 with ha1; injection ha1 with p1 p2 p3
  injection ha2 with ha2; injection ha2 with q1 q2 q3
  subst p1 p2 q1 q2
  have k : ∀ j (hj : j < 3), (flY ls).getD (i * 3 + j) undef = ls[i].cells[j]?.getD undef := fun j hj => by rw [List.getD_eq_getElem?_getD, flY_get ls i hi j hj]
  refine ⟨rfl, b, off, ha, ?_, ?_, ?_⟩
  · rw [show off + i * 3 = off + (i * 3 + 0) by omega, g0, k 0 (by omega)]; rfl
  · rw [show off + i * 3 + 1 = off + (i * 3 + 1) by omega, g1, k 1 (by omega)]; rfl
  · rw [show off + i * 3 + 2 = off + (i * 3 + 2) by omega, g2, k 2 (by omega)]; rfl
theorem info_lay : (Tryz.prog.info? 139).map (fun i => (i.zero, i.size, i.bytes)) = some (some (.agg #[.int .i64 0, .int .i64 0, .int .i64 0]), 3, 24) := by kernel_rfl
theorem rd_new (w : World) (vs us : List Value) (e : TypeId) : Rd (w.alloc (.cells (vs.toArray ++ us.toArray) e)) (some ⟨w.heap.size, 0, none⟩) vs := by
  intro j hj
  refine ⟨w.heap.size, 0, rfl, ?_⟩
  simp only [World.cell?, World.alloc_heap_new, Nat.zero_add]
  simp only [Array.getElem?_append, List.size_toArray, hj, if_true, List.getElem?_toArray]
  simp [hj]
theorem rd_cells {w : World} {a : Addr} {vs : List Value} (h : Rd w (some a) vs) (j : Nat) (v : Value) (hv : vs[j]? = some v) : w.cell? (a.add j) = some v := by
  obtain ⟨hj, rfl⟩ := List.getElem?_eq_some_iff.1 hv
  obtain ⟨b, off, ha, hc⟩ := h j hj
  injection ha with ha
  subst ha
  rw [show (⟨b, off, none⟩ : Addr).add j = ⟨b, off + j, none⟩ by simp [Addr.add], hc]
  simp [hj]
/-- 'append(s, x...)', s a slice that is full: all is laid anew. -/
theorem run_app_full {w : World} (ty : TypeId) (a : Option Addr) (c : Nat) (ls ns : List Lay) (h : RdY w (.slice a ls.length c) ls) (hc : c = ls.length) (ad : Addr) (c2 : Nat) (hn : 0 < ns.length) (hr : Rd w (some ad) (flY ns)) (hb : ls.length + ns.length ≤ 100000) :
    ∃ v' w', (Builtin.append_ #[136, 136] ty #[.slice a ls.length c, .slice (some ad) ns.length c2]).run Tryz.prog w = .ok v' w' ∧ RdY w' v' (ls ++ ns) ∧ Below w.heap.size w w' := by
  obtain ⟨i0, hi, hiz, his, hib⟩ := info_parts info_lay
  obtain ⟨a', c', h1, h2, h3, h4, h5⟩ := h
  injection h1 with e1 e2 e3
  subst e1 e3
  subst hc
  have hml : (100000 : Nat) ≤ maxLen := by unfold maxLen; omega
  cases a with
  | none =>
    have h0 := h4 rfl
    have hls : ls = [] := List.length_eq_zero_iff.1 h0
    subst hls
    have hrun := run_append_nil (P := Tryz.prog) w 136 ty 139 i0 _ Tryz.underlying136 hi hiz ad ns.length c2 (flY ns) (by rw [flY_len, his]) (rd_cells hr) hn (by simp at hb; omega) (by rw [hib]; simp at hb; omega)
    refine ⟨_, _, hrun, ⟨some ⟨w.heap.size, 0, none⟩, grownCap w ns.length 0 139, rfl, grownCap_ge _ _ _ _, grownCap_le_maxLen _ _ _ _ (by simp at hb; omega), fun h => (by cases h), ?_, ?_⟩, ?_⟩
    · have := rd_new w.drew (flY ns) (Builtin.zeroCells (Value.agg #[.int .i64 0, .int .i64 0, .int .i64 0]).cells (grownCap w ns.length 0 139 - ns.length)).toList 139
      simpa using this
    · exact TagY.new w.drew _
    · exact (Below.refl _ w).drew.alloc (Nat.le_refl _) _
  | some b =>
    have hrun := run_append_grow (P := Tryz.prog) w 136 ty 139 i0 _ Tryz.underlying136 hi hiz b ls.length ls.length (flY ls) (by rw [flY_len, his]) (rd_cells h5.1) ad ns.length c2 (flY ns) (by rw [flY_len, his]) (rd_cells hr) (by omega) (by omega) (growslice_fits (by omega) (by rw [hib]; omega))
    refine ⟨_, _, hrun, ⟨some ⟨w.heap.size, 0, none⟩, grownCap w (ls.length + ns.length) ls.length 139, by rw [List.length_append], by rw [List.length_append]; exact grownCap_ge _ _ _ _, grownCap_le_maxLen _ _ _ _ (by omega), fun h => (by cases h), ?_, ?_⟩, ?_⟩
    · have := rd_new w.drew (flY (ls ++ ns)) (Builtin.zeroCells (Value.agg #[.int .i64 0, .int .i64 0, .int .i64 0]).cells (grownCap w (ls.length + ns.length) ls.length 139 - (ls.length + ns.length))).toList 139
      rw [flY_app] at this ⊢
      simpa using this
    · exact TagY.new w.drew _
    · exact (Below.refl _ w).drew.alloc (Nat.le_refl _) _
/-- 'append(s, x...)', s a slice that is full: as an operation. -/
theorem wp_app_full {w : World} {o : Oper} {a : Act} {K : Act → World → Prop} {Q : Exit → Act → World → Prop} (s x : Operand)
    (ho : o.op = .call { callee := .builtin .append, args := #[s, x], argTypes := #[136, 136] }) (sa : Option Addr) (c : Nat) (ls ns : List Lay) (hs : a.eval s = .slice sa ls.length c) (h : RdY w (.slice sa ls.length c) ls) (hc : c = ls.length)
    (ad : Addr) (c2 : Nat) (hx : a.eval x = .slice (some ad) ns.length c2) (hn : 0 < ns.length) (hr : Rd w (some ad) (flY ns)) (hb : ls.length + ns.length ≤ 100000)
    (hk : ∀ v' w', RdY w' v' (ls ++ ns) → Below w.heap.size w w' → K (a.put o.dst v') w') : o.wp Tryz.prog a w K Q := by
  obtain ⟨v', w', hrun, h2, h3⟩ := run_app_full o.type sa c ls ns h hc ad c2 hn hr hb
  unfold Oper.wp execOp
  simp only [ho, resolve, invoke, builtin, Sem.run_bind, Sem.run_pure, Result.andThen_ok, List.map_toArray, List.map_cons, List.map_nil, hs, hx, hrun]
  exact hk v' w' h2 h3
end Go.Proofs.YtackpcohmmlkeaaGreatDoor
end

/- CsB: The teller: what its maps hold; has. -/
section
namespace Go.Proofs.YtackpcohmmlkeaaGreatDoor
open Go.RowKit
open Go.Maps (Keyed)
open Go.WideMaps
set_option linter.unusedVariables false

/-- What of the world stays: all but two blocks, that were there. -/
structure Li (bl bm : Nat) (w w' : World) : Prop where
  os : w'.os = w.os
  tape : w'.tape = w.tape
  output : w'.output = w.output
  size : w.heap.size ≤ w'.heap.size
  block : ∀ k, k < w.heap.size → k ≠ bl → k ≠ bm → w'.heap[k]? = w.heap[k]?
theorem Li.refl (bl bm : Nat) (w : World) : Li bl bm w w := ⟨rfl, rfl, rfl, Nat.le_refl _, fun _ _ _ _ => rfl⟩
theorem Li.trans {bl bm : Nat} {a b c : World} (h : Li bl bm a b) (k : Li bl bm b c) : Li bl bm a c :=
  ⟨k.os.trans h.os, k.tape.trans h.tape, k.output.trans h.output, Nat.le_trans h.size k.size, fun i hi h1 h2 => (k.block i (Nat.lt_of_lt_of_le hi h.size) h1 h2).trans (h.block i hi h1 h2)⟩
theorem Li.of_below {bl bm : Nat} {w w' : World} (h : Below w.heap.size w w') : Li bl bm w w' := ⟨h.os, h.tape, h.output, h.size, fun k hk _ _ => h.block k hk⟩
theorem Li.of_grown {bl bm b : Nat} {w w' : World} (h : w.grownBy w' (some b)) (hb : b = bl ∨ b = bm) : Li bl bm w w' :=
  ⟨h.os, h.tape, h.output, h.size, fun k hk h1 h2 => h.block k hk (fun e => by cases e; rcases hb with h | h; exact h1 h; exact h2 h)⟩
theorem Li.below {bl bm B : Nat} {w0 w w' : World} (h : Li bl bm w w') (h0 : Below B w0 w) (h1 : B ≤ bl) (h2 : B ≤ bm) (hB : B ≤ w.heap.size) : Below B w0 w' :=
  ⟨h.os.trans h0.os, h.tape.trans h0.tape, h.output.trans h0.output, Nat.le_trans h0.size h.size, fun k hk => (h.block k (by omega) (by omega) (by omega)).trans (h0.block k hk)⟩
theorem cell_blk {w : World} {p : Addr} {v : Value} (h : w.cell? p = some v) : p.block < w.heap.size := by
  apply Classical.byContradiction
  intro hn
  simp only [World.cell?] at h
  rw [Array.getElem?_eq_none (by omega)] at h
  cases h
theorem Li.cell {bl bm : Nat} {w w' : World} (h : Li bl bm w w') {p : Addr} {v : Value} (hc : w.cell? p = some v) (h1 : p.block ≠ bl) (h2 : p.block ≠ bm) : w'.cell? p = some v := by
  rw [← hc]
  exact World.cell?_of_block (h.block p.block (cell_blk hc) h1 h2)
theorem mv_nocell {P : Program} {k : TypeId} {z : Value} {w : World} {b : Nat} {ks : List Lit} {f : Lit → Value} (h : MV P k z w b ks f) (o : Nat) : w.cell? ⟨b, o, none⟩ = none := by
  obtain ⟨D, ho, _⟩ := h.ex
  obtain ⟨es, clock, hb, _⟩ := ho
  simp [World.cell?, hb]
theorem mv_nocells {P : Program} {k : TypeId} {z : Value} {w : World} {b : Nat} {ks : List Lit} {f : Lit → Value} (h : MV P k z w b ks f) (cur : Array Value) (t : TypeId) (fz : Nat × Nat) : w.heap[b]? ≠ some (.cells cur t fz) := by
  obtain ⟨D, ho, _⟩ := h.ex
  obtain ⟨es, clock, hb, _⟩ := ho
  rw [hb]; intro h; cases h
theorem RdY.li {bl bm : Nat} {w w' : World} {v : Value} {ls : List Lay} (h : RdY w v ls) (hg : Li bl bm w w') (h1 : ∀ o, w.cell? ⟨bl, o, none⟩ = none) (h2 : ∀ o, w.cell? ⟨bm, o, none⟩ = none) (g1 : ∀ cur t fz, w.heap[bl]? ≠ some (.cells cur t fz)) (g2 : ∀ cur t fz, w.heap[bm]? ≠ some (.cells cur t fz)) : RdY w' v ls := by
  obtain ⟨a, c, e1, e2, e3, e4, e5⟩ := h
  refine ⟨a, c, e1, e2, e3, e4, fun j hj => ?_, fun p hp => ?_⟩
  rotate_left
  · obtain ⟨cur, fz, hc⟩ := e5.2 p hp
    refine ⟨cur, fz, (hg.block _ (Array.getElem?_eq_some_iff.1 hc).1 (fun e => ?_) (fun e => ?_)).trans hc⟩
    · rw [e] at hc; exact g1 cur _ fz hc
    · rw [e] at hc; exact g2 cur _ fz hc
  obtain ⟨b, off, ha, hc⟩ := e5.1 j hj
  refine ⟨b, off, ha, hg.cell hc (fun e => ?_) (fun e => ?_)⟩
  · simp only at e; rw [e, h1] at hc; cases hc
  · simp only at e; rw [e, h2] at hc; cases hc
def updL {β : Type} (L : List UInt8 → β) (s : List UInt8) (v : β) : List UInt8 → β := fun x => if x = s then v else L x
theorem updL_same {β : Type} (L : List UInt8 → β) (s : List UInt8) (v : β) : updL L s v s = v := by simp [updL]
theorem updL_other {β : Type} (L : List UInt8 → β) {s x : List UInt8} (v : β) (h : x ≠ s) : updL L s v x = L x := by simp [updL, h]
/-- The teller at T: its layers in the map at bl, what one cost last in the map at bm. -/
structure TW (w : World) (T bl bm c : Nat) (L : List UInt8 → List Lay) (G : List UInt8 → Int) : Prop where
  t0 : w.cell? ⟨T, 0, none⟩ = some (.map (some bl))
  t1 : w.cell? ⟨T, 1, none⟩ = some (.map (some bm))
  ne : bl ≠ bm
  ml : ∃ ks f, MV Tryz.prog 9 (.slice none 0 0) w bl ks f ∧ ks.length ≤ c ∧ ∀ l, RdY w (f (.string l)) (L l)
  mm : ∃ km g, MVI Tryz.prog 9 w bm km g ∧ km.length ≤ c ∧ ∀ l, g (.string l) = G l
theorem TW.below {w w' : World} {T bl bm c : Nat} {L : List UInt8 → List Lay} {G : List UInt8 → Int} (h : TW w T bl bm c L G) (hb : Below w.heap.size w w') : TW w' T bl bm c L G := by
  obtain ⟨t0, t1, ne, ⟨ks, f, m1, m2, m3⟩, ⟨km, g, n1, n2, n3⟩⟩ := h
  exact ⟨(hb.cell (cell_blk t0)).trans t0, (hb.cell (cell_blk t1)).trans t1, ne, ⟨ks, f, m1.below hb, m2, fun k => (m3 k).below hb⟩, ⟨km, g, MV.below n1 hb, n2, n3⟩⟩
theorem TW.mono {w : World} {T bl bm c c' : Nat} {L : List UInt8 → List Lay} {G : List UInt8 → Int} (h : TW w T bl bm c L G) (hc : c ≤ c') : TW w T bl bm c' L G := by
  obtain ⟨t0, t1, ne, ⟨ks, f, m1, m2, m3⟩, ⟨km, g, n1, n2, n3⟩⟩ := h
  exact ⟨t0, t1, ne, ⟨ks, f, m1, by omega, m3⟩, ⟨km, g, n1, by omega, n3⟩⟩
theorem key_bytes (s : ByteArray) (h : s.size ≤ maxLen) : keyOf Tryz.prog 9 (.string s) = some (.string s.data.toList) := keyOf_string_mk Tryz.underlying9 h
theorem zero_sl (w : World) : (zeroValue 136).run Tryz.prog w = .ok (.slice none 0 0) w := by kernel_rfl
theorem zero_int2 (w : World) : (zeroValue 3).run Tryz.prog w = .ok (.int .i64 0) w := by kernel_rfl
/-- 't.layers[item]'. -/
theorem TW.look {w : World} {T bl bm c : Nat} {L : List UInt8 → List Lay} {G : List UInt8 → Int} (h : TW w T bl bm c L G) (s : ByteArray) (hs : s.size ≤ maxLen) : ∃ v, (Instr.lookup 68 (.map (some bl)) (.string s) false).run Tryz.prog w = .ok v w ∧ RdY w v (L s.data.toList) := by
  obtain ⟨t0, t1, ne, ⟨ks, f, m1, m2, m3⟩, -⟩ := h
  exact ⟨_, m1.get (Go.Maps.string_keyed Tryz.underlying9) Tryz.underlying68 (zero_sl w) (key_bytes s hs), m3 _⟩
/-- 't.last[item]'. -/
theorem TW.looki {w : World} {T bl bm c : Nat} {L : List UInt8 → List Lay} {G : List UInt8 → Int} (h : TW w T bl bm c L G) (s : ByteArray) (hs : s.size ≤ maxLen) : (Instr.lookup 119 (.map (some bm)) (.string s) false).run Tryz.prog w = .ok (.int .i64 (G s.data.toList)) w := by
  obtain ⟨t0, t1, ne, -, ⟨km, g, n1, n2, n3⟩⟩ := h
  rw [← n3]
  exact MV.get n1 (Go.Maps.string_keyed Tryz.underlying9) Tryz.underlying119 (zero_int2 w) (key_bytes s hs)
/-- 't.layers[item] = v'. -/
theorem TW.set {w : World} {T bl bm c : Nat} {L : List UInt8 → List Lay} {G : List UInt8 → Int} (h : TW w T bl bm c L G) (s : ByteArray) (hs : s.size ≤ maxLen) (hc : c < maxLen) (v : Value) (ls : List Lay) (hv : RdY w v ls) :
    ∃ w', (Instr.mapUpdate 68 (.map (some bl)) (.string s) v).run Tryz.prog w = .ok () w' ∧ TW w' T bl bm (c + 1) (updL L s.data.toList ls) G ∧ Li bl bm w w' := by
  obtain ⟨t0, t1, ne, ⟨ks, f, m1, m2, m3⟩, ⟨km, g, n1, n2, n3⟩⟩ := h
  obtain ⟨w', hrun, hm, hg⟩ := MV.set (val := v) m1 (Go.Maps.string_keyed Tryz.underlying9) Tryz.underlying68 (by omega) (key_bytes s hs)
  have hli : Li bl bm w w' := Li.of_grown hg (.inl rfl)
  have b1 := mv_nocell m1
  have b2 := mv_nocell n1
  have hT : T ≠ bl ∧ T ≠ bm := ⟨fun e => (by rw [e, b1] at t0; cases t0), fun e => (by rw [e, b2] at t0; cases t0)⟩
  have hn1 := MV.kept n1 hg (fun e => ne (by cases e; rfl))
  refine ⟨w', hrun, ⟨hli.cell t0 hT.1 hT.2, hli.cell t1 hT.1 hT.2, ne, ⟨_, _, hm, Nat.le_trans (addK_len _ _) (by omega), fun l => ?_⟩, ⟨km, g, hn1, by omega, n3⟩⟩, hli⟩
  by_cases e : l = s.data.toList
  · subst e
    rw [upd_same, updL_same]
    exact hv.li hli b1 b2 (mv_nocells m1) (mv_nocells n1)
  · rw [upd_other _ _ (fun h => e (by injection h)), updL_other _ _ e]
    exact (m3 l).li hli b1 b2 (mv_nocells m1) (mv_nocells n1)
/-- 't.last[item] = n'. -/
theorem TW.seti {w : World} {T bl bm c : Nat} {L : List UInt8 → List Lay} {G : List UInt8 → Int} (h : TW w T bl bm c L G) (s : ByteArray) (hs : s.size ≤ maxLen) (hc : c < maxLen) (n : Int) :
    ∃ w', (Instr.mapUpdate 119 (.map (some bm)) (.string s) (.int .i64 n)).run Tryz.prog w = .ok () w' ∧ TW w' T bl bm (c + 1) L (updL G s.data.toList n) ∧ Li bl bm w w' := by
  obtain ⟨t0, t1, ne, ⟨ks, f, m1, m2, m3⟩, ⟨km, g, n1, n2, n3⟩⟩ := h
  obtain ⟨w', hrun, hm, hg⟩ := MV.set (val := .int .i64 n) n1 (Go.Maps.string_keyed Tryz.underlying9) Tryz.underlying119 (by omega) (key_bytes s hs)
  have hli : Li bl bm w w' := Li.of_grown hg (.inr rfl)
  have b1 := mv_nocell m1
  have b2 := mv_nocell n1
  have hT : T ≠ bl ∧ T ≠ bm := ⟨fun e => (by rw [e, b1] at t0; cases t0), fun e => (by rw [e, b2] at t0; cases t0)⟩
  have hm1 := MV.kept m1 hg (fun e => ne (by cases e; rfl))
  refine ⟨w', hrun, ⟨hli.cell t0 hT.1 hT.2, hli.cell t1 hT.1 hT.2, ne, ⟨ks, f, hm1, by omega, fun l => (m3 l).li hli b1 b2 (mv_nocells m1) (mv_nocells n1)⟩, ⟨_, updI g (.string s.data.toList) n, by unfold MVI; rw [← upd_int]; exact hm, Nat.le_trans (addK_len _ _) (by omega), fun l => ?_⟩⟩, hli⟩
  by_cases e : l = s.data.toList
  · subst e; rw [updI_same, updL_same]
  · rw [updI_other _ _ (fun h => e (by injection h)), updL_other _ _ e, n3]
/-- How many there are. -/
def sumQ (ls : List Lay) : Int := (ls.map Lay.qty).sum
theorem sumQ_snoc (ls : List Lay) (x : Lay) : sumQ (ls ++ [x]) = sumQ ls + x.qty := by simp [sumQ]
theorem sumQ_bd (ls : List Lay) (h : ∀ x ∈ ls, 0 ≤ x.qty ∧ x.qty ≤ 100000) : 0 ≤ sumQ ls ∧ sumQ ls ≤ 100000 * ls.length := by
  induction ls with
  | nil => simp [sumQ]
  | cons x ls ih =>
    have h1 := h x (by simp)
    have h2 := ih fun y hy => h y (by simp [hy])
    simp only [sumQ, List.map_cons, List.sum_cons, List.length_cons] at h2 ⊢
    omega

set_option maxHeartbeats 1000000 in
set_option maxRecDepth 100000 in
theorem has_any (T bl bm c : Nat) (L : List UInt8 → List Lay) (G : List UInt8 → Int) (s : ByteArray) (w : World) (h : TW w T bl bm c L G) (hs : s.size ≤ maxLen) (hq : ∀ x ∈ L s.data.toList, 0 ≤ x.qty ∧ x.qty ≤ 100000) (hl : (L s.data.toList).length ≤ 1000) :
    Calls Tryz.prog 95 #[.pointer (some ⟨T, 0, none⟩), .string s] w fun e w' => e = .returned (.int .i64 (sumQ (L s.data.toList))) ∧ Below w.heap.size w w' := by
  obtain ⟨v, look, hr⟩ := h.look s hs
  have t0 := h.t0
  generalize L s.data.toList = ls at hr hq hl ⊢
  have hr0 := hr
  obtain ⟨a, cp, rfl, -⟩ := hr0
  have HR : Aside (RdY w (.slice a ls.length cp) ls) := hr
  have HQ : Aside _ := hq
  clear h hr hq
  go_enter Tryz.func95, Tryz.ntmps95
  go_wp2
  go_loopg [5, 15] ls.length (fun kx n i wr => ∃ k : Nat, k ≤ ls.length ∧ n = .int .i64 (sumQ (ls.take k)) ∧ i = .int .i64 k ∧ ls.length - k ≤ kx ∧ Below w.heap.size w wr)
  case atStart => exact ⟨0, by omega, rfl, rfl, by omega, Below.refl _ _⟩
  case round =>
    obtain ⟨k, hk, rfl, rfl, hkx, hb⟩ := hrel
    by_cases hlt : k < ls.length
    · have hltz : (k : Int) < (ls.length : Int) := by omega
      obtain ⟨-, b, off, rfl, p0, p1, p2⟩ := (HR.out.below hb).at k hlt
      have hx := HQ.out ls[k] (List.getElem_mem hlt)
      have hbd := sumQ_bd (ls.take k) (fun x hx => HQ.out x (List.mem_of_mem_take hx))
      have hS : Hid (sumQ (ls.take (k + 1)) = sumQ (ls.take k) + ls[k].qty) := by show _ = _; rw [List.take_succ_eq_append_getElem hlt, sumQ_snoc]
      have htl : (ls.take k).length ≤ 1000 := by rw [List.length_take]; omega
      generalize ls[k] = x at p0 p1 p2 hx hS
      generalize sumQ (ls.take k) = S at hbd hS ⊢
      go_wp2
      go_roundg (ls.length - (k + 1))
      case measure => omega
      case rel => exact ⟨k + 1, hlt, by rw [hS.out], by first | rfl | go_num | (congr 1; omega), Nat.le_refl _, hb.new _⟩
    · have hltz : ¬ (k : Int) < (ls.length : Int) := by omega
      have hke : k = ls.length := by omega
      subst hke
      rw [List.take_length]
      go_wp2
      go_ret
      exact ⟨rfl, hb⟩
end Go.Proofs.YtackpcohmmlkeaaGreatDoor
end
