/- ledger.Parse: what it hands back. -/
import Derived.Test.YtefbedineniejaaDoorLgR
import Derived.Test.YtefbedineniejaaDoorLgP
import Derived.Test.YtefbedineniejaaDoorSplSeq
import Derived.Test.YtefbedineniejaaDoorMoneyR
import Derived.RangeFuncBox
namespace Go.Proofs.YtefbedineniejaaDoor
open Go.RowKit
set_option linter.unusedVariables false
attribute [local go_sem] Oper.semAt_some

/-- What the ledger's reading wants of the world: where the accounts stand. -/
structure LW (w : World) : Prop where
  most : ∃ m, w.cell? ⟨3, 0, none⟩ = some (.int .i64 m)
  acc : ∀ j, j < 6 → w.cell? ⟨0, j, none⟩ = some (.string (Lg.acc.getD j ByteArray.empty))
theorem LW.below {w w' : World} (h : LW w) (hb : Below w.heap.size w w') : LW w' := by
  obtain ⟨m, hm⟩ := h.most
  exact ⟨⟨m, by rw [hb.cell (cell_lt hm)]; exact hm⟩, fun j hj => by rw [hb.cell (cell_lt (h.acc j hj))]; exact h.acc j hj⟩
theorem contains_acc (x : ByteArray) (w : World) (h : LW w) :
    Calls Tryd.prog 39 #[.slice (some ⟨0, 0, none⟩) 6 6, .string x] w fun e w' => e = .returned (.bool (Lib.containsS Lg.acc x)) ∧ w' = w :=
  Tryd.slices_Contains_string 0 0 6 6 Lg.acc x w (by decide) (by decide) (fun j hj => by rw [Nat.zero_add]; exact h.acc j hj)
theorem rd_made (w : World) (vs : List Value) (t : TypeId) : Rd (w.alloc (.cells vs.toArray t)) (some ⟨w.heap.size, 0, none⟩) vs := fun j hj => by
  refine ⟨_, _, rfl, ?_⟩
  simp only [World.cell?, show (w.alloc (.cells vs.toArray t)).heap[w.heap.size]? = some (.cells vs.toArray t) from by show (w.heap.push _)[w.heap.size]? = _; simp]
  simp [List.getD, hj]
/-- strings.Split at one byte. -/
theorem split_lw (c : UInt8) (s : ByteArray) (w : World) (h : LW w) (hs : s.size ≤ 1000000) :
    Calls Tryd.prog 38 #[.string s, .string ⟨#[c]⟩] w (fun e w' => e = .returned (.slice (some ⟨w.heap.size, 0, none⟩) (Sp.spl c s.data.toList).length (Sp.spl c s.data.toList).length) ∧ Rd w' (some ⟨w.heap.size, 0, none⟩) (((Sp.spl c s.data.toList).map fun x => (⟨x.toArray⟩ : ByteArray)).map Value.string) ∧ w.heap.size < w'.heap.size ∧ Below w.heap.size w w') := by
  obtain ⟨m, hm⟩ := h.most
  refine (Tryd.strings_Split s ⟨#[c]⟩ m w (by omega) hm (by simp [ByteArray.size])).mono ?_
  rintro e w' ⟨rfl, rfl⟩
  rw [Sp.splitB_spl c s]
  have hl : Lib.countB s ⟨#[c]⟩ + 1 = (Sp.spl c s.data.toList).length := by
    rw [Sp.spl_len]
    show Lib.count s.data.toList [c] + 1 = _
    rw [Lib.count_one]
  rw [hl]
  exact ⟨rfl, rd_made _ _ _, by simp, (Below.refl _ _).alloc (Nat.le_refl _) _⟩

theorem Rd.str0' {w : World} {b : Nat} {zs : List ByteArray} (h : Rd w (some ⟨b, 0, none⟩) (zs.map Value.string)) (j : Nat) (z : ByteArray) (hj : zs[j]? = some z) : w.cell? ⟨b, j, none⟩ = some (.string z) := by
  have hl : j < zs.length := by
    apply Classical.byContradiction
    intro hn
    rw [List.getElem?_eq_none (by omega)] at hj
    cases hj
  obtain ⟨b', off, ha, hc⟩ := h j (by simpa using hl)
  injection ha with ha
  injection ha with h1 h2
  subst h1 h2
  rw [Nat.zero_add] at hc
  rw [hc]
  simp [List.getD, hj]
/-- 'append(out, x)', as one step of a region that draws. -/
theorem step_app_one {P : Program} {ops : Array Oper} {o : Oper} {a : Act} {K : Act → World → Prop} {Q : Exit → Act → World → Prop} {E : Prop} {w : World} (hL : ¬ LetsOut Q) (hgd : o.guard = none) (s x : Operand) (t : TypeId)
    (ho : o.op = .call { callee := .builtin .append, args := #[s, x], argTypes := #[t, t] })
    (base : Nat) (e : TypeId) (i : TypeInfo) (z : Value) (size bytes : Nat) (ht : P.underlying t = some (.slice e)) (hi : P.info? e = some i) (hz : i.zero = some z)
    (hsize : i.size = size) (hby : i.bytes = bytes) (hzs : z.cells.size = size) (hsz : 0 < size)
    (v : Value) (n : Nat) (xs : List Value) (hown : w.ownsRow base e size v n xs) (hs : a.eval s = v)
    (us : List Value) (hul : us.length = size) (hx : a.eval x = .slice (some ⟨w.heap.size, 0, none⟩) 1 1) (h1 : ∀ u ∈ us, u.oneCell' = true)
    (h63 : n + 1 ≤ maxLen) (hbytes : (n + 1) * bytes ≤ 140737488355328) (hbase : base ≤ w.heap.size)
    (h : ∀ v' w', w'.ownsRow base e size v' (n + 1) (xs ++ us) → w.grownBy w' v.ownBlock → K (a.put o.dst v') w') :
    if Region.wanted o (yielded ops a.tmps) = true then Oper.wp P o a (w.alloc (.cells us.toArray e)) K Q else E := by
  have hw : Region.wanted o (yielded ops a.tmps) = true := by simp [Region.wanted, hgd]
  rw [if_pos hw]
  have H := app_one (P := P) (ops := ops) (rest := []) (o := o) (a := a) (Q := Exit.then K Q) hgd s x t ho base e i z size bytes ht hi hz hsize hby hzs hsz v n xs hown hs us hul hx h1 h63 hbytes hbase h
  unfold wpList at H
  rw [if_pos hw] at H
  exact H.resolve_right fun x => lo_then hL x.2
theorem pline_bad {t : List UInt8} (h : Lg.okw (Lg.ws t) = false) : Lg.pline t = none := by
  unfold Lg.pline; rw [if_neg (by rw [h]; simp)]
theorem pline_neg {t : List UInt8} {p : Int} (h : Lg.okw (Lg.ws t) = true) (hp : Mn.parse ((Lg.ws t).getD 0 ByteArray.empty).data.toList = some p) (hle : p ≤ 0) : Lg.pline t = none := by
  unfold Lg.pline; rw [if_pos h, hp]; simp only; rw [if_neg (by omega)]
theorem pline_noamount {t : List UInt8} (h : Lg.okw (Lg.ws t) = true) (hp : Mn.parse ((Lg.ws t).getD 0 ByteArray.empty).data.toList = none) : Lg.pline t = none := by
  unfold Lg.pline; rw [if_pos h, hp]
theorem pline_good {t : List UInt8} {p : Int} (h : Lg.okw (Lg.ws t) = true) (hp : Mn.parse ((Lg.ws t).getD 0 ByteArray.empty).data.toList = some p) (hpos : 0 < p) : Lg.pline t = some ⟨(Lg.ws t).getD 1 ByteArray.empty, (Lg.ws t).getD 3 ByteArray.empty, p⟩ := by
  unfold Lg.pline; rw [if_pos h, hp]; simp only; rw [if_pos hpos]
theorem money_parse_lw (z : ByteArray) (h : z.size ≤ maxLen) : (∃ p, Mn.parse z.data.toList = some p ∧ ∀ w', Calls Tryd.prog 40 #[.string z] w' (Gives (.tuple #[.int .i64 p, .nilIface]) w')) ∨
    (Mn.parse z.data.toList = none ∧ ∀ w', Calls Tryd.prog 40 #[.string z] w' (Gives (.tuple #[.int .i64 0, .iface 79 (.int .i64 3)]) w')) := by
  cases hp : Mn.parse z.data.toList with
  | some p => exact Or.inl ⟨p, rfl, fun w' => (parse_any z w' h).mono fun e w2 ⟨h1, h2⟩ => by rw [hp] at h1; exact ⟨h1, h2⟩⟩
  | none => exact Or.inr ⟨rfl, fun w' => (parse_any z w' h).mono fun e w2 ⟨h1, h2⟩ => by rw [hp] at h1; exact ⟨h1, h2⟩⟩
theorem lg_ne {w : World} {b base e size n : Nat} {v : Value} {xs : List Value} (h : w.ownsRow base e size v n xs) (hb : b < base) : some b ≠ v.ownBlock := by
  rcases h.2 with ⟨rfl, _⟩ | ⟨g, cap, cur, rfl, hB, _⟩
  · simp [Value.ownBlock]
  · simp [Value.ownBlock]; omega
def LgI (w : World) (s : ByteArray) (pre : List (List UInt8)) (W : World) : Prop :=
  ∃ v ps, Boxed W w.heap.size 9 (.string s) ∧ Boxed W (w.heap.size + 1) 25 (.slice none 0 0) ∧ Boxed W (w.heap.size + 2) 27 .nilIface ∧ Boxed W (w.heap.size + 3) 25 v ∧ Boxed W (w.heap.size + 4) 3 (.int .i64 pre.length) ∧
    OwnP W (w.heap.size + 8) v ps ∧ pre.map Lg.pline = ps.map some ∧ Below w.heap.size w W ∧ w.heap.size + 8 ≤ W.heap.size
def LgFail (w : World) (s : ByteArray) (W : World) : Prop :=
  ∃ g, ∃ k : Nat, Lg.Fails s.data.toList k ∧ Boxed W (w.heap.size + 1) 25 (.slice none 0 0) ∧ Boxed W (w.heap.size + 2) 27 (.iface 78 (.pointer (some ⟨g, 0, none⟩))) ∧ W.heap[g]? = some (.cells #[.int .i64 3, .int .i64 k] 81 (0, 0)) ∧ Below w.heap.size w W
def LgX (w : World) (s : ByteArray) (c : Code) (pre : List (List UInt8)) (W : World) : Prop :=
  (c = .exit 0 ∧ s.data.toList = [] ∧ LgI w s [] W) ∨ (c = .ret ∧ LgFail w s W)
/-- What ledger.Parse hands back. -/
def ParseL (s : ByteArray) (w : World) (e : Ending) (w' : World) : Prop :=
  (∃ v ps, e = .returned (.tuple #[v, .nilIface]) ∧ OwnP w' w.heap.size v ps ∧ Lg.Reads s.data.toList ps ∧ Below w.heap.size w w') ∨
  (∃ g, ∃ k : Nat, e = .returned (.tuple #[.slice none 0 0, .iface 78 (.pointer (some ⟨g, 0, none⟩))]) ∧ w'.heap[g]? = some (.cells #[.int .i64 3, .int .i64 k] 81 (0, 0)) ∧ Lg.Fails s.data.toList k ∧ Below w.heap.size w w')

theorem own_row_kept {W W' : World} {row : Option Nat} {base e size n : Nat} {v : Value} {xs : List Value} (h : W.ownsRow base e size v n xs) (hg : W.grownBy W' row) (hr : ∀ r, row = some r → ∃ o : Obj, W.heap[r]? = some o ∧ o.isCells = false) : W'.ownsRow base e size v n xs := by
  refine h.kept hg ?_
  rcases h.2 with ⟨rfl, _⟩ | ⟨g, cap, cur, rfl, _, hgb, _⟩
  · exact Or.inl rfl
  · refine Or.inr (fun e' => ?_)
    obtain ⟨o, ho, hc⟩ := hr g e'.symm
    rw [hgb] at ho
    cases ho
    cases hc
theorem lgI_own (w : World) (s : ByteArray) (D : Nat) (hD : w.heap.size + 8 ≤ D) : OwnFrom D (LgI w s) := by
  rintro pre W W' row ⟨v, ps, h0, h1, h2, h3, h4, ho, hm, hb, hsz⟩ hg hr
  have ne : ∀ k, k < w.heap.size + 8 → some k ≠ row := fun k hk e => by have := (hr k e.symm).1; omega
  exact ⟨v, ps, h0.kept hg (ne _ (by omega)), h1.kept hg (ne _ (by omega)), h2.kept hg (ne _ (by omega)), h3.kept hg (ne _ (by omega)), h4.kept hg (ne _ (by omega)), own_row_kept ho hg (fun r e => (hr r e).2), hm, hb.grown hg hb.size (fun k e => by have := (hr k e).1; omega), Nat.le_trans hsz hg.size⟩
theorem lgF_own (w : World) (s : ByteArray) (D : Nat) (hD : w.heap.size + 8 ≤ D) : OwnFrom D (fun (_ : List (List UInt8)) W => LgFail w s W) := by
  rintro pre W W' row ⟨g, k, hf, h1, h2, hgb, hb⟩ hg hr
  have ne : ∀ k, k < w.heap.size + 8 → some k ≠ row := fun k hk e => by have := (hr k e.symm).1; omega
  refine ⟨g, k, hf, h1.kept hg (ne _ (by omega)), h2.kept hg (ne _ (by omega)), ?_, hb.grown hg hb.size (fun k e => by have := (hr k e).1; omega)⟩
  rw [hg.block g (Array.getElem?_eq_some_iff.1 hgb).1 (fun e => by
    obtain ⟨o, ho, hc⟩ := (hr g e.symm).2
    rw [hgb] at ho; cases ho; cases hc)]
  exact hgb
theorem lgX_own (w : World) (s : ByteArray) (D : Nat) (hD : w.heap.size + 8 ≤ D) (c : Code) : OwnFrom D (LgX w s c) := by
  rintro pre W W' row (⟨hc, hs, h⟩ | ⟨hc, h⟩) hg hr
  · exact Or.inl ⟨hc, hs, lgI_own w s D hD [] W W' row h hg hr⟩
  · exact Or.inr ⟨hc, lgF_own w s D hD [] W W' row h hg hr⟩
theorem lgI_turns (w : World) (s : ByteArray) (b : Nat) (hb : b = w.heap.size + 5) (pre : List (List UInt8)) : Turns b (LgI w s pre) := by
  rintro W u ⟨v, ps, h0, h1, h2, h3, h4, ho, hm, hbl, hsz⟩
  exact ⟨v, ps, h0.other (by omega) u, h1.other (by omega) u, h2.other (by omega) u, h3.other (by omega) u, h4.other (by omega) u, ownsRow_setCell_below ho (by show b < _; omega) u, hm, hbl.setCell (p := ⟨b, 0, none⟩) (by show _ ≤ b; omega) u, by simpa [World.setCell] using hsz⟩

theorem lg_fails {s T : ByteArray} {pre : List (List UInt8)} {x : List UInt8} {ps : List Lg.P} (hT : T = ⟨(Lib.trimSuffix s.data.toList (⟨#[10]⟩ : ByteArray).data.toList).toArray⟩) (hs : ¬ s.data.toList = []) (hpre : (pre ++ [x]) <+: Sp.spl 10 T.data.toList)
    (hm : pre.map Lg.pline = ps.map some) (hx : Lg.pline x = none) : Lg.Fails s.data.toList pre.length := by
  refine ⟨hs, Or.inl ⟨pre, x, ?_, ⟨ps, hm⟩, hx, rfl⟩⟩
  rw [hT] at hpre
  exact hpre
/-- Where a line is none, the round is left. -/
theorem lg_leave {w W W3 : World} {s : ByteArray} {k : Nat} {xs : List (List UInt8)} {a : Act} (hf : Lg.Fails s.data.toList k) (hb : Below w.heap.size w W) (hB3 : Below W.heap.size W W3)
    (u1 : Boxed W3 (w.heap.size + 1) 25 (.slice none 0 0)) (u2 : Boxed W3 (w.heap.size + 2) 27 .nilIface) :
    ownPostK (KB w.heap.size (w.heap.size + 5) (w.heap.size + 8)) (LgI w s) (LgX w s) xs W Exit.ret a
      (((W3.setCell ⟨w.heap.size + 1, 0, none⟩ (.slice none 0 0)).setCell ⟨w.heap.size + 2, 0, none⟩ (.iface 78 (.pointer (some ⟨W3.heap.size, 0, none⟩)))).alloc (.cells #[.int .i64 3, .int .i64 k] 81)).drew := by
  have hl1 := u1.lt
  have hl2 := u2.lt
  refine ⟨((((keepsOthers_of_below hB3).trans (KeepsOthers.setCell _ _ _)).trans (KeepsOthers.setCell _ _ _)).trans (KeepsOthers.alloc _ _)).trans (KeepsOthers.drew _), .inr ⟨rfl, W3.heap.size, k, hf, ?_, ?_, ?_, ?_⟩⟩
  · exact (((u1.set (.slice none 0 0)).other (by omega) _).alloc _)
  · exact ((u2.other (by omega) _).set _).alloc _
  · show (((W3.setCell _ _).setCell _ _).alloc _).heap[W3.heap.size]? = _
    have := World.alloc_heap_new ((W3.setCell ⟨w.heap.size + 1, 0, none⟩ (.slice none 0 0)).setCell ⟨w.heap.size + 2, 0, none⟩ (.iface 78 (.pointer (some ⟨W3.heap.size, 0, none⟩)))) (.cells #[.int .i64 3, .int .i64 k] 81)
    simpa [World.setCell] using this
  · exact (((((hb.step hB3).setCell (p := ⟨w.heap.size + 1, 0, none⟩) (by show _ ≤ w.heap.size + 1; omega) _).setCell (p := ⟨w.heap.size + 2, 0, none⟩) (by show _ ≤ w.heap.size + 2; omega) _).alloc (by simp [World.setCell]; omega) _).drew)
theorem own_cells {W : World} {base e size n : Nat} {v : Value} {xs : List Value} (h : W.ownsRow base e size v n xs) (j : Nat) (o : Obj) (hj : v.ownBlock = some j) (ho : W.heap[j]? = some o) : o.isCells = true := by
  rcases h.2 with ⟨rfl, _⟩ | ⟨g, cap, cur, rfl, _, hgb, _⟩
  · simp [Value.ownBlock] at hj
  · simp [Value.ownBlock] at hj
    subst hj
    rw [hgb] at ho
    cases ho
    rfl
/-- Where a line is a posting, the round goes on. -/
theorem lg_go {w W W5 w6 : World} {s : ByteArray} {pre : List (List UInt8)} {x : List UInt8} {ps : List Lg.P} {v v6 : Value} {p : Lg.P} {a : Act} {z : Int} (hz : z = ((pre.length + 1 : Nat) : Int))
    (h0 : Boxed W w.heap.size 9 (.string s)) (h1 : Boxed W (w.heap.size + 1) 25 (.slice none 0 0)) (h2 : Boxed W (w.heap.size + 2) 27 .nilIface) (hb : Below w.heap.size w W) (hsz : w.heap.size + 8 ≤ W.heap.size)
    (hm : pre.map Lg.pline = ps.map some) (hx : Lg.pline x = some p) (hB5 : Below W.heap.size W W5) (hown5 : W5.drew.ownsRow (w.heap.size + 8) 35 3 v ps.length (Lg.fl ps))
    (hown6 : w6.ownsRow (w.heap.size + 8) 35 3 v6 (ps.length + 1) (Lg.fl ps ++ Lg.cells p)) (hg6 : W5.drew.grownBy w6 v.ownBlock)
    (r3 : Boxed w6 (w.heap.size + 3) 25 v) (r4 : Boxed w6 (w.heap.size + 4) 3 (.int .i64 pre.length)) :
    ownPostK (KB w.heap.size (w.heap.size + 5) (w.heap.size + 8)) (LgI w s) (LgX w s) (pre ++ [x]) W Exit.normal a
      ((w6.setCell ⟨w.heap.size + 3, 0, none⟩ v6).setCell ⟨w.heap.size + 4, 0, none⟩ (.int .i64 z)) := by
  subst hz
  have hB5d : Below W.heap.size W W5.drew := hB5.drew
  have hz5 : W.heap.size ≤ W5.drew.heap.size := hB5d.size
  have hrow : ∀ k, v.ownBlock = some k → w.heap.size + 8 ≤ k := fun k e => (hown5.lt k e).1
  have hK6 : KeepsOthers W w6 := (keepsOthers_of_below hB5d).trans (KeepsOthers.of_grownBy hg6 (fun j o h1 h2 => own_cells hown5 j o h1 h2))
  have hz6 : w.heap.size + 8 ≤ w6.heap.size := by have := hg6.size; omega
  have hkb : KB w.heap.size (w.heap.size + 5) (w.heap.size + 8) W w6 := (((KB.refl _ _ _ W).step (by omega) hsz hB5d).grown hg6 (by omega) (by omega) (fun k e => ⟨by have := hrow k e; omega, Or.inr (hrow k e)⟩))
  have g0 : Boxed w6 w.heap.size 9 (.string s) := Boxed.kept ((hB5d.block _ h0.lt).trans h0 : Boxed W5.drew _ _ _) hg6 (lg_ne hown5 (by omega))
  have g1 : Boxed w6 (w.heap.size + 1) 25 (.slice none 0 0) := Boxed.kept ((hB5d.block _ h1.lt).trans h1 : Boxed W5.drew _ _ _) hg6 (lg_ne hown5 (by omega))
  have g2 : Boxed w6 (w.heap.size + 2) 27 .nilIface := Boxed.kept ((hB5d.block _ h2.lt).trans h2 : Boxed W5.drew _ _ _) hg6 (lg_ne hown5 (by omega))
  refine ⟨(hK6.trans (KeepsOthers.setCell _ _ _)).trans (KeepsOthers.setCell _ _ _), (hkb.setCell (p := ⟨w.heap.size + 3, 0, none⟩) (by show _ ≤ w.heap.size + 3; omega) (Or.inl (by show w.heap.size + 3 < _; omega)) _).setCell (p := ⟨w.heap.size + 4, 0, none⟩) (by show _ ≤ w.heap.size + 4; omega) (Or.inl (by show w.heap.size + 4 < _; omega)) _, v6, ps ++ [p], (g0.other (by omega) _).other (by omega) _, (g1.other (by omega) _).other (by omega) _, (g2.other (by omega) _).other (by omega) _, (r3.set v6).other (by omega) _, ?_, ?_, ?_, ?_, ?_⟩
  · have := (r4.other (B' := w.heap.size + 3) (by omega) v6).set (.int .i64 ((pre.length + 1 : Nat) : Int))
    simpa using this
  · unfold OwnP
    rw [Lg.fl_app, Lg.fl_one, List.length_append]
    exact ownsRow_setCell_below (ownsRow_setCell_below hown6 (by show w.heap.size + 3 < _; omega) _) (by show w.heap.size + 4 < _; omega) _
  · rw [List.map_append, List.map_append, hm]; simp [hx]
  · exact ((hb.trans hkb.bel).setCell (p := ⟨w.heap.size + 3, 0, none⟩) (by show _ ≤ w.heap.size + 3; omega) _).setCell (p := ⟨w.heap.size + 4, 0, none⟩) (by show _ ≤ w.heap.size + 4; omega) _
  · simpa [World.setCell] using hz6
theorem nil_none {ps : List Lg.P} (h : (Sp.spl 10 []).map Lg.pline = ps.map some) : False := by
  have h1 : Lg.pline [] = none := pline_bad (by rfl)
  cases ps with
  | nil => simp [Sp.spl] at h
  | cons p r => simp [Sp.spl, h1] at h
theorem lg_slice {w : World} {base : Nat} {v : Value} {L : List Lg.P} (h : OwnP w base v L) : ∃ a n c, v = .slice a n c := by
  rcases h.2 with ⟨rfl, _⟩ | ⟨g, cap, cur, rfl, _⟩
  · exact ⟨_, _, _, rfl⟩
  · exact ⟨_, _, _, rfl⟩
theorem below_put {B : Nat} {w W : World} (h : Below B w W) (hB : B ≤ W.heap.size) {D : Nat} (hD : B ≤ D) (o : Obj) : Below B w (W.putObj D o) := h.grown (grownBy_putObj' W D o) hB (fun k e => by cases e; exact hD)
/-- All lines are read. -/
theorem lg_fin {w W : World} {s T : ByteArray} {v : Value} {ps : List Lg.P} {D : Nat} (hT : T = ⟨(Lib.trimSuffix s.data.toList (⟨#[10]⟩ : ByteArray).data.toList).toArray⟩) (hD : w.heap.size + 8 ≤ D) (hK : W.heap[D]? = some (.deferred (some [])))
    (ho : OwnP W (w.heap.size + 8) v ps) (hb : Below w.heap.size w W) (hr : Lg.Reads s.data.toList ps) :
    ParseL s w (.returned (.tuple #[v, .nilIface])) (((W.setCell ⟨w.heap.size + 1, 0, none⟩ v).setCell ⟨w.heap.size + 2, 0, none⟩ .nilIface).putObj D (.deferred none)) := by
  have hb2 := (hb.setCell (p := ⟨w.heap.size + 1, 0, none⟩) (by show _ ≤ w.heap.size + 1; omega) v).setCell (p := ⟨w.heap.size + 2, 0, none⟩) (by show _ ≤ w.heap.size + 2; omega) .nilIface
  refine .inl ⟨v, ps, rfl, ?_, hr, below_put hb2 hb2.size (by omega) _⟩
  refine OwnP.base (b := w.heap.size + 8) ?_ (by omega)
  refine own_row_kept (ownsRow_setCell_below (ownsRow_setCell_below ho (by show w.heap.size + 1 < _; omega) _) (by show w.heap.size + 2 < _; omega) _) (grownBy_putObj' _ D _) ?_
  intro r e
  cases e
  exact ⟨_, ((KeepsOthers.setCell W _ _).trans (KeepsOthers.setCell _ _ _)).same D _ hK rfl, rfl⟩
theorem lg_reads {s T : ByteArray} {ps : List Lg.P} (hT : T = ⟨(Lib.trimSuffix s.data.toList (⟨#[10]⟩ : ByteArray).data.toList).toArray⟩) (hm : (Sp.spl 10 T.data.toList).map Lg.pline = ps.map some) (hsuf : Lib.hasSuffix s.data.toList (⟨#[10]⟩ : ByteArray).data.toList = true) : Lg.Reads s.data.toList ps := by
  obtain ⟨r, hr⟩ := Lg.has_ten hsuf
  refine Or.inr ⟨r, hr, ?_⟩
  have h1 : T.data.toList = r := by rw [hT]; show Lib.trimSuffix _ [10] = r; rw [hr, (Lg.trim_ten r).1]
  rw [h1] at hm
  exact hm
theorem lg_noline {s T : ByteArray} {ps : List Lg.P} {k : Nat} (hT : T = ⟨(Lib.trimSuffix s.data.toList (⟨#[10]⟩ : ByteArray).data.toList).toArray⟩) (hs : s.data.toList ≠ []) (hm : (Sp.spl 10 T.data.toList).map Lg.pline = ps.map some) (hsuf : Lib.hasSuffix s.data.toList (⟨#[10]⟩ : ByteArray).data.toList = false)
    (hk : k + 1 = (Sp.spl 10 T.data.toList).length) : Lg.Fails s.data.toList k := by
  refine ⟨hs, Or.inr ⟨⟨ps, ?_⟩, hsuf, ?_⟩⟩
  · rw [hT] at hm; exact hm
  · rw [hT] at hk; exact hk
def leftW0 (w W : World) (k : Nat) : World := (((W.setCell ⟨w.heap.size + 1, 0, none⟩ (.slice none 0 0)).setCell ⟨w.heap.size + 2, 0, none⟩ (.iface 78 (.pointer (some ⟨W.heap.size, 0, none⟩)))).alloc (.cells #[.int .i64 3, .int .i64 k] 81)).drew
theorem lg_left {w W : World} {s : ByteArray} {D k : Nat} (hD : w.heap.size + 8 ≤ D) (hK : W.heap[D]? = some (.deferred (some []))) (hf : Lg.Fails s.data.toList k) (hb : Below w.heap.size w W)
    (h1 : Boxed W (w.heap.size + 1) 25 (.slice none 0 0)) (h2 : Boxed W (w.heap.size + 2) 27 .nilIface) :
    (leftW0 w W k).heap[D]? = some (.deferred (some [])) ∧ Boxed ((leftW0 w W k).putObj D (.deferred none)) (w.heap.size + 1) 25 (.slice none 0 0) ∧ Boxed ((leftW0 w W k).putObj D (.deferred none)) (w.heap.size + 2) 27 (.iface 78 (.pointer (some ⟨W.heap.size, 0, none⟩))) ∧
    ParseL s w (.returned (.tuple #[.slice none 0 0, .iface 78 (.pointer (some ⟨W.heap.size, 0, none⟩))])) ((leftW0 w W k).putObj D (.deferred none)) := by
  have hDl : D < W.heap.size := (Array.getElem?_eq_some_iff.1 hK).1
  obtain ⟨hko, hx⟩ := lg_leave (xs := []) (a := { tmps := #[], defers := [] }) hf hb (Below.refl _ W) h1 h2
  have hL : LgFail w s (leftW0 w W k) := by
    rcases hx with ⟨h, _⟩ | ⟨_, h⟩
    · cases h
    · exact h
  have e1 : Boxed (leftW0 w W k) (w.heap.size + 1) 25 (.slice none 0 0) := ((h1.set (.slice none 0 0)).other (by omega) _).alloc _
  have e2 : Boxed (leftW0 w W k) (w.heap.size + 2) 27 (.iface 78 (.pointer (some ⟨W.heap.size, 0, none⟩))) := ((h2.other (by omega) _).set _).alloc _
  obtain ⟨g, k', hf', h1', h2', hg, hb'⟩ := hL
  have hgk : (leftW0 w W k).heap[W.heap.size]? = some (.cells #[.int .i64 3, .int .i64 k] 81 (0, 0)) := by
    have hs : ((W.setCell ⟨w.heap.size + 1, 0, none⟩ (.slice none 0 0)).setCell ⟨w.heap.size + 2, 0, none⟩ (.iface 78 (.pointer (some ⟨W.heap.size, 0, none⟩)))).heap.size = W.heap.size := by simp [World.setCell]
    have := World.alloc_heap_new ((W.setCell ⟨w.heap.size + 1, 0, none⟩ (.slice none 0 0)).setCell ⟨w.heap.size + 2, 0, none⟩ (.iface 78 (.pointer (some ⟨W.heap.size, 0, none⟩)))) (.cells #[.int .i64 3, .int .i64 k] 81)
    rw [hs] at this
    exact this
  refine ⟨hko.same D _ hK rfl, e1.kept (grownBy_putObj' _ D _) (fun e => by cases e; omega), e2.kept (grownBy_putObj' _ D _) (fun e => by cases e; omega), .inr ⟨W.heap.size, k, rfl, (World.putObj_heap_other (by omega)).trans hgk, hf, below_put hb' hb'.size (by omega) _⟩⟩

set_option maxRecDepth 100000 in
set_option maxHeartbeats 4000000 in
theorem ledgerParse_any (s : ByteArray) (w : World) (hw : LW w) (hs : s.size ≤ 100000) : Calls Tryd.prog 9 #[.string s] w (ParseL s w) := by
  have HT := Lib.hid (fun w => Tryd.strings_TrimSuffix s ⟨#[10]⟩ w (by omega))
  obtain ⟨T, hT⟩ : ∃ T : ByteArray, T = ⟨(Lib.trimSuffix s.data.toList (⟨#[10]⟩ : ByteArray).data.toList).toArray⟩ := ⟨_, rfl⟩
  rw [← hT] at HT
  have HTT := Lib.hid hT
  clear hT
  have HQ := Lib.hid (fun w => splitSeq_any T ⟨#[10]⟩ w)
  refine (callsIn_wide (n := 5)).1 ?_
  refine callsIn_of_wp_marks Tryd.func9 rfl trivial ?_ rfl
  simp only [Tryd.ntmps9, List.size_toArray, List.length_cons, List.length_nil, Nat.reduceAdd, Nat.reduceSub, Array.replicate_succ, Array.replicate_zero, List.push_toArray, List.append_toArray, List.nil_append, List.cons_append]
  gi_wp2_with fail
  simp only [Nat.add_assoc, Nat.reduceAdd]
  obtain ⟨W0, hW0⟩ : ∃ W0, W0 = ((((w.alloc (.cells #[.string s] 9)).alloc (.cells #[.slice none 0 0] 25)).alloc (.cells #[.nilIface] 27)).alloc (.cells #[.slice none 0 0] 25)).alloc (.cells #[.int .i64 0] 3) := ⟨_, rfl⟩
  rw [← hW0]
  have z0 : W0.heap.size = w.heap.size + 5 := by rw [hW0]; simp
  have B0 : Below w.heap.size w W0 := by rw [hW0]; exact ((((Below.refl _ w).new _).new _).new _).new _ |>.new _
  have x0 : Boxed W0 w.heap.size 9 (.string s) := by rw [hW0]; exact ((((Boxed.new w _ _).alloc _).alloc _).alloc _).alloc _
  have x1 : Boxed W0 (w.heap.size + 1) 25 (.slice none 0 0) := by rw [hW0]; have := Boxed.new (w.alloc (.cells #[.string s] 9)) 25 (.slice none 0 0); rw [World.size_alloc] at this; exact ((this.alloc _).alloc _).alloc _
  have x2 : Boxed W0 (w.heap.size + 2) 27 .nilIface := by rw [hW0]; have := Boxed.new ((w.alloc (.cells #[.string s] 9)).alloc (.cells #[.slice none 0 0] 25)) 27 .nilIface; rw [World.size_alloc, World.size_alloc] at this; exact (this.alloc _).alloc _
  have x3 : Boxed W0 (w.heap.size + 3) 25 (.slice none 0 0) := by rw [hW0]; have := Boxed.new (((w.alloc (.cells #[.string s] 9)).alloc (.cells #[.slice none 0 0] 25)).alloc (.cells #[.nilIface] 27)) 25 (.slice none 0 0); rw [World.size_alloc, World.size_alloc, World.size_alloc] at this; exact this.alloc _
  have x4 : Boxed W0 (w.heap.size + 4) 3 (.int .i64 0) := by rw [hW0]; have := Boxed.new ((((w.alloc (.cells #[.string s] 9)).alloc (.cells #[.slice none 0 0] 25)).alloc (.cells #[.nilIface] 27)).alloc (.cells #[.slice none 0 0] 25)) 3 (.int .i64 0); rw [World.size_alloc, World.size_alloc, World.size_alloc, World.size_alloc] at this; exact this
  clear hW0
  refine ⟨trivial, (callsIn_wide.2 (HT.out _)).mono ?_⟩
  rintro e W0 ⟨rfl, rfl⟩
  gi_wp2_with (refine ⟨trivial, ?_⟩; gi_at_call 36; refine (callsIn_wide.2 (HQ.out _)).mono ?_; rintro e w' ⟨rfl, rfl⟩)
  have hB0 := z0
  obtain ⟨W1, hW1⟩ : ∃ W1, W1 = seqW W0 T ⟨#[10]⟩ := ⟨_, rfl⟩
  rw [← hW1]
  have z1 : W1.heap.size = w.heap.size + 8 := by rw [hW1]; simp [seqW, z0]
  have B1 : Below w.heap.size w W1 := by rw [hW1]; exact ((B0.new _).new _).new _
  have y5 : Boxed W1 W0.heap.size 9 (.string T) := by rw [hW1]; exact ((Boxed.new W0 _ _).alloc _).alloc _
  have y6 : Boxed W1 (W0.heap.size + 1) 9 (.string ⟨#[10]⟩) := by rw [hW1]; have := Boxed.new (W0.alloc (.cells #[.string T] 9)) 9 (.string ⟨#[10]⟩); rw [World.size_alloc] at this; exact this.alloc _
  have y7 : Boxed W1 (W0.heap.size + 2) 3 (.int .i64 0) := by rw [hW1]; have := Boxed.new ((W0.alloc (.cells #[.string T] 9)).alloc (.cells #[.string ⟨#[10]⟩] 9)) 3 (.int .i64 0); rw [World.size_alloc, World.size_alloc] at this; exact this
  have hI0 : LgI w s [] W1 := by
    rw [hW1]
    exact ⟨.slice none 0 0, [], ((x0.alloc _).alloc _).alloc _, ((x1.alloc _).alloc _).alloc _, ((x2.alloc _).alloc _).alloc _, ((x3.alloc _).alloc _).alloc _, ((x4.alloc _).alloc _).alloc _, World.ownsRow_nil _ _ _ _, rfl, ((B0.new _).new _).new _, by rw [← hW1]; omega⟩
  clear hW1 x0 x1 x2 x3 x4 B0
  rw [z0] at y5 y6 y7
  have hTs : T.size ≤ s.size := by
    rw [HTT.out]
    show (Lib.trimSuffix _ _).length ≤ s.size
    exact Nat.le_trans (Lib.trimSuffix_le _ _) (by simp)
  have hseq := splitSeq1_in 10 ((w.heap.size + 5) + 1) (w.heap.size + 5) ((w.heap.size + 5) + 2) T (by omega) w.heap.size (w.heap.size + 5) (w.heap.size + 8) W1 ⟨by omega, by omega⟩ ⟨by omega, by omega⟩ ⟨by omega, by omega⟩ (by omega) (by omega) y6.cell y7.cell y5.cell y5.frozen
  refine rangeFunc_cell (gf := 74) (lb := #[.pointer (some ⟨w.heap.size + 5 + 1, 0, none⟩), .pointer (some ⟨w.heap.size + 5, 0, none⟩), .pointer (some ⟨w.heap.size + 5 + 2, 0, none⟩)]) (B := w.heap.size) (lo := w.heap.size + 5) (hx := w.heap.size + 8) (bs := (w.heap.size + 5)) ?hg (enters_of Tryd.func74 (by kernel_rfl) rfl) hseq
    (by omega) (by omega) (by omega) rfl (LgI w s) (LgX w s) ?oI ?oX ?oT hI0 ?a1 ?assign ?body ?done ?stop
  case hg => rfl
  case oI => exact lgI_own w s _ (by omega)
  case oX => exact fun c => lgX_own w s _ (by omega) c
  case oT => exact fun pre => lgI_turns w s _ (by omega) pre
  case assign =>
    intro l x W K hK
    gi_wp2
    exact hK
  case body =>
    rintro l pre x W hI hpre
    have hI' := hI
    obtain ⟨v, ps, h0, h1, h2, h3, h4, ho, hm, hb, hsz⟩ := hI
    have c0 := h0.cell
    by_cases hs0 : s.data.toList = []
    · have hse : s = ⟨#[]⟩ := ByteArray.ext (Array.ext' hs0)
      subst hse
      have hpn : pre = [] := by
        have hT0 : T.data.toList = [] := by rw [HTT.out]; rfl
        rw [hT0] at hpre
        have := hpre.length_le
        simp [Sp.spl] at this
        exact this
      subst hpn
      clear h0 h1 h2 h3 h4 ho hm
      gi_wp2
      exact ⟨KeepsOthers.refl _, .inl ⟨rfl, rfl, hI'⟩⟩
    · have hxs : x.length ≤ s.size := by
        have := Sp.spl_size (c := 10) T.data.toList x (hpre.subset (by simp))
        have e : T.data.toList.length = T.size := by simp
        omega
      obtain ⟨X, hX⟩ : ∃ X : ByteArray, X = ⟨x.toArray⟩ := ⟨_, rfl⟩
      have hbx : bsv x = .string X := by rw [hX]
      rw [hbx]
      have hXd : X.data.toList = x := by rw [hX]
      have hXs : X.size = x.length := by rw [hX]; rfl
      clear hX hbx
      have hlw : LW W := hw.below hb
      have HS := Lib.hid (split_lw 32 X W hlw (by omega))
      have hse : s.toList.isEmpty = false := by
        cases h : s.data.toList with
        | nil => exact absurd h hs0
        | cons a b => rw [show s.toList = s.data.toList from ByteArray.toList_eq s, h]; rfl
      have HXD := Lib.hid hXd
      have HS0 := Lib.hid hs0
      clear hXd hXs hs0
      gi_wp2_with (refine ⟨trivial, ?_⟩; gi_at_call 38; refine (CallsIn.inRound l (callsIn_wide.2 HS.out)).mono ?_; rintro e W2 ⟨rfl, hrd, hlt2, hb2⟩)
      have hWS : ((Sp.spl 32 X.data.toList).map fun x => (⟨x.toArray⟩ : ByteArray)) = Lg.ws X.data.toList := rfl
      rw [hWS] at hrd
      obtain ⟨n, hn⟩ : ∃ n, n = (Sp.spl 32 X.data.toList).length := ⟨_, rfl⟩
      have hn' : (Lg.ws X.data.toList).length = n := by rw [Lg.ws, List.length_map, hn]
      rw [← hn]
      obtain ⟨WS, hWX⟩ : ∃ WS, WS = Lg.ws X.data.toList := ⟨_, rfl⟩
      rw [← hWX] at hrd hn'
      have HWX := Lib.hid hWX
      clear hn hWX hWS
      have HWS4 : ∀ z ∈ WS, z.size ≤ 200000 := fun z hz => by
        rw [HWX.out, Lg.ws] at hz
        obtain ⟨y, hy, rfl⟩ := List.mem_map.1 hz
        have h1 := Sp.spl_size _ y hy
        have h2 : X.data.toList.length = x.length := by rw [HXD.out]
        show y.length ≤ _
        omega
      have HPL : Hid (ps.length ≤ 1000000) := Lib.hid (by
        have h1 := congrArg List.length hm
        have h2 := hpre.length_le
        have h3 := Sp.spl_len 10 T.data.toList
        have h4 : T.data.toList.count 10 ≤ T.data.toList.length := List.count_le_length
        have h5 : T.data.toList.length = T.size := by simp
        simp at h1 h2
        omega)
      have HKL : Hid (pre.length ≤ 1000000) := Lib.hid (by
        have h2 := hpre.length_le
        have h3 := Sp.spl_len 10 T.data.toList
        have h4 : T.data.toList.count 10 ≤ T.data.toList.length := List.count_le_length
        have h5 : T.data.toList.length = T.size := by simp
        simp at h2
        omega)
      have hcs := fun (p : Since W2) b o h => Since.cells p b o h
      have HC := Lib.hid (fun x w' (h : LW w') => contains_acc x w' h)
      have hlw2 := hlw.below hb2
      by_cases hn4 : n = 4
      · subst hn4
        obtain ⟨a, d, f, c, hWS⟩ : ∃ a d f c, WS = [a, d, f, c] := ⟨_, _, _, _, Lg.len4 hn'⟩
        have HAS : Hid (a.size ≤ 200000) := Lib.hid (HWS4 a (by rw [hWS]; simp))
        rw [hWS] at hrd
        have HW := Lib.hid hWS
        clear hWS hn'
        have p0 := hrd.str0' 0 a rfl
        have p1 := hrd.str0' 1 d rfl
        have p2 := hrd.str0' 2 f rfl
        have p3 := hrd.str0' 3 c rfl
        have hne4 : ((4 : Int) != 4) = false := rfl
        by_cases e2 : f = Lg.frm
        · subst e2
          unfold Lg.frm at p2
          by_cases e3 : d = c
          · have e3b : (d.toList == c.toList) = true := by rw [e3]; simp
            have HFF : Hid (Lg.Fails s.data.toList pre.length) := lg_fails HTT.out HS0.out hpre hm (by rw [← HXD.out]; exact pline_bad (by rw [← HWX.out, HW.out]; simp [Lg.okw, e3]))
            refine region_since_rnd (by kernel_rfl) (by kernel_rfl) (by kernel_rfl) (by with_reducible repeat (first | exact lo_own | refine lo_then ?_ | refine lo_block ?_)) ?_
            iterate 35 (go_big_quiet_step (fail))
            refine wpQuiet_nil ?_
            intro W3 hw3
            obtain ⟨pp, hp3⟩ := hw3
            have hb3 : Below W2.heap.size W2 W3 := by rw [hp3]; exact pp.h
            clear hp3 pp hcs
            have hB3 : Below W.heap.size W W3 := hb2.step hb3
            have u1 : Boxed W3 (w.heap.size + 1) 25 (.slice none 0 0) := (hB3.block _ h1.lt).trans h1
            have u2 : Boxed W3 (w.heap.size + 2) 27 .nilIface := (hB3.block _ h2.lt).trans h2
            have u4 : Boxed W3 (w.heap.size + 4) 3 (.int .i64 pre.length) := (hB3.block _ h4.lt).trans h4
            have v1c := u1.cell
            have v1f := u1.frozen
            have v2c := u2.cell
            have v2f := u2.frozen
            have v4c := u4.cell
            have hz31 := u1.lt
            have hz32 := u2.lt
            have hz34 := u4.lt
            clear HS
            gi_wp2
            refine region_any_rnd (by kernel_rfl) (by kernel_rfl) (by with_reducible repeat (first | exact lo_own | refine lo_then ?_ | refine lo_block ?_)) ?_
            refine wpAny_ready (rs := [0, 4]) (by kernel_rfl) (by simp) (AllReady.cons rfl (fun K hK => ?_) (AllReady.cons rfl (fun K hK => ?_) AllReady.nil))
            · go_simp
              refine hK _ _ ?_
              clear hK K
              refine wpAny_ready (rs := [1, 4]) (by kernel_rfl) (by simp) (AllReady.cons rfl (fun K hK => ?_) (AllReady.cons rfl (fun K hK => ?_) AllReady.nil))
              · go_simp
                refine hK _ _ ?_
                clear hK K
                refine wpAny_ready (rs := [2, 4]) (by kernel_rfl) (by simp) (AllReady.cons rfl (fun K hK => ?_) (AllReady.cons rfl (fun K hK => ?_) AllReady.nil))
                · go_simp
                  refine hK _ _ ?_
                  clear hK K
                  refine wpAny_ready (rs := [3, 4]) (by kernel_rfl) (by simp) (AllReady.cons rfl (fun K hK => ?_) (AllReady.cons rfl (fun K hK => ?_) AllReady.nil))
                  · go_simp
                    refine hK _ _ ?_
                    clear hK K
                    refine wpAny_ready (rs := [4]) (by kernel_rfl) (by simp) (AllReady.cons rfl (fun K hK => ?_) AllReady.nil)
                    go_simp
                    refine hK _ _ ?_
                    clear hK K
                    refine wpAny_ready (rs := [5]) (by kernel_rfl) (by simp) (AllReady.cons rfl (fun K hK => ?_) AllReady.nil)
                    go_simp
                    refine hK _ _ ?_
                    clear hK K
                    refine wpAny_done (by kernel_rfl) ?_ _
                    gi_wp2
                    exact lg_leave HFF.out hb hB3 u1 u2
                  · go_simp
                    refine hK _ _ ?_
                    clear hK K
                    refine wpAny_ready (rs := [3]) (by kernel_rfl) (by simp) (AllReady.cons rfl (fun K hK => ?_) AllReady.nil)
                    go_simp
                    refine hK _ _ ?_
                    clear hK K
                    refine wpAny_ready (rs := [5]) (by kernel_rfl) (by simp) (AllReady.cons rfl (fun K hK => ?_) AllReady.nil)
                    go_simp
                    refine hK _ _ ?_
                    clear hK K
                    refine wpAny_done (by kernel_rfl) ?_ _
                    gi_wp2
                    exact lg_leave HFF.out hb hB3 u1 u2
                · go_simp
                  refine hK _ _ ?_
                  clear hK K
                  refine wpAny_ready (rs := [2]) (by kernel_rfl) (by simp) (AllReady.cons rfl (fun K hK => ?_) AllReady.nil)
                  go_simp
                  refine hK _ _ ?_
                  clear hK K
                  refine wpAny_ready (rs := [3]) (by kernel_rfl) (by simp) (AllReady.cons rfl (fun K hK => ?_) AllReady.nil)
                  go_simp
                  refine hK _ _ ?_
                  clear hK K
                  refine wpAny_ready (rs := [5]) (by kernel_rfl) (by simp) (AllReady.cons rfl (fun K hK => ?_) AllReady.nil)
                  go_simp
                  refine hK _ _ ?_
                  clear hK K
                  refine wpAny_done (by kernel_rfl) ?_ _
                  gi_wp2
                  exact lg_leave HFF.out hb hB3 u1 u2
              · go_simp
                refine hK _ _ ?_
                clear hK K
                refine wpAny_ready (rs := [1]) (by kernel_rfl) (by simp) (AllReady.cons rfl (fun K hK => ?_) AllReady.nil)
                go_simp
                refine hK _ _ ?_
                clear hK K
                refine wpAny_ready (rs := [2]) (by kernel_rfl) (by simp) (AllReady.cons rfl (fun K hK => ?_) AllReady.nil)
                go_simp
                refine hK _ _ ?_
                clear hK K
                refine wpAny_ready (rs := [3]) (by kernel_rfl) (by simp) (AllReady.cons rfl (fun K hK => ?_) AllReady.nil)
                go_simp
                refine hK _ _ ?_
                clear hK K
                refine wpAny_ready (rs := [5]) (by kernel_rfl) (by simp) (AllReady.cons rfl (fun K hK => ?_) AllReady.nil)
                go_simp
                refine hK _ _ ?_
                clear hK K
                refine wpAny_done (by kernel_rfl) ?_ _
                gi_wp2
                exact lg_leave HFF.out hb hB3 u1 u2
            · go_simp
              refine hK _ _ ?_
              clear hK K
              refine wpAny_ready (rs := [0]) (by kernel_rfl) (by simp) (AllReady.cons rfl (fun K hK => ?_) AllReady.nil)
              go_simp
              refine hK _ _ ?_
              clear hK K
              refine wpAny_ready (rs := [1]) (by kernel_rfl) (by simp) (AllReady.cons rfl (fun K hK => ?_) AllReady.nil)
              go_simp
              refine hK _ _ ?_
              clear hK K
              refine wpAny_ready (rs := [2]) (by kernel_rfl) (by simp) (AllReady.cons rfl (fun K hK => ?_) AllReady.nil)
              go_simp
              refine hK _ _ ?_
              clear hK K
              refine wpAny_ready (rs := [3]) (by kernel_rfl) (by simp) (AllReady.cons rfl (fun K hK => ?_) AllReady.nil)
              go_simp
              refine hK _ _ ?_
              clear hK K
              refine wpAny_ready (rs := [5]) (by kernel_rfl) (by simp) (AllReady.cons rfl (fun K hK => ?_) AllReady.nil)
              go_simp
              refine hK _ _ ?_
              clear hK K
              refine wpAny_done (by kernel_rfl) ?_ _
              gi_wp2
              exact lg_leave HFF.out hb hB3 u1 u2
          · have e3b : (d.toList == c.toList) = false := by rw [beq_eq_false_iff_ne, ByteArray.toList_eq, ByteArray.toList_eq]; exact fun h => e3 (ByteArray.ext (Array.ext' h))
            cases hk1 : Lib.containsS Lg.acc d
            · skip
              have HFF : Hid (Lg.Fails s.data.toList pre.length) := lg_fails HTT.out HS0.out hpre hm (by rw [← HXD.out]; exact pline_bad (by rw [← HWX.out, HW.out]; simp [Lg.okw, hk1]))
              refine region_since_rnd (by kernel_rfl) (by kernel_rfl) (by kernel_rfl) (by with_reducible repeat (first | exact lo_own | refine lo_then ?_ | refine lo_block ?_)) ?_
              iterate 35 (go_big_quiet_step (with_reducible exact Calls.since_same (HC.out _ _ (hlw2.below (Since.h _)))))
              refine wpQuiet_nil ?_
              intro W3 hw3
              obtain ⟨pp, hp3⟩ := hw3
              have hb3 : Below W2.heap.size W2 W3 := by rw [hp3]; exact pp.h
              clear hp3 pp hcs
              have hB3 : Below W.heap.size W W3 := hb2.step hb3
              have u1 : Boxed W3 (w.heap.size + 1) 25 (.slice none 0 0) := (hB3.block _ h1.lt).trans h1
              have u2 : Boxed W3 (w.heap.size + 2) 27 .nilIface := (hB3.block _ h2.lt).trans h2
              have u4 : Boxed W3 (w.heap.size + 4) 3 (.int .i64 pre.length) := (hB3.block _ h4.lt).trans h4
              have v1c := u1.cell
              have v1f := u1.frozen
              have v2c := u2.cell
              have v2f := u2.frozen
              have v4c := u4.cell
              have hz31 := u1.lt
              have hz32 := u2.lt
              have hz34 := u4.lt
              clear HS
              gi_wp2
              refine region_any_rnd (by kernel_rfl) (by kernel_rfl) (by with_reducible repeat (first | exact lo_own | refine lo_then ?_ | refine lo_block ?_)) ?_
              refine wpAny_ready (rs := [0, 4]) (by kernel_rfl) (by simp) (AllReady.cons rfl (fun K hK => ?_) (AllReady.cons rfl (fun K hK => ?_) AllReady.nil))
              · go_simp
                refine hK _ _ ?_
                clear hK K
                refine wpAny_ready (rs := [1, 4]) (by kernel_rfl) (by simp) (AllReady.cons rfl (fun K hK => ?_) (AllReady.cons rfl (fun K hK => ?_) AllReady.nil))
                · go_simp
                  refine hK _ _ ?_
                  clear hK K
                  refine wpAny_ready (rs := [2, 4]) (by kernel_rfl) (by simp) (AllReady.cons rfl (fun K hK => ?_) (AllReady.cons rfl (fun K hK => ?_) AllReady.nil))
                  · go_simp
                    refine hK _ _ ?_
                    clear hK K
                    refine wpAny_ready (rs := [3, 4]) (by kernel_rfl) (by simp) (AllReady.cons rfl (fun K hK => ?_) (AllReady.cons rfl (fun K hK => ?_) AllReady.nil))
                    · go_simp
                      refine hK _ _ ?_
                      clear hK K
                      refine wpAny_ready (rs := [4]) (by kernel_rfl) (by simp) (AllReady.cons rfl (fun K hK => ?_) AllReady.nil)
                      go_simp
                      refine hK _ _ ?_
                      clear hK K
                      refine wpAny_ready (rs := [5]) (by kernel_rfl) (by simp) (AllReady.cons rfl (fun K hK => ?_) AllReady.nil)
                      go_simp
                      refine hK _ _ ?_
                      clear hK K
                      refine wpAny_done (by kernel_rfl) ?_ _
                      gi_wp2
                      exact lg_leave HFF.out hb hB3 u1 u2
                    · go_simp
                      refine hK _ _ ?_
                      clear hK K
                      refine wpAny_ready (rs := [3]) (by kernel_rfl) (by simp) (AllReady.cons rfl (fun K hK => ?_) AllReady.nil)
                      go_simp
                      refine hK _ _ ?_
                      clear hK K
                      refine wpAny_ready (rs := [5]) (by kernel_rfl) (by simp) (AllReady.cons rfl (fun K hK => ?_) AllReady.nil)
                      go_simp
                      refine hK _ _ ?_
                      clear hK K
                      refine wpAny_done (by kernel_rfl) ?_ _
                      gi_wp2
                      exact lg_leave HFF.out hb hB3 u1 u2
                  · go_simp
                    refine hK _ _ ?_
                    clear hK K
                    refine wpAny_ready (rs := [2]) (by kernel_rfl) (by simp) (AllReady.cons rfl (fun K hK => ?_) AllReady.nil)
                    go_simp
                    refine hK _ _ ?_
                    clear hK K
                    refine wpAny_ready (rs := [3]) (by kernel_rfl) (by simp) (AllReady.cons rfl (fun K hK => ?_) AllReady.nil)
                    go_simp
                    refine hK _ _ ?_
                    clear hK K
                    refine wpAny_ready (rs := [5]) (by kernel_rfl) (by simp) (AllReady.cons rfl (fun K hK => ?_) AllReady.nil)
                    go_simp
                    refine hK _ _ ?_
                    clear hK K
                    refine wpAny_done (by kernel_rfl) ?_ _
                    gi_wp2
                    exact lg_leave HFF.out hb hB3 u1 u2
                · go_simp
                  refine hK _ _ ?_
                  clear hK K
                  refine wpAny_ready (rs := [1]) (by kernel_rfl) (by simp) (AllReady.cons rfl (fun K hK => ?_) AllReady.nil)
                  go_simp
                  refine hK _ _ ?_
                  clear hK K
                  refine wpAny_ready (rs := [2]) (by kernel_rfl) (by simp) (AllReady.cons rfl (fun K hK => ?_) AllReady.nil)
                  go_simp
                  refine hK _ _ ?_
                  clear hK K
                  refine wpAny_ready (rs := [3]) (by kernel_rfl) (by simp) (AllReady.cons rfl (fun K hK => ?_) AllReady.nil)
                  go_simp
                  refine hK _ _ ?_
                  clear hK K
                  refine wpAny_ready (rs := [5]) (by kernel_rfl) (by simp) (AllReady.cons rfl (fun K hK => ?_) AllReady.nil)
                  go_simp
                  refine hK _ _ ?_
                  clear hK K
                  refine wpAny_done (by kernel_rfl) ?_ _
                  gi_wp2
                  exact lg_leave HFF.out hb hB3 u1 u2
              · go_simp
                refine hK _ _ ?_
                clear hK K
                refine wpAny_ready (rs := [0]) (by kernel_rfl) (by simp) (AllReady.cons rfl (fun K hK => ?_) AllReady.nil)
                go_simp
                refine hK _ _ ?_
                clear hK K
                refine wpAny_ready (rs := [1]) (by kernel_rfl) (by simp) (AllReady.cons rfl (fun K hK => ?_) AllReady.nil)
                go_simp
                refine hK _ _ ?_
                clear hK K
                refine wpAny_ready (rs := [2]) (by kernel_rfl) (by simp) (AllReady.cons rfl (fun K hK => ?_) AllReady.nil)
                go_simp
                refine hK _ _ ?_
                clear hK K
                refine wpAny_ready (rs := [3]) (by kernel_rfl) (by simp) (AllReady.cons rfl (fun K hK => ?_) AllReady.nil)
                go_simp
                refine hK _ _ ?_
                clear hK K
                refine wpAny_ready (rs := [5]) (by kernel_rfl) (by simp) (AllReady.cons rfl (fun K hK => ?_) AllReady.nil)
                go_simp
                refine hK _ _ ?_
                clear hK K
                refine wpAny_done (by kernel_rfl) ?_ _
                gi_wp2
                exact lg_leave HFF.out hb hB3 u1 u2
            · cases hk3 : Lib.containsS Lg.acc c
              · skip
                have HFF : Hid (Lg.Fails s.data.toList pre.length) := lg_fails HTT.out HS0.out hpre hm (by rw [← HXD.out]; exact pline_bad (by rw [← HWX.out, HW.out]; simp [Lg.okw, hk3]))
                refine region_since_rnd (by kernel_rfl) (by kernel_rfl) (by kernel_rfl) (by with_reducible repeat (first | exact lo_own | refine lo_then ?_ | refine lo_block ?_)) ?_
                iterate 35 (go_big_quiet_step (with_reducible exact Calls.since_same (HC.out _ _ (hlw2.below (Since.h _)))))
                refine wpQuiet_nil ?_
                intro W3 hw3
                obtain ⟨pp, hp3⟩ := hw3
                have hb3 : Below W2.heap.size W2 W3 := by rw [hp3]; exact pp.h
                clear hp3 pp hcs
                have hB3 : Below W.heap.size W W3 := hb2.step hb3
                have u1 : Boxed W3 (w.heap.size + 1) 25 (.slice none 0 0) := (hB3.block _ h1.lt).trans h1
                have u2 : Boxed W3 (w.heap.size + 2) 27 .nilIface := (hB3.block _ h2.lt).trans h2
                have u4 : Boxed W3 (w.heap.size + 4) 3 (.int .i64 pre.length) := (hB3.block _ h4.lt).trans h4
                have v1c := u1.cell
                have v1f := u1.frozen
                have v2c := u2.cell
                have v2f := u2.frozen
                have v4c := u4.cell
                have hz31 := u1.lt
                have hz32 := u2.lt
                have hz34 := u4.lt
                clear HS
                gi_wp2
                refine region_any_rnd (by kernel_rfl) (by kernel_rfl) (by with_reducible repeat (first | exact lo_own | refine lo_then ?_ | refine lo_block ?_)) ?_
                refine wpAny_ready (rs := [0, 4]) (by kernel_rfl) (by simp) (AllReady.cons rfl (fun K hK => ?_) (AllReady.cons rfl (fun K hK => ?_) AllReady.nil))
                · go_simp
                  refine hK _ _ ?_
                  clear hK K
                  refine wpAny_ready (rs := [1, 4]) (by kernel_rfl) (by simp) (AllReady.cons rfl (fun K hK => ?_) (AllReady.cons rfl (fun K hK => ?_) AllReady.nil))
                  · go_simp
                    refine hK _ _ ?_
                    clear hK K
                    refine wpAny_ready (rs := [2, 4]) (by kernel_rfl) (by simp) (AllReady.cons rfl (fun K hK => ?_) (AllReady.cons rfl (fun K hK => ?_) AllReady.nil))
                    · go_simp
                      refine hK _ _ ?_
                      clear hK K
                      refine wpAny_ready (rs := [3, 4]) (by kernel_rfl) (by simp) (AllReady.cons rfl (fun K hK => ?_) (AllReady.cons rfl (fun K hK => ?_) AllReady.nil))
                      · go_simp
                        refine hK _ _ ?_
                        clear hK K
                        refine wpAny_ready (rs := [4]) (by kernel_rfl) (by simp) (AllReady.cons rfl (fun K hK => ?_) AllReady.nil)
                        go_simp
                        refine hK _ _ ?_
                        clear hK K
                        refine wpAny_ready (rs := [5]) (by kernel_rfl) (by simp) (AllReady.cons rfl (fun K hK => ?_) AllReady.nil)
                        go_simp
                        refine hK _ _ ?_
                        clear hK K
                        refine wpAny_done (by kernel_rfl) ?_ _
                        gi_wp2
                        exact lg_leave HFF.out hb hB3 u1 u2
                      · go_simp
                        refine hK _ _ ?_
                        clear hK K
                        refine wpAny_ready (rs := [3]) (by kernel_rfl) (by simp) (AllReady.cons rfl (fun K hK => ?_) AllReady.nil)
                        go_simp
                        refine hK _ _ ?_
                        clear hK K
                        refine wpAny_ready (rs := [5]) (by kernel_rfl) (by simp) (AllReady.cons rfl (fun K hK => ?_) AllReady.nil)
                        go_simp
                        refine hK _ _ ?_
                        clear hK K
                        refine wpAny_done (by kernel_rfl) ?_ _
                        gi_wp2
                        exact lg_leave HFF.out hb hB3 u1 u2
                    · go_simp
                      refine hK _ _ ?_
                      clear hK K
                      refine wpAny_ready (rs := [2]) (by kernel_rfl) (by simp) (AllReady.cons rfl (fun K hK => ?_) AllReady.nil)
                      go_simp
                      refine hK _ _ ?_
                      clear hK K
                      refine wpAny_ready (rs := [3]) (by kernel_rfl) (by simp) (AllReady.cons rfl (fun K hK => ?_) AllReady.nil)
                      go_simp
                      refine hK _ _ ?_
                      clear hK K
                      refine wpAny_ready (rs := [5]) (by kernel_rfl) (by simp) (AllReady.cons rfl (fun K hK => ?_) AllReady.nil)
                      go_simp
                      refine hK _ _ ?_
                      clear hK K
                      refine wpAny_done (by kernel_rfl) ?_ _
                      gi_wp2
                      exact lg_leave HFF.out hb hB3 u1 u2
                  · go_simp
                    refine hK _ _ ?_
                    clear hK K
                    refine wpAny_ready (rs := [1]) (by kernel_rfl) (by simp) (AllReady.cons rfl (fun K hK => ?_) AllReady.nil)
                    go_simp
                    refine hK _ _ ?_
                    clear hK K
                    refine wpAny_ready (rs := [2]) (by kernel_rfl) (by simp) (AllReady.cons rfl (fun K hK => ?_) AllReady.nil)
                    go_simp
                    refine hK _ _ ?_
                    clear hK K
                    refine wpAny_ready (rs := [3]) (by kernel_rfl) (by simp) (AllReady.cons rfl (fun K hK => ?_) AllReady.nil)
                    go_simp
                    refine hK _ _ ?_
                    clear hK K
                    refine wpAny_ready (rs := [5]) (by kernel_rfl) (by simp) (AllReady.cons rfl (fun K hK => ?_) AllReady.nil)
                    go_simp
                    refine hK _ _ ?_
                    clear hK K
                    refine wpAny_done (by kernel_rfl) ?_ _
                    gi_wp2
                    exact lg_leave HFF.out hb hB3 u1 u2
                · go_simp
                  refine hK _ _ ?_
                  clear hK K
                  refine wpAny_ready (rs := [0]) (by kernel_rfl) (by simp) (AllReady.cons rfl (fun K hK => ?_) AllReady.nil)
                  go_simp
                  refine hK _ _ ?_
                  clear hK K
                  refine wpAny_ready (rs := [1]) (by kernel_rfl) (by simp) (AllReady.cons rfl (fun K hK => ?_) AllReady.nil)
                  go_simp
                  refine hK _ _ ?_
                  clear hK K
                  refine wpAny_ready (rs := [2]) (by kernel_rfl) (by simp) (AllReady.cons rfl (fun K hK => ?_) AllReady.nil)
                  go_simp
                  refine hK _ _ ?_
                  clear hK K
                  refine wpAny_ready (rs := [3]) (by kernel_rfl) (by simp) (AllReady.cons rfl (fun K hK => ?_) AllReady.nil)
                  go_simp
                  refine hK _ _ ?_
                  clear hK K
                  refine wpAny_ready (rs := [5]) (by kernel_rfl) (by simp) (AllReady.cons rfl (fun K hK => ?_) AllReady.nil)
                  go_simp
                  refine hK _ _ ?_
                  clear hK K
                  refine wpAny_done (by kernel_rfl) ?_ _
                  gi_wp2
                  exact lg_leave HFF.out hb hB3 u1 u2
              · have HOK : Hid (Lg.okw (Lg.ws x) = true) := by rw [← HXD.out, ← HWX.out, HW.out]; show Lg.okw [a, d, Lg.frm, c] = true; simp [Lg.okw, hk1, hk3, e3]
                refine region_since_rnd (by kernel_rfl) (by kernel_rfl) (by kernel_rfl) (by with_reducible repeat (first | exact lo_own | refine lo_then ?_ | refine lo_block ?_)) ?_
                iterate 35 (go_big_quiet_step (with_reducible exact Calls.since_same (HC.out _ _ (hlw2.below (Since.h _)))))
                refine wpQuiet_nil ?_
                intro W3 hw3
                obtain ⟨pp, hp3⟩ := hw3
                have hb3 : Below W2.heap.size W2 W3 := by rw [hp3]; exact pp.h
                clear hp3 pp hcs
                have hB3 : Below W.heap.size W W3 := hb2.step hb3
                have q0 : W3.cell? ⟨W.heap.size, 0, none⟩ = some (.string a) := (hb3.cell (p := ⟨W.heap.size, 0, none⟩) (by omega)).trans p0
                have q1 : W3.cell? ⟨W.heap.size, 1, none⟩ = some (.string d) := (hb3.cell (p := ⟨W.heap.size, 1, none⟩) (by omega)).trans p1
                have q3 : W3.cell? ⟨W.heap.size, 3, none⟩ = some (.string c) := (hb3.cell (p := ⟨W.heap.size, 3, none⟩) (by omega)).trans p3
                have hW3l : W.heap.size < W3.heap.size := Nat.lt_of_lt_of_le hlt2 hb3.size
                have has : a.size ≤ 200000 := HAS.out
                have HM : Hid ((∃ p, Mn.parse a.data.toList = some p ∧ ∀ w', Calls Tryd.prog 40 #[.string a] w' (Gives (.tuple #[.int .i64 p, .nilIface]) w')) ∨
                    (Mn.parse a.data.toList = none ∧ ∀ w', Calls Tryd.prog 40 #[.string a] w' (Gives (.tuple #[.int .i64 0, .iface 79 (.int .i64 3)]) w'))) := Lib.hid (money_parse_lw a (by unfold maxLen; omega))
                clear p0 p1 p2 p3 hb3
                rcases HM.out with ⟨p, hp, hcall⟩ | ⟨hp, hcall⟩
                · have HMC := Lib.hid hcall
                  have HP := Lib.hid hp
                  clear hp hcall HM
                  by_cases hpos : 0 < p
                  · have hle : ¬ p ≤ 0 := by omega
                    have HX : Hid (Lg.pline x = some ⟨d, c, p⟩) := by have := pline_good HOK.out (by rw [← HXD.out, ← HWX.out, HW.out]; exact HP.out) hpos; rw [← HXD.out, ← HWX.out, HW.out] at this; rw [← HXD.out]; exact this
                    have hpb : p ≤ 1000000000000 := (Mn.parse_back HP.out).2.2
                    gi_wp2_with fail
                    refine ⟨trivial, (CallsIn.inRound l (callsIn_wide.2 (HMC.out _))).mono ?_⟩
                    rintro e W5 ⟨rfl, hb4⟩
                    have hB5 : Below W.heap.size W W5 := hB3.step hb4
                    have s1 : W5.cell? ⟨W.heap.size, 1, none⟩ = some (.string d) := (hb4.cell (p := ⟨W.heap.size, 1, none⟩) (by omega)).trans q1
                    have s3 : W5.cell? ⟨W.heap.size, 3, none⟩ = some (.string c) := (hb4.cell (p := ⟨W.heap.size, 3, none⟩) (by omega)).trans q3
                    have hzw : W.heap.size < W5.heap.size := Nat.lt_of_lt_of_le hW3l hb4.size
                    clear q0 q1 q3 hW3l hb4 hB3
                    have u3 : Boxed W5 (w.heap.size + 3) 25 v := (hB5.block _ h3.lt).trans h3
                    have u4 : Boxed W5 (w.heap.size + 4) 3 (.int .i64 pre.length) := (hB5.block _ h4.lt).trans h4
                    have u3d : Boxed W5.drew (w.heap.size + 3) 25 v := u3
                    have u4d : Boxed W5.drew (w.heap.size + 4) 3 (.int .i64 pre.length) := u4
                    have v3c := u3.cell
                    have v3f := u3.frozen
                    have v4c := u4.cell
                    have v4f := u4.frozen
                    have hz53 := u3.lt
                    have hz54 := u4.lt
                    have hown5 : W5.drew.ownsRow (w.heap.size + 8) 35 3 v ps.length (Lg.fl ps) := (own_below ho hB5 : W5.ownsRow _ _ _ _ _ _)
                    have hbase5 : w.heap.size + 8 ≤ W5.drew.heap.size := by have := hB5.size; show _ ≤ W5.heap.size; omega
                    obtain ⟨i0, hi, hiz, his, hib⟩ := info_parts info_pst
                    have hpl : ps.length ≤ 1000000 := HPL.out
                    have hkl : pre.length ≤ 1000000 := HKL.out
                    gi_wp2
                    refine region_any_rnd (by kernel_rfl) (by kernel_rfl) (by with_reducible repeat (first | exact lo_own | refine lo_then ?_ | refine lo_block ?_)) ?_
                    refine wpAny_take (i := 1) (v := ?_) rfl (by kernel_rfl) (by kernel_rfl) (by kernel_rfl) (fun _ _ _ h => h) (Or.inl ⟨by rfl, ?_⟩) ?_
                    rotate_left
                    · intro _; go_simp; try (with_reducible rfl)
                    refine wpAny_take (i := 2) (v := ?_) rfl (by kernel_rfl) (by kernel_rfl) (by kernel_rfl) (fun _ _ _ h => h) (Or.inl ⟨by rfl, ?_⟩) ?_
                    rotate_left
                    · intro _; go_simp; try (with_reducible rfl)
                    refine wpAny_take (i := 4) (v := ?_) rfl (by kernel_rfl) (by kernel_rfl) (by kernel_rfl) (fun _ _ _ h => h) (Or.inl ⟨by rfl, ?_⟩) ?_
                    rotate_left
                    · intro _; go_simp; try (with_reducible rfl)
                    refine wpAny_take (i := 5) (v := ?_) rfl (by kernel_rfl) (by kernel_rfl) (by kernel_rfl) (fun _ _ _ h => h) (Or.inl ⟨by rfl, ?_⟩) ?_
                    rotate_left
                    · intro _; go_simp; try (with_reducible rfl)
                    refine wpAny_take (i := 7) (v := ?_) rfl (by kernel_rfl) (by kernel_rfl) (by kernel_rfl) (fun _ _ _ h => h) (Or.inl ⟨by rfl, ?_⟩) ?_
                    rotate_left
                    · intro _; go_simp; try (with_reducible rfl)
                    refine wpAny_ready (rs := [0, 3, 6]) (by kernel_rfl) (by simp) (AllReady.cons rfl (fun K hK => ?_) (AllReady.cons rfl (fun K hK => ?_) (AllReady.cons rfl (fun K hK => ?_) AllReady.nil)))
                    · go_simp
                      refine hK _ _ ?_
                      clear hK K
                      refine wpAny_ready (rs := [3, 6]) (by kernel_rfl) (by simp) (AllReady.cons rfl (fun K hK => ?_) (AllReady.cons rfl (fun K hK => ?_) AllReady.nil))
                      · go_simp
                        refine hK _ _ ?_
                        clear hK K
                        refine wpAny_ready (rs := [6]) (by kernel_rfl) (by simp) (AllReady.cons rfl (fun K hK => ?_) AllReady.nil)
                        go_simp
                        refine hK _ _ ?_
                        clear hK K
                        refine wpAny_take (i := 8) (v := ?_) rfl (by kernel_rfl) (by kernel_rfl) (by kernel_rfl) (fun _ _ _ h => h) (Or.inl ⟨by rfl, ?_⟩) ?_
                        rotate_left
                        · intro _; go_simp; try (with_reducible rfl)
                        refine wpAny_ready (rs := [9]) (by kernel_rfl) (by simp) (AllReady.cons rfl (fun K hK => ?_) AllReady.nil)
                        go_simp
                        refine hK _ _ ?_
                        clear hK K
                        refine wpAny_ready (rs := [10]) (by kernel_rfl) (by simp) (AllReady.cons rfl (fun K hK => ?_) AllReady.nil)
                        refine step_app_one (w := W5.drew) (by with_reducible repeat (first | exact lo_own | refine lo_then ?_ | refine lo_block ?_)) rfl (.tmp 73) (.tmp 82) 25 rfl (w.heap.size + 8) 35 i0 (.agg #[.string ⟨#[]⟩, .string ⟨#[]⟩, .int .i64 0]) 3 40 Tryd.underlying25 hi hiz his hib rfl (by decide) _ _ _ hown5 rfl (Lg.cells ⟨d, c, p⟩) rfl rfl (one_pst _) (by unfold maxLen; omega) (by omega) hbase5 ?_
                        intro v6 w6 hown6 hg6
                        obtain ⟨g6, cap6, rfl⟩ := ownsRow_succ hown6
                        have r3 : Boxed w6 (w.heap.size + 3) 25 v := u3d.kept hg6 (lg_ne hown5 (by omega))
                        have r4 : Boxed w6 (w.heap.size + 4) 3 (.int .i64 pre.length) := u4d.kept hg6 (lg_ne hown5 (by omega))
                        have r3c := r3.cell
                        have r3f := r3.frozen
                        have r4c := r4.cell
                        have r4f := r4.frozen
                        refine hK _ _ ?_
                        clear hK K
                        refine wpAny_ready (rs := [11]) (by kernel_rfl) (by simp) (AllReady.cons rfl (fun K hK => ?_) AllReady.nil)
                        go_simp
                        refine hK _ _ ?_
                        clear hK K
                        refine wpAny_done (by kernel_rfl) ?_ _
                        gi_wp2
                        exact lg_go (by omega) h0 h1 h2 hb hsz hm HX.out hB5 hown5 hown6 hg6 r3 r4
                      · go_simp
                        refine hK _ _ ?_
                        clear hK K
                        refine wpAny_ready (rs := [3]) (by kernel_rfl) (by simp) (AllReady.cons rfl (fun K hK => ?_) AllReady.nil)
                        go_simp
                        refine hK _ _ ?_
                        clear hK K
                        refine wpAny_take (i := 8) (v := ?_) rfl (by kernel_rfl) (by kernel_rfl) (by kernel_rfl) (fun _ _ _ h => h) (Or.inl ⟨by rfl, ?_⟩) ?_
                        rotate_left
                        · intro _; go_simp; try (with_reducible rfl)
                        refine wpAny_ready (rs := [9]) (by kernel_rfl) (by simp) (AllReady.cons rfl (fun K hK => ?_) AllReady.nil)
                        go_simp
                        refine hK _ _ ?_
                        clear hK K
                        refine wpAny_ready (rs := [10]) (by kernel_rfl) (by simp) (AllReady.cons rfl (fun K hK => ?_) AllReady.nil)
                        refine step_app_one (w := W5.drew) (by with_reducible repeat (first | exact lo_own | refine lo_then ?_ | refine lo_block ?_)) rfl (.tmp 73) (.tmp 82) 25 rfl (w.heap.size + 8) 35 i0 (.agg #[.string ⟨#[]⟩, .string ⟨#[]⟩, .int .i64 0]) 3 40 Tryd.underlying25 hi hiz his hib rfl (by decide) _ _ _ hown5 rfl (Lg.cells ⟨d, c, p⟩) rfl rfl (one_pst _) (by unfold maxLen; omega) (by omega) hbase5 ?_
                        intro v6 w6 hown6 hg6
                        obtain ⟨g6, cap6, rfl⟩ := ownsRow_succ hown6
                        have r3 : Boxed w6 (w.heap.size + 3) 25 v := u3d.kept hg6 (lg_ne hown5 (by omega))
                        have r4 : Boxed w6 (w.heap.size + 4) 3 (.int .i64 pre.length) := u4d.kept hg6 (lg_ne hown5 (by omega))
                        have r3c := r3.cell
                        have r3f := r3.frozen
                        have r4c := r4.cell
                        have r4f := r4.frozen
                        refine hK _ _ ?_
                        clear hK K
                        refine wpAny_ready (rs := [11]) (by kernel_rfl) (by simp) (AllReady.cons rfl (fun K hK => ?_) AllReady.nil)
                        go_simp
                        refine hK _ _ ?_
                        clear hK K
                        refine wpAny_done (by kernel_rfl) ?_ _
                        gi_wp2
                        exact lg_go (by omega) h0 h1 h2 hb hsz hm HX.out hB5 hown5 hown6 hg6 r3 r4
                    · go_simp
                      refine hK _ _ ?_
                      clear hK K
                      refine wpAny_ready (rs := [0, 6]) (by kernel_rfl) (by simp) (AllReady.cons rfl (fun K hK => ?_) (AllReady.cons rfl (fun K hK => ?_) AllReady.nil))
                      · go_simp
                        refine hK _ _ ?_
                        clear hK K
                        refine wpAny_ready (rs := [6]) (by kernel_rfl) (by simp) (AllReady.cons rfl (fun K hK => ?_) AllReady.nil)
                        go_simp
                        refine hK _ _ ?_
                        clear hK K
                        refine wpAny_take (i := 8) (v := ?_) rfl (by kernel_rfl) (by kernel_rfl) (by kernel_rfl) (fun _ _ _ h => h) (Or.inl ⟨by rfl, ?_⟩) ?_
                        rotate_left
                        · intro _; go_simp; try (with_reducible rfl)
                        refine wpAny_ready (rs := [9]) (by kernel_rfl) (by simp) (AllReady.cons rfl (fun K hK => ?_) AllReady.nil)
                        go_simp
                        refine hK _ _ ?_
                        clear hK K
                        refine wpAny_ready (rs := [10]) (by kernel_rfl) (by simp) (AllReady.cons rfl (fun K hK => ?_) AllReady.nil)
                        refine step_app_one (w := W5.drew) (by with_reducible repeat (first | exact lo_own | refine lo_then ?_ | refine lo_block ?_)) rfl (.tmp 73) (.tmp 82) 25 rfl (w.heap.size + 8) 35 i0 (.agg #[.string ⟨#[]⟩, .string ⟨#[]⟩, .int .i64 0]) 3 40 Tryd.underlying25 hi hiz his hib rfl (by decide) _ _ _ hown5 rfl (Lg.cells ⟨d, c, p⟩) rfl rfl (one_pst _) (by unfold maxLen; omega) (by omega) hbase5 ?_
                        intro v6 w6 hown6 hg6
                        obtain ⟨g6, cap6, rfl⟩ := ownsRow_succ hown6
                        have r3 : Boxed w6 (w.heap.size + 3) 25 v := u3d.kept hg6 (lg_ne hown5 (by omega))
                        have r4 : Boxed w6 (w.heap.size + 4) 3 (.int .i64 pre.length) := u4d.kept hg6 (lg_ne hown5 (by omega))
                        have r3c := r3.cell
                        have r3f := r3.frozen
                        have r4c := r4.cell
                        have r4f := r4.frozen
                        refine hK _ _ ?_
                        clear hK K
                        refine wpAny_ready (rs := [11]) (by kernel_rfl) (by simp) (AllReady.cons rfl (fun K hK => ?_) AllReady.nil)
                        go_simp
                        refine hK _ _ ?_
                        clear hK K
                        refine wpAny_done (by kernel_rfl) ?_ _
                        gi_wp2
                        exact lg_go (by omega) h0 h1 h2 hb hsz hm HX.out hB5 hown5 hown6 hg6 r3 r4
                      · go_simp
                        refine hK _ _ ?_
                        clear hK K
                        refine wpAny_take (i := 8) (v := ?_) rfl (by kernel_rfl) (by kernel_rfl) (by kernel_rfl) (fun _ _ _ h => h) (Or.inl ⟨by rfl, ?_⟩) ?_
                        rotate_left
                        · intro _; go_simp; try (with_reducible rfl)
                        refine wpAny_ready (rs := [0, 9]) (by kernel_rfl) (by simp) (AllReady.cons rfl (fun K hK => ?_) (AllReady.cons rfl (fun K hK => ?_) AllReady.nil))
                        · go_simp
                          refine hK _ _ ?_
                          clear hK K
                          refine wpAny_ready (rs := [9]) (by kernel_rfl) (by simp) (AllReady.cons rfl (fun K hK => ?_) AllReady.nil)
                          go_simp
                          refine hK _ _ ?_
                          clear hK K
                          refine wpAny_ready (rs := [10]) (by kernel_rfl) (by simp) (AllReady.cons rfl (fun K hK => ?_) AllReady.nil)
                          refine step_app_one (w := W5.drew) (by with_reducible repeat (first | exact lo_own | refine lo_then ?_ | refine lo_block ?_)) rfl (.tmp 73) (.tmp 82) 25 rfl (w.heap.size + 8) 35 i0 (.agg #[.string ⟨#[]⟩, .string ⟨#[]⟩, .int .i64 0]) 3 40 Tryd.underlying25 hi hiz his hib rfl (by decide) _ _ _ hown5 rfl (Lg.cells ⟨d, c, p⟩) rfl rfl (one_pst _) (by unfold maxLen; omega) (by omega) hbase5 ?_
                          intro v6 w6 hown6 hg6
                          obtain ⟨g6, cap6, rfl⟩ := ownsRow_succ hown6
                          have r3 : Boxed w6 (w.heap.size + 3) 25 v := u3d.kept hg6 (lg_ne hown5 (by omega))
                          have r4 : Boxed w6 (w.heap.size + 4) 3 (.int .i64 pre.length) := u4d.kept hg6 (lg_ne hown5 (by omega))
                          have r3c := r3.cell
                          have r3f := r3.frozen
                          have r4c := r4.cell
                          have r4f := r4.frozen
                          refine hK _ _ ?_
                          clear hK K
                          refine wpAny_ready (rs := [11]) (by kernel_rfl) (by simp) (AllReady.cons rfl (fun K hK => ?_) AllReady.nil)
                          go_simp
                          refine hK _ _ ?_
                          clear hK K
                          refine wpAny_done (by kernel_rfl) ?_ _
                          gi_wp2
                          exact lg_go (by omega) h0 h1 h2 hb hsz hm HX.out hB5 hown5 hown6 hg6 r3 r4
                        · go_simp
                          refine hK _ _ ?_
                          clear hK K
                          refine wpAny_ready (rs := [0]) (by kernel_rfl) (by simp) (AllReady.cons rfl (fun K hK => ?_) AllReady.nil)
                          go_simp
                          refine hK _ _ ?_
                          clear hK K
                          refine wpAny_ready (rs := [10]) (by kernel_rfl) (by simp) (AllReady.cons rfl (fun K hK => ?_) AllReady.nil)
                          refine step_app_one (w := W5.drew) (by with_reducible repeat (first | exact lo_own | refine lo_then ?_ | refine lo_block ?_)) rfl (.tmp 73) (.tmp 82) 25 rfl (w.heap.size + 8) 35 i0 (.agg #[.string ⟨#[]⟩, .string ⟨#[]⟩, .int .i64 0]) 3 40 Tryd.underlying25 hi hiz his hib rfl (by decide) _ _ _ hown5 rfl (Lg.cells ⟨d, c, p⟩) rfl rfl (one_pst _) (by unfold maxLen; omega) (by omega) hbase5 ?_
                          intro v6 w6 hown6 hg6
                          obtain ⟨g6, cap6, rfl⟩ := ownsRow_succ hown6
                          have r3 : Boxed w6 (w.heap.size + 3) 25 v := u3d.kept hg6 (lg_ne hown5 (by omega))
                          have r4 : Boxed w6 (w.heap.size + 4) 3 (.int .i64 pre.length) := u4d.kept hg6 (lg_ne hown5 (by omega))
                          have r3c := r3.cell
                          have r3f := r3.frozen
                          have r4c := r4.cell
                          have r4f := r4.frozen
                          refine hK _ _ ?_
                          clear hK K
                          refine wpAny_ready (rs := [11]) (by kernel_rfl) (by simp) (AllReady.cons rfl (fun K hK => ?_) AllReady.nil)
                          go_simp
                          refine hK _ _ ?_
                          clear hK K
                          refine wpAny_done (by kernel_rfl) ?_ _
                          gi_wp2
                          exact lg_go (by omega) h0 h1 h2 hb hsz hm HX.out hB5 hown5 hown6 hg6 r3 r4
                    · go_simp
                      refine hK _ _ ?_
                      clear hK K
                      refine wpAny_ready (rs := [0, 3]) (by kernel_rfl) (by simp) (AllReady.cons rfl (fun K hK => ?_) (AllReady.cons rfl (fun K hK => ?_) AllReady.nil))
                      · go_simp
                        refine hK _ _ ?_
                        clear hK K
                        refine wpAny_ready (rs := [3]) (by kernel_rfl) (by simp) (AllReady.cons rfl (fun K hK => ?_) AllReady.nil)
                        go_simp
                        refine hK _ _ ?_
                        clear hK K
                        refine wpAny_take (i := 8) (v := ?_) rfl (by kernel_rfl) (by kernel_rfl) (by kernel_rfl) (fun _ _ _ h => h) (Or.inl ⟨by rfl, ?_⟩) ?_
                        rotate_left
                        · intro _; go_simp; try (with_reducible rfl)
                        refine wpAny_ready (rs := [9]) (by kernel_rfl) (by simp) (AllReady.cons rfl (fun K hK => ?_) AllReady.nil)
                        go_simp
                        refine hK _ _ ?_
                        clear hK K
                        refine wpAny_ready (rs := [10]) (by kernel_rfl) (by simp) (AllReady.cons rfl (fun K hK => ?_) AllReady.nil)
                        refine step_app_one (w := W5.drew) (by with_reducible repeat (first | exact lo_own | refine lo_then ?_ | refine lo_block ?_)) rfl (.tmp 73) (.tmp 82) 25 rfl (w.heap.size + 8) 35 i0 (.agg #[.string ⟨#[]⟩, .string ⟨#[]⟩, .int .i64 0]) 3 40 Tryd.underlying25 hi hiz his hib rfl (by decide) _ _ _ hown5 rfl (Lg.cells ⟨d, c, p⟩) rfl rfl (one_pst _) (by unfold maxLen; omega) (by omega) hbase5 ?_
                        intro v6 w6 hown6 hg6
                        obtain ⟨g6, cap6, rfl⟩ := ownsRow_succ hown6
                        have r3 : Boxed w6 (w.heap.size + 3) 25 v := u3d.kept hg6 (lg_ne hown5 (by omega))
                        have r4 : Boxed w6 (w.heap.size + 4) 3 (.int .i64 pre.length) := u4d.kept hg6 (lg_ne hown5 (by omega))
                        have r3c := r3.cell
                        have r3f := r3.frozen
                        have r4c := r4.cell
                        have r4f := r4.frozen
                        refine hK _ _ ?_
                        clear hK K
                        refine wpAny_ready (rs := [11]) (by kernel_rfl) (by simp) (AllReady.cons rfl (fun K hK => ?_) AllReady.nil)
                        go_simp
                        refine hK _ _ ?_
                        clear hK K
                        refine wpAny_done (by kernel_rfl) ?_ _
                        gi_wp2
                        exact lg_go (by omega) h0 h1 h2 hb hsz hm HX.out hB5 hown5 hown6 hg6 r3 r4
                      · go_simp
                        refine hK _ _ ?_
                        clear hK K
                        refine wpAny_take (i := 8) (v := ?_) rfl (by kernel_rfl) (by kernel_rfl) (by kernel_rfl) (fun _ _ _ h => h) (Or.inl ⟨by rfl, ?_⟩) ?_
                        rotate_left
                        · intro _; go_simp; try (with_reducible rfl)
                        refine wpAny_ready (rs := [0, 9]) (by kernel_rfl) (by simp) (AllReady.cons rfl (fun K hK => ?_) (AllReady.cons rfl (fun K hK => ?_) AllReady.nil))
                        · go_simp
                          refine hK _ _ ?_
                          clear hK K
                          refine wpAny_ready (rs := [9]) (by kernel_rfl) (by simp) (AllReady.cons rfl (fun K hK => ?_) AllReady.nil)
                          go_simp
                          refine hK _ _ ?_
                          clear hK K
                          refine wpAny_ready (rs := [10]) (by kernel_rfl) (by simp) (AllReady.cons rfl (fun K hK => ?_) AllReady.nil)
                          refine step_app_one (w := W5.drew) (by with_reducible repeat (first | exact lo_own | refine lo_then ?_ | refine lo_block ?_)) rfl (.tmp 73) (.tmp 82) 25 rfl (w.heap.size + 8) 35 i0 (.agg #[.string ⟨#[]⟩, .string ⟨#[]⟩, .int .i64 0]) 3 40 Tryd.underlying25 hi hiz his hib rfl (by decide) _ _ _ hown5 rfl (Lg.cells ⟨d, c, p⟩) rfl rfl (one_pst _) (by unfold maxLen; omega) (by omega) hbase5 ?_
                          intro v6 w6 hown6 hg6
                          obtain ⟨g6, cap6, rfl⟩ := ownsRow_succ hown6
                          have r3 : Boxed w6 (w.heap.size + 3) 25 v := u3d.kept hg6 (lg_ne hown5 (by omega))
                          have r4 : Boxed w6 (w.heap.size + 4) 3 (.int .i64 pre.length) := u4d.kept hg6 (lg_ne hown5 (by omega))
                          have r3c := r3.cell
                          have r3f := r3.frozen
                          have r4c := r4.cell
                          have r4f := r4.frozen
                          refine hK _ _ ?_
                          clear hK K
                          refine wpAny_ready (rs := [11]) (by kernel_rfl) (by simp) (AllReady.cons rfl (fun K hK => ?_) AllReady.nil)
                          go_simp
                          refine hK _ _ ?_
                          clear hK K
                          refine wpAny_done (by kernel_rfl) ?_ _
                          gi_wp2
                          exact lg_go (by omega) h0 h1 h2 hb hsz hm HX.out hB5 hown5 hown6 hg6 r3 r4
                        · go_simp
                          refine hK _ _ ?_
                          clear hK K
                          refine wpAny_ready (rs := [0]) (by kernel_rfl) (by simp) (AllReady.cons rfl (fun K hK => ?_) AllReady.nil)
                          go_simp
                          refine hK _ _ ?_
                          clear hK K
                          refine wpAny_ready (rs := [10]) (by kernel_rfl) (by simp) (AllReady.cons rfl (fun K hK => ?_) AllReady.nil)
                          refine step_app_one (w := W5.drew) (by with_reducible repeat (first | exact lo_own | refine lo_then ?_ | refine lo_block ?_)) rfl (.tmp 73) (.tmp 82) 25 rfl (w.heap.size + 8) 35 i0 (.agg #[.string ⟨#[]⟩, .string ⟨#[]⟩, .int .i64 0]) 3 40 Tryd.underlying25 hi hiz his hib rfl (by decide) _ _ _ hown5 rfl (Lg.cells ⟨d, c, p⟩) rfl rfl (one_pst _) (by unfold maxLen; omega) (by omega) hbase5 ?_
                          intro v6 w6 hown6 hg6
                          obtain ⟨g6, cap6, rfl⟩ := ownsRow_succ hown6
                          have r3 : Boxed w6 (w.heap.size + 3) 25 v := u3d.kept hg6 (lg_ne hown5 (by omega))
                          have r4 : Boxed w6 (w.heap.size + 4) 3 (.int .i64 pre.length) := u4d.kept hg6 (lg_ne hown5 (by omega))
                          have r3c := r3.cell
                          have r3f := r3.frozen
                          have r4c := r4.cell
                          have r4f := r4.frozen
                          refine hK _ _ ?_
                          clear hK K
                          refine wpAny_ready (rs := [11]) (by kernel_rfl) (by simp) (AllReady.cons rfl (fun K hK => ?_) AllReady.nil)
                          go_simp
                          refine hK _ _ ?_
                          clear hK K
                          refine wpAny_done (by kernel_rfl) ?_ _
                          gi_wp2
                          exact lg_go (by omega) h0 h1 h2 hb hsz hm HX.out hB5 hown5 hown6 hg6 r3 r4
                  · have hle : p ≤ 0 := by omega
                    have HFF : Hid (Lg.Fails s.data.toList pre.length) := lg_fails HTT.out HS0.out hpre hm (pline_neg HOK.out (by rw [← HXD.out, ← HWX.out, HW.out]; exact HP.out) hle)
                    gi_wp2_with fail
                    refine ⟨trivial, (CallsIn.inRound l (callsIn_wide.2 (HMC.out _))).mono ?_⟩
                    rintro e W5 ⟨rfl, hb4⟩
                    have hB5 : Below W.heap.size W W5 := hB3.step hb4
                    clear hb4 hB3 q0 q1 q3 hW3l
                    have hB3 := hB5
                    have u1 : Boxed W5 (w.heap.size + 1) 25 (.slice none 0 0) := (hB3.block _ h1.lt).trans h1
                    have u2 : Boxed W5 (w.heap.size + 2) 27 .nilIface := (hB3.block _ h2.lt).trans h2
                    have u4 : Boxed W5 (w.heap.size + 4) 3 (.int .i64 pre.length) := (hB3.block _ h4.lt).trans h4
                    have v1c := u1.cell
                    have v1f := u1.frozen
                    have v2c := u2.cell
                    have v2f := u2.frozen
                    have v4c := u4.cell
                    have hz31 := u1.lt
                    have hz32 := u2.lt
                    have hz34 := u4.lt
                    gi_wp2
                    refine region_any_rnd (by kernel_rfl) (by kernel_rfl) (by with_reducible repeat (first | exact lo_own | refine lo_then ?_ | refine lo_block ?_)) ?_
                    refine wpAny_ready (rs := [0, 4]) (by kernel_rfl) (by simp) (AllReady.cons rfl (fun K hK => ?_) (AllReady.cons rfl (fun K hK => ?_) AllReady.nil))
                    · go_simp
                      refine hK _ _ ?_
                      clear hK K
                      refine wpAny_ready (rs := [1, 4]) (by kernel_rfl) (by simp) (AllReady.cons rfl (fun K hK => ?_) (AllReady.cons rfl (fun K hK => ?_) AllReady.nil))
                      · go_simp
                        refine hK _ _ ?_
                        clear hK K
                        refine wpAny_ready (rs := [2, 4]) (by kernel_rfl) (by simp) (AllReady.cons rfl (fun K hK => ?_) (AllReady.cons rfl (fun K hK => ?_) AllReady.nil))
                        · go_simp
                          refine hK _ _ ?_
                          clear hK K
                          refine wpAny_ready (rs := [3, 4]) (by kernel_rfl) (by simp) (AllReady.cons rfl (fun K hK => ?_) (AllReady.cons rfl (fun K hK => ?_) AllReady.nil))
                          · go_simp
                            refine hK _ _ ?_
                            clear hK K
                            refine wpAny_ready (rs := [4]) (by kernel_rfl) (by simp) (AllReady.cons rfl (fun K hK => ?_) AllReady.nil)
                            go_simp
                            refine hK _ _ ?_
                            clear hK K
                            refine wpAny_ready (rs := [5]) (by kernel_rfl) (by simp) (AllReady.cons rfl (fun K hK => ?_) AllReady.nil)
                            go_simp
                            refine hK _ _ ?_
                            clear hK K
                            refine wpAny_done (by kernel_rfl) ?_ _
                            gi_wp2
                            exact lg_leave HFF.out hb hB3 u1 u2
                          · go_simp
                            refine hK _ _ ?_
                            clear hK K
                            refine wpAny_ready (rs := [3]) (by kernel_rfl) (by simp) (AllReady.cons rfl (fun K hK => ?_) AllReady.nil)
                            go_simp
                            refine hK _ _ ?_
                            clear hK K
                            refine wpAny_ready (rs := [5]) (by kernel_rfl) (by simp) (AllReady.cons rfl (fun K hK => ?_) AllReady.nil)
                            go_simp
                            refine hK _ _ ?_
                            clear hK K
                            refine wpAny_done (by kernel_rfl) ?_ _
                            gi_wp2
                            exact lg_leave HFF.out hb hB3 u1 u2
                        · go_simp
                          refine hK _ _ ?_
                          clear hK K
                          refine wpAny_ready (rs := [2]) (by kernel_rfl) (by simp) (AllReady.cons rfl (fun K hK => ?_) AllReady.nil)
                          go_simp
                          refine hK _ _ ?_
                          clear hK K
                          refine wpAny_ready (rs := [3]) (by kernel_rfl) (by simp) (AllReady.cons rfl (fun K hK => ?_) AllReady.nil)
                          go_simp
                          refine hK _ _ ?_
                          clear hK K
                          refine wpAny_ready (rs := [5]) (by kernel_rfl) (by simp) (AllReady.cons rfl (fun K hK => ?_) AllReady.nil)
                          go_simp
                          refine hK _ _ ?_
                          clear hK K
                          refine wpAny_done (by kernel_rfl) ?_ _
                          gi_wp2
                          exact lg_leave HFF.out hb hB3 u1 u2
                      · go_simp
                        refine hK _ _ ?_
                        clear hK K
                        refine wpAny_ready (rs := [1]) (by kernel_rfl) (by simp) (AllReady.cons rfl (fun K hK => ?_) AllReady.nil)
                        go_simp
                        refine hK _ _ ?_
                        clear hK K
                        refine wpAny_ready (rs := [2]) (by kernel_rfl) (by simp) (AllReady.cons rfl (fun K hK => ?_) AllReady.nil)
                        go_simp
                        refine hK _ _ ?_
                        clear hK K
                        refine wpAny_ready (rs := [3]) (by kernel_rfl) (by simp) (AllReady.cons rfl (fun K hK => ?_) AllReady.nil)
                        go_simp
                        refine hK _ _ ?_
                        clear hK K
                        refine wpAny_ready (rs := [5]) (by kernel_rfl) (by simp) (AllReady.cons rfl (fun K hK => ?_) AllReady.nil)
                        go_simp
                        refine hK _ _ ?_
                        clear hK K
                        refine wpAny_done (by kernel_rfl) ?_ _
                        gi_wp2
                        exact lg_leave HFF.out hb hB3 u1 u2
                    · go_simp
                      refine hK _ _ ?_
                      clear hK K
                      refine wpAny_ready (rs := [0]) (by kernel_rfl) (by simp) (AllReady.cons rfl (fun K hK => ?_) AllReady.nil)
                      go_simp
                      refine hK _ _ ?_
                      clear hK K
                      refine wpAny_ready (rs := [1]) (by kernel_rfl) (by simp) (AllReady.cons rfl (fun K hK => ?_) AllReady.nil)
                      go_simp
                      refine hK _ _ ?_
                      clear hK K
                      refine wpAny_ready (rs := [2]) (by kernel_rfl) (by simp) (AllReady.cons rfl (fun K hK => ?_) AllReady.nil)
                      go_simp
                      refine hK _ _ ?_
                      clear hK K
                      refine wpAny_ready (rs := [3]) (by kernel_rfl) (by simp) (AllReady.cons rfl (fun K hK => ?_) AllReady.nil)
                      go_simp
                      refine hK _ _ ?_
                      clear hK K
                      refine wpAny_ready (rs := [5]) (by kernel_rfl) (by simp) (AllReady.cons rfl (fun K hK => ?_) AllReady.nil)
                      go_simp
                      refine hK _ _ ?_
                      clear hK K
                      refine wpAny_done (by kernel_rfl) ?_ _
                      gi_wp2
                      exact lg_leave HFF.out hb hB3 u1 u2
                · have HMC := Lib.hid hcall
                  have HFF : Hid (Lg.Fails s.data.toList pre.length) := lg_fails HTT.out HS0.out hpre hm (pline_noamount HOK.out (by rw [← HXD.out, ← HWX.out, HW.out]; exact hp))
                  clear hp hcall HM
                  gi_wp2_with fail
                  refine ⟨trivial, (CallsIn.inRound l (callsIn_wide.2 (HMC.out _))).mono ?_⟩
                  rintro e W5 ⟨rfl, hb4⟩
                  have hB5 : Below W.heap.size W W5 := hB3.step hb4
                  clear hb4 hB3 q0 q1 q3 hW3l
                  have hB3 := hB5
                  have u1 : Boxed W5 (w.heap.size + 1) 25 (.slice none 0 0) := (hB3.block _ h1.lt).trans h1
                  have u2 : Boxed W5 (w.heap.size + 2) 27 .nilIface := (hB3.block _ h2.lt).trans h2
                  have u4 : Boxed W5 (w.heap.size + 4) 3 (.int .i64 pre.length) := (hB3.block _ h4.lt).trans h4
                  have v1c := u1.cell
                  have v1f := u1.frozen
                  have v2c := u2.cell
                  have v2f := u2.frozen
                  have v4c := u4.cell
                  have hz31 := u1.lt
                  have hz32 := u2.lt
                  have hz34 := u4.lt
                  gi_wp2
                  refine region_any_rnd (by kernel_rfl) (by kernel_rfl) (by with_reducible repeat (first | exact lo_own | refine lo_then ?_ | refine lo_block ?_)) ?_
                  refine wpAny_ready (rs := [0, 4]) (by kernel_rfl) (by simp) (AllReady.cons rfl (fun K hK => ?_) (AllReady.cons rfl (fun K hK => ?_) AllReady.nil))
                  · go_simp
                    refine hK _ _ ?_
                    clear hK K
                    refine wpAny_ready (rs := [1, 4]) (by kernel_rfl) (by simp) (AllReady.cons rfl (fun K hK => ?_) (AllReady.cons rfl (fun K hK => ?_) AllReady.nil))
                    · go_simp
                      refine hK _ _ ?_
                      clear hK K
                      refine wpAny_ready (rs := [2, 4]) (by kernel_rfl) (by simp) (AllReady.cons rfl (fun K hK => ?_) (AllReady.cons rfl (fun K hK => ?_) AllReady.nil))
                      · go_simp
                        refine hK _ _ ?_
                        clear hK K
                        refine wpAny_ready (rs := [3, 4]) (by kernel_rfl) (by simp) (AllReady.cons rfl (fun K hK => ?_) (AllReady.cons rfl (fun K hK => ?_) AllReady.nil))
                        · go_simp
                          refine hK _ _ ?_
                          clear hK K
                          refine wpAny_ready (rs := [4]) (by kernel_rfl) (by simp) (AllReady.cons rfl (fun K hK => ?_) AllReady.nil)
                          go_simp
                          refine hK _ _ ?_
                          clear hK K
                          refine wpAny_ready (rs := [5]) (by kernel_rfl) (by simp) (AllReady.cons rfl (fun K hK => ?_) AllReady.nil)
                          go_simp
                          refine hK _ _ ?_
                          clear hK K
                          refine wpAny_done (by kernel_rfl) ?_ _
                          gi_wp2
                          exact lg_leave HFF.out hb hB3 u1 u2
                        · go_simp
                          refine hK _ _ ?_
                          clear hK K
                          refine wpAny_ready (rs := [3]) (by kernel_rfl) (by simp) (AllReady.cons rfl (fun K hK => ?_) AllReady.nil)
                          go_simp
                          refine hK _ _ ?_
                          clear hK K
                          refine wpAny_ready (rs := [5]) (by kernel_rfl) (by simp) (AllReady.cons rfl (fun K hK => ?_) AllReady.nil)
                          go_simp
                          refine hK _ _ ?_
                          clear hK K
                          refine wpAny_done (by kernel_rfl) ?_ _
                          gi_wp2
                          exact lg_leave HFF.out hb hB3 u1 u2
                      · go_simp
                        refine hK _ _ ?_
                        clear hK K
                        refine wpAny_ready (rs := [2]) (by kernel_rfl) (by simp) (AllReady.cons rfl (fun K hK => ?_) AllReady.nil)
                        go_simp
                        refine hK _ _ ?_
                        clear hK K
                        refine wpAny_ready (rs := [3]) (by kernel_rfl) (by simp) (AllReady.cons rfl (fun K hK => ?_) AllReady.nil)
                        go_simp
                        refine hK _ _ ?_
                        clear hK K
                        refine wpAny_ready (rs := [5]) (by kernel_rfl) (by simp) (AllReady.cons rfl (fun K hK => ?_) AllReady.nil)
                        go_simp
                        refine hK _ _ ?_
                        clear hK K
                        refine wpAny_done (by kernel_rfl) ?_ _
                        gi_wp2
                        exact lg_leave HFF.out hb hB3 u1 u2
                    · go_simp
                      refine hK _ _ ?_
                      clear hK K
                      refine wpAny_ready (rs := [1]) (by kernel_rfl) (by simp) (AllReady.cons rfl (fun K hK => ?_) AllReady.nil)
                      go_simp
                      refine hK _ _ ?_
                      clear hK K
                      refine wpAny_ready (rs := [2]) (by kernel_rfl) (by simp) (AllReady.cons rfl (fun K hK => ?_) AllReady.nil)
                      go_simp
                      refine hK _ _ ?_
                      clear hK K
                      refine wpAny_ready (rs := [3]) (by kernel_rfl) (by simp) (AllReady.cons rfl (fun K hK => ?_) AllReady.nil)
                      go_simp
                      refine hK _ _ ?_
                      clear hK K
                      refine wpAny_ready (rs := [5]) (by kernel_rfl) (by simp) (AllReady.cons rfl (fun K hK => ?_) AllReady.nil)
                      go_simp
                      refine hK _ _ ?_
                      clear hK K
                      refine wpAny_done (by kernel_rfl) ?_ _
                      gi_wp2
                      exact lg_leave HFF.out hb hB3 u1 u2
                  · go_simp
                    refine hK _ _ ?_
                    clear hK K
                    refine wpAny_ready (rs := [0]) (by kernel_rfl) (by simp) (AllReady.cons rfl (fun K hK => ?_) AllReady.nil)
                    go_simp
                    refine hK _ _ ?_
                    clear hK K
                    refine wpAny_ready (rs := [1]) (by kernel_rfl) (by simp) (AllReady.cons rfl (fun K hK => ?_) AllReady.nil)
                    go_simp
                    refine hK _ _ ?_
                    clear hK K
                    refine wpAny_ready (rs := [2]) (by kernel_rfl) (by simp) (AllReady.cons rfl (fun K hK => ?_) AllReady.nil)
                    go_simp
                    refine hK _ _ ?_
                    clear hK K
                    refine wpAny_ready (rs := [3]) (by kernel_rfl) (by simp) (AllReady.cons rfl (fun K hK => ?_) AllReady.nil)
                    go_simp
                    refine hK _ _ ?_
                    clear hK K
                    refine wpAny_ready (rs := [5]) (by kernel_rfl) (by simp) (AllReady.cons rfl (fun K hK => ?_) AllReady.nil)
                    go_simp
                    refine hK _ _ ?_
                    clear hK K
                    refine wpAny_done (by kernel_rfl) ?_ _
                    gi_wp2
                    exact lg_leave HFF.out hb hB3 u1 u2
        · have e2b : (f.toList == [102, 114, 111, 109]) = false := by rw [beq_eq_false_iff_ne, ByteArray.toList_eq]; exact fun h => e2 (ByteArray.ext (Array.ext' h))
          have HFF : Hid (Lg.Fails s.data.toList pre.length) := lg_fails HTT.out HS0.out hpre hm (by rw [← HXD.out]; exact pline_bad (by rw [← HWX.out, HW.out]; simp [Lg.okw, e2]))
          refine region_since_rnd (by kernel_rfl) (by kernel_rfl) (by kernel_rfl) (by with_reducible repeat (first | exact lo_own | refine lo_then ?_ | refine lo_block ?_)) ?_
          iterate 35 (go_big_quiet_step (fail))
          refine wpQuiet_nil ?_
          intro W3 hw3
          obtain ⟨pp, hp3⟩ := hw3
          have hb3 : Below W2.heap.size W2 W3 := by rw [hp3]; exact pp.h
          clear hp3 pp hcs
          have hB3 : Below W.heap.size W W3 := hb2.step hb3
          have u1 : Boxed W3 (w.heap.size + 1) 25 (.slice none 0 0) := (hB3.block _ h1.lt).trans h1
          have u2 : Boxed W3 (w.heap.size + 2) 27 .nilIface := (hB3.block _ h2.lt).trans h2
          have u4 : Boxed W3 (w.heap.size + 4) 3 (.int .i64 pre.length) := (hB3.block _ h4.lt).trans h4
          have v1c := u1.cell
          have v1f := u1.frozen
          have v2c := u2.cell
          have v2f := u2.frozen
          have v4c := u4.cell
          have hz31 := u1.lt
          have hz32 := u2.lt
          have hz34 := u4.lt
          clear HS
          gi_wp2
          refine region_any_rnd (by kernel_rfl) (by kernel_rfl) (by with_reducible repeat (first | exact lo_own | refine lo_then ?_ | refine lo_block ?_)) ?_
          refine wpAny_ready (rs := [0, 4]) (by kernel_rfl) (by simp) (AllReady.cons rfl (fun K hK => ?_) (AllReady.cons rfl (fun K hK => ?_) AllReady.nil))
          · go_simp
            refine hK _ _ ?_
            clear hK K
            refine wpAny_ready (rs := [1, 4]) (by kernel_rfl) (by simp) (AllReady.cons rfl (fun K hK => ?_) (AllReady.cons rfl (fun K hK => ?_) AllReady.nil))
            · go_simp
              refine hK _ _ ?_
              clear hK K
              refine wpAny_ready (rs := [2, 4]) (by kernel_rfl) (by simp) (AllReady.cons rfl (fun K hK => ?_) (AllReady.cons rfl (fun K hK => ?_) AllReady.nil))
              · go_simp
                refine hK _ _ ?_
                clear hK K
                refine wpAny_ready (rs := [3, 4]) (by kernel_rfl) (by simp) (AllReady.cons rfl (fun K hK => ?_) (AllReady.cons rfl (fun K hK => ?_) AllReady.nil))
                · go_simp
                  refine hK _ _ ?_
                  clear hK K
                  refine wpAny_ready (rs := [4]) (by kernel_rfl) (by simp) (AllReady.cons rfl (fun K hK => ?_) AllReady.nil)
                  go_simp
                  refine hK _ _ ?_
                  clear hK K
                  refine wpAny_ready (rs := [5]) (by kernel_rfl) (by simp) (AllReady.cons rfl (fun K hK => ?_) AllReady.nil)
                  go_simp
                  refine hK _ _ ?_
                  clear hK K
                  refine wpAny_done (by kernel_rfl) ?_ _
                  gi_wp2
                  exact lg_leave HFF.out hb hB3 u1 u2
                · go_simp
                  refine hK _ _ ?_
                  clear hK K
                  refine wpAny_ready (rs := [3]) (by kernel_rfl) (by simp) (AllReady.cons rfl (fun K hK => ?_) AllReady.nil)
                  go_simp
                  refine hK _ _ ?_
                  clear hK K
                  refine wpAny_ready (rs := [5]) (by kernel_rfl) (by simp) (AllReady.cons rfl (fun K hK => ?_) AllReady.nil)
                  go_simp
                  refine hK _ _ ?_
                  clear hK K
                  refine wpAny_done (by kernel_rfl) ?_ _
                  gi_wp2
                  exact lg_leave HFF.out hb hB3 u1 u2
              · go_simp
                refine hK _ _ ?_
                clear hK K
                refine wpAny_ready (rs := [2]) (by kernel_rfl) (by simp) (AllReady.cons rfl (fun K hK => ?_) AllReady.nil)
                go_simp
                refine hK _ _ ?_
                clear hK K
                refine wpAny_ready (rs := [3]) (by kernel_rfl) (by simp) (AllReady.cons rfl (fun K hK => ?_) AllReady.nil)
                go_simp
                refine hK _ _ ?_
                clear hK K
                refine wpAny_ready (rs := [5]) (by kernel_rfl) (by simp) (AllReady.cons rfl (fun K hK => ?_) AllReady.nil)
                go_simp
                refine hK _ _ ?_
                clear hK K
                refine wpAny_done (by kernel_rfl) ?_ _
                gi_wp2
                exact lg_leave HFF.out hb hB3 u1 u2
            · go_simp
              refine hK _ _ ?_
              clear hK K
              refine wpAny_ready (rs := [1]) (by kernel_rfl) (by simp) (AllReady.cons rfl (fun K hK => ?_) AllReady.nil)
              go_simp
              refine hK _ _ ?_
              clear hK K
              refine wpAny_ready (rs := [2]) (by kernel_rfl) (by simp) (AllReady.cons rfl (fun K hK => ?_) AllReady.nil)
              go_simp
              refine hK _ _ ?_
              clear hK K
              refine wpAny_ready (rs := [3]) (by kernel_rfl) (by simp) (AllReady.cons rfl (fun K hK => ?_) AllReady.nil)
              go_simp
              refine hK _ _ ?_
              clear hK K
              refine wpAny_ready (rs := [5]) (by kernel_rfl) (by simp) (AllReady.cons rfl (fun K hK => ?_) AllReady.nil)
              go_simp
              refine hK _ _ ?_
              clear hK K
              refine wpAny_done (by kernel_rfl) ?_ _
              gi_wp2
              exact lg_leave HFF.out hb hB3 u1 u2
          · go_simp
            refine hK _ _ ?_
            clear hK K
            refine wpAny_ready (rs := [0]) (by kernel_rfl) (by simp) (AllReady.cons rfl (fun K hK => ?_) AllReady.nil)
            go_simp
            refine hK _ _ ?_
            clear hK K
            refine wpAny_ready (rs := [1]) (by kernel_rfl) (by simp) (AllReady.cons rfl (fun K hK => ?_) AllReady.nil)
            go_simp
            refine hK _ _ ?_
            clear hK K
            refine wpAny_ready (rs := [2]) (by kernel_rfl) (by simp) (AllReady.cons rfl (fun K hK => ?_) AllReady.nil)
            go_simp
            refine hK _ _ ?_
            clear hK K
            refine wpAny_ready (rs := [3]) (by kernel_rfl) (by simp) (AllReady.cons rfl (fun K hK => ?_) AllReady.nil)
            go_simp
            refine hK _ _ ?_
            clear hK K
            refine wpAny_ready (rs := [5]) (by kernel_rfl) (by simp) (AllReady.cons rfl (fun K hK => ?_) AllReady.nil)
            go_simp
            refine hK _ _ ?_
            clear hK K
            refine wpAny_done (by kernel_rfl) ?_ _
            gi_wp2
            exact lg_leave HFF.out hb hB3 u1 u2
      · have hn1 : ((n : Int) != 4) = true := by rw [bne_iff_ne]; omega
        have hn2 : ((n : Int) == 4) = false := beq_eq_false_iff_ne.2 (by omega)
        have HFF : Hid (Lg.Fails s.data.toList pre.length) := lg_fails HTT.out HS0.out hpre hm (by rw [← HXD.out]; exact pline_bad (by rw [← HWX.out]; simp [Lg.okw, hn', hn4]))
        refine region_since_rnd (by kernel_rfl) (by kernel_rfl) (by kernel_rfl) (by with_reducible repeat (first | exact lo_own | refine lo_then ?_ | refine lo_block ?_)) ?_
        iterate 35 (go_big_quiet_step (fail))
        refine wpQuiet_nil ?_
        intro W3 hw3
        obtain ⟨pp, hp3⟩ := hw3
        have hb3 : Below W2.heap.size W2 W3 := by rw [hp3]; exact pp.h
        clear hp3 pp hcs
        have hB3 : Below W.heap.size W W3 := hb2.step hb3
        have u1 : Boxed W3 (w.heap.size + 1) 25 (.slice none 0 0) := (hB3.block _ h1.lt).trans h1
        have u2 : Boxed W3 (w.heap.size + 2) 27 .nilIface := (hB3.block _ h2.lt).trans h2
        have u4 : Boxed W3 (w.heap.size + 4) 3 (.int .i64 pre.length) := (hB3.block _ h4.lt).trans h4
        have v1c := u1.cell
        have v1f := u1.frozen
        have v2c := u2.cell
        have v2f := u2.frozen
        have v4c := u4.cell
        have hz31 := u1.lt
        have hz32 := u2.lt
        have hz34 := u4.lt
        clear HS
        gi_wp2
        refine region_any_rnd (by kernel_rfl) (by kernel_rfl) (by with_reducible repeat (first | exact lo_own | refine lo_then ?_ | refine lo_block ?_)) ?_
        refine wpAny_ready (rs := [0, 4]) (by kernel_rfl) (by simp) (AllReady.cons rfl (fun K hK => ?_) (AllReady.cons rfl (fun K hK => ?_) AllReady.nil))
        · go_simp
          refine hK _ _ ?_
          clear hK K
          refine wpAny_ready (rs := [1, 4]) (by kernel_rfl) (by simp) (AllReady.cons rfl (fun K hK => ?_) (AllReady.cons rfl (fun K hK => ?_) AllReady.nil))
          · go_simp
            refine hK _ _ ?_
            clear hK K
            refine wpAny_ready (rs := [2, 4]) (by kernel_rfl) (by simp) (AllReady.cons rfl (fun K hK => ?_) (AllReady.cons rfl (fun K hK => ?_) AllReady.nil))
            · go_simp
              refine hK _ _ ?_
              clear hK K
              refine wpAny_ready (rs := [3, 4]) (by kernel_rfl) (by simp) (AllReady.cons rfl (fun K hK => ?_) (AllReady.cons rfl (fun K hK => ?_) AllReady.nil))
              · go_simp
                refine hK _ _ ?_
                clear hK K
                refine wpAny_ready (rs := [4]) (by kernel_rfl) (by simp) (AllReady.cons rfl (fun K hK => ?_) AllReady.nil)
                go_simp
                refine hK _ _ ?_
                clear hK K
                refine wpAny_ready (rs := [5]) (by kernel_rfl) (by simp) (AllReady.cons rfl (fun K hK => ?_) AllReady.nil)
                go_simp
                refine hK _ _ ?_
                clear hK K
                refine wpAny_done (by kernel_rfl) ?_ _
                gi_wp2
                exact lg_leave HFF.out hb hB3 u1 u2
              · go_simp
                refine hK _ _ ?_
                clear hK K
                refine wpAny_ready (rs := [3]) (by kernel_rfl) (by simp) (AllReady.cons rfl (fun K hK => ?_) AllReady.nil)
                go_simp
                refine hK _ _ ?_
                clear hK K
                refine wpAny_ready (rs := [5]) (by kernel_rfl) (by simp) (AllReady.cons rfl (fun K hK => ?_) AllReady.nil)
                go_simp
                refine hK _ _ ?_
                clear hK K
                refine wpAny_done (by kernel_rfl) ?_ _
                gi_wp2
                exact lg_leave HFF.out hb hB3 u1 u2
            · go_simp
              refine hK _ _ ?_
              clear hK K
              refine wpAny_ready (rs := [2]) (by kernel_rfl) (by simp) (AllReady.cons rfl (fun K hK => ?_) AllReady.nil)
              go_simp
              refine hK _ _ ?_
              clear hK K
              refine wpAny_ready (rs := [3]) (by kernel_rfl) (by simp) (AllReady.cons rfl (fun K hK => ?_) AllReady.nil)
              go_simp
              refine hK _ _ ?_
              clear hK K
              refine wpAny_ready (rs := [5]) (by kernel_rfl) (by simp) (AllReady.cons rfl (fun K hK => ?_) AllReady.nil)
              go_simp
              refine hK _ _ ?_
              clear hK K
              refine wpAny_done (by kernel_rfl) ?_ _
              gi_wp2
              exact lg_leave HFF.out hb hB3 u1 u2
          · go_simp
            refine hK _ _ ?_
            clear hK K
            refine wpAny_ready (rs := [1]) (by kernel_rfl) (by simp) (AllReady.cons rfl (fun K hK => ?_) AllReady.nil)
            go_simp
            refine hK _ _ ?_
            clear hK K
            refine wpAny_ready (rs := [2]) (by kernel_rfl) (by simp) (AllReady.cons rfl (fun K hK => ?_) AllReady.nil)
            go_simp
            refine hK _ _ ?_
            clear hK K
            refine wpAny_ready (rs := [3]) (by kernel_rfl) (by simp) (AllReady.cons rfl (fun K hK => ?_) AllReady.nil)
            go_simp
            refine hK _ _ ?_
            clear hK K
            refine wpAny_ready (rs := [5]) (by kernel_rfl) (by simp) (AllReady.cons rfl (fun K hK => ?_) AllReady.nil)
            go_simp
            refine hK _ _ ?_
            clear hK K
            refine wpAny_done (by kernel_rfl) ?_ _
            gi_wp2
            exact lg_leave HFF.out hb hB3 u1 u2
        · go_simp
          refine hK _ _ ?_
          clear hK K
          refine wpAny_ready (rs := [0]) (by kernel_rfl) (by simp) (AllReady.cons rfl (fun K hK => ?_) AllReady.nil)
          go_simp
          refine hK _ _ ?_
          clear hK K
          refine wpAny_ready (rs := [1]) (by kernel_rfl) (by simp) (AllReady.cons rfl (fun K hK => ?_) AllReady.nil)
          go_simp
          refine hK _ _ ?_
          clear hK K
          refine wpAny_ready (rs := [2]) (by kernel_rfl) (by simp) (AllReady.cons rfl (fun K hK => ?_) AllReady.nil)
          go_simp
          refine hK _ _ ?_
          clear hK K
          refine wpAny_ready (rs := [3]) (by kernel_rfl) (by simp) (AllReady.cons rfl (fun K hK => ?_) AllReady.nil)
          go_simp
          refine hK _ _ ?_
          clear hK K
          refine wpAny_ready (rs := [5]) (by kernel_rfl) (by simp) (AllReady.cons rfl (fun K hK => ?_) AllReady.nil)
          go_simp
          refine hK _ _ ?_
          clear hK K
          refine wpAny_done (by kernel_rfl) ?_ _
          gi_wp2
          exact lg_leave HFF.out hb hB3 u1 u2
  case done =>
    rintro D W hD hI hK
    obtain ⟨v, ps, h0, h1, h2, h3, h4, ho, hm, hb, hsz⟩ := hI
    have hnil : s.data.toList ≠ [] := by
      intro h
      have hT0 : T.data.toList = [] := by rw [HTT.out, h]; rfl
      rw [hT0] at hm
      exact nil_none hm
    have hpos : 0 < s.size := by
      have : s.data.toList.length = s.size := by simp
      cases h : s.data.toList with
      | nil => exact absurd h hnil
      | cons a b => rw [h] at this; simp at this; omega
    have c0 := h0.cell
    have c1 := h1.cell
    have f1 := h1.frozen
    have c2 := h2.cell
    have f2 := h2.frozen
    have c3 := h3.cell
    have c4 := h4.cell
    have HH := Lib.hid (fun w => Tryd.strings_HasSuffix s ⟨#[10]⟩ w (by omega))
    have hlp : decide (0 < (s.size : Int)) = true := by simp; omega
    cases hsuf : Lib.hasSuffix s.data.toList (⟨#[10]⟩ : ByteArray).data.toList
    · rw [hsuf] at HH
      have HSF := Lib.hid hsuf
      clear hsuf
      obtain ⟨k, hk⟩ : ∃ k, (Sp.spl 10 T.data.toList).length = k + 1 := ⟨(Sp.spl 10 T.data.toList).length - 1, by have := Sp.spl_len 10 T.data.toList; omega⟩
      have hkb : k ≤ 1000000 := by
        have h3 := Sp.spl_len 10 T.data.toList
        have h4 : T.data.toList.count 10 ≤ T.data.toList.length := List.count_le_length
        have h5 : T.data.toList.length = T.size := by simp
        omega
      rw [hk] at c4 h4
      have HKK := Lib.hid hk
      clear hk
      gi_wp2_with (refine ⟨trivial, ?_⟩; gi_at_call 41; refine (callsIn_wide.2 (HH.out _)).mono ?_; rintro e W ⟨rfl, rfl⟩)
      have hl1 := h1.lt
      have hl2 := h2.lt
      have hDl : D < W.heap.size := (Array.getElem?_eq_some_iff.1 hK).1
      refine wpIn_wide.2 ?_
      go_region
      all_goals
        gi_wp2
        obtain ⟨hK2, e1, e2, hfin⟩ := lg_left (k := k) (by omega) hK (lg_noline HTT.out hnil hm HSF.out HKK.out.symm) hb h1 h2
        refine ⟨by simp, .inl ⟨_, _, rfl, run_takeDeferred hK2, ?_⟩⟩
        obtain ⟨W2, hW2⟩ : ∃ W2, W2 = (leftW0 w W k).putObj D (.deferred none) := ⟨_, rfl⟩
        rw [← hW2] at hfin e1 e2
        have e1c := e1.cell
        have e2c := e2.cell
        unfold leftW0 at hW2
        rw [← hW2]
        exact ⟨_, by simp [results, Tryd.results9, go_sem, e1c, e2c], hfin⟩
    · rw [hsuf] at HH
      have HSF := Lib.hid hsuf
      clear hsuf
      obtain ⟨va, vn, vc, rfl⟩ : ∃ va vn vc, v = .slice va vn vc := lg_slice ho
      gi_wp2_with (refine ⟨trivial, ?_⟩; gi_at_call 41; refine (callsIn_wide.2 (HH.out _)).mono ?_; rintro e W ⟨rfl, rfl⟩)
      have hl1 := h1.lt
      have hl2 := h2.lt
      have hDl : D < W.heap.size := (Array.getElem?_eq_some_iff.1 hK).1
      have hK2 : ((W.setCell ⟨w.heap.size + 1, 0, none⟩ (.slice va vn vc)).setCell ⟨w.heap.size + 2, 0, none⟩ .nilIface).heap[D]? = some (.deferred (some [])) := ((KeepsOthers.setCell W _ _).trans (KeepsOthers.setCell _ _ _)).same D _ hK rfl
      refine ⟨by simp, .inl ⟨_, _, rfl, run_takeDeferred hK2, ?_⟩⟩
      have hfin := lg_fin HTT.out (by omega) hK ho hb (lg_reads HTT.out hm HSF.out)
      obtain ⟨W2, hW2⟩ : ∃ W2, W2 = (((W.setCell ⟨w.heap.size + 1, 0, none⟩ (.slice va vn vc)).setCell ⟨w.heap.size + 2, 0, none⟩ .nilIface).putObj D (.deferred none)) := ⟨_, rfl⟩
      have e1 : Boxed W2 (w.heap.size + 1) 25 (.slice va vn vc) := by rw [hW2]; exact ((h1.set _).other (by omega) _).kept (grownBy_putObj' _ D _) (fun e => by cases e; omega)
      have e2 : Boxed W2 (w.heap.size + 2) 27 .nilIface := by rw [hW2]; exact ((h2.other (by omega) _).set _).kept (grownBy_putObj' _ D _) (fun e => by cases e; omega)
      rw [← hW2] at hfin ⊢
      have e1c := e1.cell
      have e2c := e2.cell
      exact ⟨.tuple #[.slice va vn vc, .nilIface], by simp [results, Tryd.results9, go_sem, e1c, e2c], hfin⟩
  case stop =>
    rintro D c pre W hD hpre hX hK
    rcases hX with ⟨rfl, hs0, hI⟩ | ⟨rfl, hF⟩
    · obtain ⟨v, ps, h0, h1, h2, h3, h4, ho, hm, hb, hsz⟩ := hI
      have hse : s = ⟨#[]⟩ := ByteArray.ext (Array.ext' hs0)
      have hps : ps = [] := by cases ps with
        | nil => rfl
        | cons a b => simp at hm
      have HRD : Hid (Lg.Reads s.data.toList ps) := Lib.hid (Or.inl ⟨hs0, hps⟩)
      subst hse
      clear hs0 hps hm
      have c0 := h0.cell
      have c1 := h1.cell
      have f1 := h1.frozen
      have c2 := h2.cell
      have f2 := h2.frozen
      have c3 := h3.cell
      obtain ⟨va, vn, vc, rfl⟩ : ∃ va vn vc, v = .slice va vn vc := lg_slice ho
      gi_wp2
      refine ⟨trivial, ?_⟩
      gi_wp2
      have hl1 := h1.lt
      have hl2 := h2.lt
      have hDl : D < W.heap.size := (Array.getElem?_eq_some_iff.1 hK).1
      have hK2 : ((W.setCell ⟨w.heap.size + 1, 0, none⟩ (.slice va vn vc)).setCell ⟨w.heap.size + 2, 0, none⟩ .nilIface).heap[D]? = some (.deferred (some [])) := ((KeepsOthers.setCell W _ _).trans (KeepsOthers.setCell _ _ _)).same D _ hK rfl
      refine ⟨by simp, .inl ⟨_, _, rfl, run_takeDeferred hK2, ?_⟩⟩
      have hfin := lg_fin (s := ⟨#[]⟩) HTT.out (by omega) hK ho hb (show Lg.Reads (⟨#[]⟩ : ByteArray).data.toList ps from HRD.out)
      obtain ⟨W2, hW2⟩ : ∃ W2, W2 = (((W.setCell ⟨w.heap.size + 1, 0, none⟩ (.slice va vn vc)).setCell ⟨w.heap.size + 2, 0, none⟩ .nilIface).putObj D (.deferred none)) := ⟨_, rfl⟩
      have e1 : Boxed W2 (w.heap.size + 1) 25 (.slice va vn vc) := by rw [hW2]; exact ((h1.set _).other (by omega) _).kept (grownBy_putObj' _ D _) (fun e => by cases e; omega)
      have e2 : Boxed W2 (w.heap.size + 2) 27 .nilIface := by rw [hW2]; exact ((h2.other (by omega) _).set _).kept (grownBy_putObj' _ D _) (fun e => by cases e; omega)
      rw [← hW2] at hfin ⊢
      have e1c := e1.cell
      have e2c := e2.cell
      exact ⟨.tuple #[.slice va vn vc, .nilIface], by simp [results, Tryd.results9, go_sem, e1c, e2c], hfin⟩
    · obtain ⟨g, k, hf, h1, h2, hg, hb⟩ := hF
      have hl1 := h1.lt
      have hl2 := h2.lt
      have hDl : D < W.heap.size := (Array.getElem?_eq_some_iff.1 hK).1
      gi_wp2
      refine ⟨by simp, .inl ⟨_, _, rfl, run_takeDeferred hK, ?_⟩⟩
      obtain ⟨W2, hW2⟩ : ∃ W2, W2 = W.putObj D (.deferred none) := ⟨_, rfl⟩
      have e1 : Boxed W2 (w.heap.size + 1) 25 (.slice none 0 0) := by rw [hW2]; exact h1.kept (grownBy_putObj' _ D _) (fun e => by cases e; omega)
      have e2 : Boxed W2 (w.heap.size + 2) 27 (.iface 78 (.pointer (some ⟨g, 0, none⟩))) := by rw [hW2]; exact h2.kept (grownBy_putObj' _ D _) (fun e => by cases e; omega)
      have hfin : ParseL s w (.returned (.tuple #[.slice none 0 0, .iface 78 (.pointer (some ⟨g, 0, none⟩))])) W2 := .inr ⟨g, k, rfl, (by
        rw [hW2]
        refine (World.putObj_heap_other (fun e => ?_)).trans hg
        subst e
        rw [hg] at hK
        cases hK), hf, by rw [hW2]; exact below_put hb hb.size (by omega) _⟩
      rw [← hW2]
      have e1c := e1.cell
      have e2c := e2.cell
      exact ⟨_, by simp [results, Tryd.results9, go_sem, e1c, e2c], hfin⟩
end Go.Proofs.YtefbedineniejaaDoor
