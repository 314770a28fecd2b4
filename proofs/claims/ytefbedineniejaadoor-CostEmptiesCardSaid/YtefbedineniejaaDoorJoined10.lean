/- Joined: CsV, CeP. -/
import Derived.Test.YtefbedineniejaaDoorCsU
import Derived.Test.YtefbedineniejaaDoorJoined9

section
/- CostEmpties's region that draws its order: its operations. -/
namespace Go.Proofs.YtefbedineniejaaDoor
open Go.RowKit
open Go.Maps (Keyed)
set_option linter.unusedVariables false

def regsOf : Code → List (Nat × Array Oper)
  | .region i o _ => [(i, o)]
  | .seq a b => regsOf a ++ regsOf b
  | .block _ c => regsOf c
  | .scope c => regsOf c
  | .cond _ a b => regsOf a ++ regsOf b
  | .loop c => regsOf c
  | .rangeFunc _ _ a b => regsOf a ++ regsOf b
  | _ => []
noncomputable def ops19 : Array Oper := ((((Tryd.f4.body).map regsOf).getD []).find? (fun z => z.1 == 19)).elim #[] (·.2)
theorem op_at {i : Nat} {op : Op} {d : Option Tmp} (h : (ops19[i]?).map (fun o => (o.guard, o.op, o.dst)) = some (none, op, d)) : ∃ o, ops19[i]? = some o ∧ o.guard = none ∧ o.op = op ∧ o.dst = d := by
  cases ho : ops19[i]? with
  | none => rw [ho] at h; cases h
  | some o =>
    rw [ho] at h
    injection h with h
    injection h with h1 h
    injection h with h2 h3
    exact ⟨o, rfl, h1, h2, h3⟩
theorem inv19 : invB ops19 21 = true := by kernel_rfl
section
variable {P : Program} {o : Oper} {a : Act} {w : World} {K : Act → World → Prop} {Q : Exit → Act → World → Prop}
theorem wp_mv (z : Operand) (ho : o.op = .move z) (h : K (a.put o.dst (a.eval z)) w) : o.wp P a w K Q := by
  unfold Oper.wp execOp
  simp only [ho]
  exact h
theorem wp_load (ty : TypeId) (z : Operand) (v : Value) (w' : World) (ho : o.op = .load ty z) (hr : (Instr.loadAt ty (a.eval z)).run P w = .ok v w') (h : K (a.put o.dst v) w') : o.wp P a w K Q := by
  unfold Oper.wp execOp
  simp only [ho, Sem.run_bind, Sem.run_pure, hr, Result.andThen_ok]
  exact h
theorem wp_bs (ty : TypeId) (z : Operand) (v : Value) (w' : World) (ho : o.op = .buildSlice ty 1 #[(0, z)]) (hr : (Instr.buildSlice ty 1 #[(0, a.eval z)]).run P w = .ok v w') (h : K (a.put o.dst v) w') : o.wp P a w K Q := by
  unfold Oper.wp execOp
  simp only [ho, List.map_toArray, List.map_cons, List.map_nil, Sem.run_bind, Sem.run_pure, hr, Result.andThen_ok]
  exact h
theorem wp_al (ty : TypeId) (v : Value) (w' : World) (ho : o.op = .alloc ty) (hr : (Instr.alloc ty true (.tuple #[])).run P w = .ok v w') (h : K (a.put o.dst v) w') : o.wp P a w K Q := by
  unfold Oper.wp execOp
  simp only [ho, Sem.run_bind, Sem.run_pure, hr, Result.andThen_ok]
  exact h
theorem wp_st (ty : TypeId) (z y : Operand) (w' : World) (ho : o.op = .store ty z y) (hd : o.dst = none) (hr : (Instr.storeAt ty (a.eval z) (a.eval y)).run P w = .ok () w') (h : K a w') : o.wp P a w K Q := by
  unfold Oper.wp execOp
  simp only [ho, Sem.run_bind, Sem.run_pure, hr, Result.andThen_ok]
  show K (a.put o.dst undef) w'
  rw [hd]
  exact h
theorem wp_call (g : Nat) (z : Operand) (t : TypeId) (ho : o.op = .call { callee := .value (.func g), args := #[z], argTypes := #[t] }) (eg : ∀ args w, (callFunc g args).run P w = .ok (.enter g args) w) (h : Calls P g #[a.eval z] w fun e w' => ∃ v, e = .returned v ∧ K (a.put o.dst v) w') : o.wp P a w K Q := by
  have hr : (execOp a.eval o).run P w = .ok (.enter g #[a.eval z]) w := by
    unfold execOp
    simp only [ho, resolve, invoke, Sem.run_bind, List.map_toArray, List.map_cons, List.map_nil, Act.eval]
    exact eg _ _
  unfold Oper.wp
  rw [hr]
  refine Calls.mono h ?_
  rintro e w' ⟨v, rfl, hk⟩
  exact hk
end
theorem evt_cells {w : World} {b : Nat} {e : Evt} (h : w.heap[b]? = some (.cells e.cells.toArray 50 (0, 0))) (j : Nat) (u : Value) (hu : e.cells[j]? = some u) : w.cell? ⟨b, j, none⟩ = some u := by
  simp only [World.cell?, h]
  simpa using hu
theorem run_ld7 (w : World) (b : Nat) (e : Evt) (h : w.heap[b]? = some (.cells e.cells.toArray 50 (0, 0))) : (Instr.loadAt 50 (.pointer (some ⟨b, 0, none⟩))).run Tryd.prog w = .ok e.agg w := by
  have c0 := evt_cells h 0 _ rfl
  have c1 := evt_cells h 1 _ rfl
  have c2 := evt_cells h 2 _ rfl
  have c3 := evt_cells h 3 _ rfl
  have c4 := evt_cells h 4 _ rfl
  have c5 := evt_cells h 5 _ rfl
  have c6 := evt_cells h 6 _ rfl
  have z3 := Tryd.sizeOf3
  go_simp
theorem run_bs (w : World) (e : Evt) : (Instr.buildSlice 37 1 #[(0, e.agg)]).run Tryd.prog w = .ok (.slice (some ⟨w.heap.size, 0, none⟩) 1 1) (w.alloc (.cells e.cells.toArray 50)) := by
  go_simp
  rfl
theorem run_al (w : World) : (Instr.alloc 43 true (.tuple #[])).run Tryd.prog w = .ok (.pointer (some ⟨w.heap.size, 0, none⟩)) (w.alloc (.cells #[.slice none 0 0, .map none] 43)) := by
  go_simp
def setR (w : World) (b : Nat) (va m : Value) : World := (w.setCell ⟨b, 0, none⟩ va).setCell ⟨b, 1, none⟩ m
theorem run_st (w : World) (b : Nat) (va : Value) (bl : Nat) (v0 m0 : Value) (xa : Option Addr) (xn xc : Nat) (hv : va = .slice xa xn xc) (h : w.heap[b]? = some (.cells #[v0, m0] 43 (0, 0))) : (Instr.storeAt 43 (.pointer (some ⟨b, 0, none⟩)) (.agg #[va, .map (some bl)])).run Tryd.prog w = .ok () (setR w b va (.map (some bl))) := by
  subst hv
  obtain ⟨r0, r1, f0, f1⟩ := r_cells h
  go_simp
  rfl
theorem setR_gb (w : World) (b : Nat) (va m : Value) : w.grownBy (setR w b va m) (some b) := gb_trans (gb_set w b 0 va) (gb_set _ b 1 m)
theorem setR_self {w : World} {b : Nat} {v0 m0 : Value} (h : w.heap[b]? = some (.cells #[v0, m0] 43 (0, 0))) (va m : Value) : (setR w b va m).heap[b]? = some (.cells #[va, m] 43 (0, 0)) := r_set2 (r_set h va) m
end Go.Proofs.YtefbedineniejaaDoor
end

section
/- What CostEmpties's three more events come to, plainly. -/
namespace Go.Proofs.YtefbedineniejaaDoor
open Go.RowKit
set_option linter.unusedVariables false

theorem isort_last (x : Evt) (l : List Evt) (h : ∀ y ∈ l, leE y x = true) : Stb.isort leE (l ++ [x]) = Stb.isort leE l ++ [x] := by
  have h1 := Stb.mrg_isort leE_total leE_trans l [x]
  rw [show Stb.isort leE [x] = [x] from rfl] at h1
  rw [← h1, Stb.mrg_one (le := leE) (Stb.isort leE l) x (Stb.isort leE l) [] (by simp) (fun u hu => h u ((Stb.isort_mem leE_total leE_trans l u).1 hu)) (fun v hv => by cases hv)]
theorem takeP_all (ls : List Lay) (h : ∀ x ∈ ls, 1 ≤ x.qty ∧ x.qty ≤ 100000 ∧ 0 ≤ x.val) : takeP ls (sumQ ls) = (sumV ls, 0, []) := by
  induction ls with
  | nil => simp [takeP, sumQ, sumV]
  | cons x r ih =>
    have hx := h x (by simp)
    have hr : ∀ y ∈ r, 1 ≤ y.qty ∧ y.qty ≤ 100000 ∧ 0 ≤ y.val := fun y hy => h y (List.mem_cons_of_mem _ hy)
    have hq : sumQ (x :: r) = x.qty + sumQ r := by simp [sumQ]
    have h0 := (sumQ_bd r fun y hy => ⟨by have := hr y hy; omega, (hr y hy).2.1⟩).1
    rw [takeP, if_neg (by omega), if_neg (by omega), show sumQ (x :: r) - x.qty = sumQ r by omega, ih hr, sumV_cons]
theorem takeP_zero (ls : List Lay) : takeP ls 0 = (0, 0, ls) := by cases ls <;> simp [takeP]
/-- Events behind a run. -/
abbrev endS (es : List Evt) : Stk := (runP stk0 (Stb.isort leE es)).2
abbrev endN (es : List Evt) : List Ln := (runP stk0 (Stb.isort leE es)).1
theorem right_as {e : Evt} (h : e.right = true) (n k q : Int) (hk : (k = 3 ∧ 1 ≤ q ∧ q ≤ 100000) ∨ (k = 4 ∧ 0 ≤ q ∧ q ≤ 100000)) : Evt.right ⟨n, e.item, k, q, 0, 0, 99999⟩ = true := by
  obtain ⟨h1, -, -, h2⟩ : Ev.RightP _ _ _ _ _ _ := of_decide_eq_true h
  refine decide_eq_true (p := Ev.RightP _ _ _ _ _ _) ⟨h1, (by decide : (0 : Int) ≤ 99999), (by decide : (99999 : Int) ≤ 99999), ?_⟩
  rcases hk with ⟨rfl, q1, q2⟩ | ⟨rfl, q1, q2⟩
  · exact Or.inr (Or.inr (Or.inl ⟨rfl, q1, q2, rfl, rfl⟩))
  · exact Or.inr (Or.inr (Or.inr ⟨rfl, q1, q2, rfl, rfl⟩))
theorem run_last {es : List Evt} (hd : ∀ e ∈ es, e.day < 99999) {x : Evt} (hx : x.day = 99999) (hr : x.right = true) : runP stk0 (Stb.isort leE (es ++ [x])) = (endN es ++ [(oneP (endS es) x).1], (oneP (endS es) x).2) := by
  rw [isort_last x es (fun y hy => (leE_iff _ _).2 (Or.inl (by rw [hx]; exact hd y hy))), runP_snoc, if_pos hr]
theorem end_good (es : List Evt) (hl : es.length ≤ 140) (l : List UInt8) : GoodY 20000000000000 ((endS es).lay l) ∧ ((endS es).lay l).length ≤ 140 := by
  have h := sane_run (Stb.isort leE es) 0 stk0 sane0 l
  have e : (Stb.isort leE es).length = es.length := isort_length _ _
  rw [e] at h
  exact ⟨h.1.mono (by omega), Nat.le_trans h.2.1 (by omega)⟩
section
variable {es : List Evt} (hl : es.length ≤ 140) (hd : ∀ e ∈ es, e.day < 99999) (hR : ∀ e ∈ es, e.right = true) {s : ByteArray} (hs : ∃ e ∈ es, e.item = s) (n : Int) {q : Int} (hq : q = sumQ ((endS es).lay s.data.toList)) (hb : 1 ≤ q ∧ q ≤ 100000)
include hl hd hR hs
include hq hb in
theorem emp_out : runP stk0 (Stb.isort leE (es ++ [⟨n, s, 3, q, 0, 0, 99999⟩])) = (endN es ++ [⟨n, sumV ((endS es).lay s.data.toList), 0, 0, false⟩], ⟨updL (endS es).lay s.data.toList [], (endS es).last⟩) := by
  obtain ⟨e, he, rfl⟩ := hs
  rw [run_last hd rfl (right_as (hR e he) n 3 q (Or.inl ⟨rfl, hb⟩))]
  have h := takeP_all _ (end_good es hl e.item.data.toList).1.1
  rw [← hq] at h
  simp [oneP, Evt.key, h]
include hq hb in
theorem emp_none : runP stk0 (Stb.isort leE (es ++ [⟨n, s, 4, 0, 0, 0, 99999⟩])) = (endN es ++ [⟨n, sumV ((endS es).lay s.data.toList), 0, 0, false⟩], ⟨updL (endS es).lay s.data.toList [], (endS es).last⟩) := by
  obtain ⟨e, he, rfl⟩ := hs
  rw [run_last hd rfl (right_as (hR e he) n 4 0 (Or.inr ⟨rfl, by omega, by omega⟩))]
  have h := takeP_all _ (end_good es hl e.item.data.toList).1.1
  rw [← hq] at h
  simp [oneP, Evt.key, ← hq, show ¬ q < 0 by omega, h]
omit hl in
include hq hb in
theorem emp_same : runP stk0 (Stb.isort leE (es ++ [⟨n, s, 4, q, 0, 0, 99999⟩])) = (endN es ++ [⟨n, 0, 0, 0, false⟩], ⟨updL (endS es).lay s.data.toList ((endS es).lay s.data.toList), (endS es).last⟩) := by
  obtain ⟨e, he, rfl⟩ := hs
  rw [run_last hd rfl (right_as (hR e he) n 4 q (Or.inr ⟨rfl, by omega, by omega⟩))]
  simp [oneP, Evt.key, ← hq, takeP_zero]
end
theorem endN_len (es : List Evt) (hR : ∀ e ∈ es, e.right = true) : (endN es).length = es.length := by
  have h : ∀ (l : List Evt) (st : Stk), (∀ e ∈ l, e.right = true) → (runP st l).1.length = l.length := by
    intro l
    induction l with
    | nil => intro st _; rfl
    | cons x l ih => intro st h; rw [runP, if_pos (h x (by simp))]; simp only [List.length_cons]; rw [ih _ fun e he => h e (List.mem_cons_of_mem _ he)]
  rw [endN, h _ _ fun e he => hR e ((Stb.isort_mem leE_total leE_trans es e).1 he)]
  exact isort_length _ _
theorem numF_right (es : List Evt) : ∀ e ∈ numF es, e.right = true := by
  have : ∀ (es out : List Evt), (∀ e ∈ out, e.right = true) → ∀ e ∈ es.foldl numS out, e.right = true := by
    intro es
    induction es with
    | nil => intro out h; exact h
    | cons x es ih =>
      intro out h
      rw [List.foldl_cons]
      refine ih _ ?_
      unfold numS
      split
      · rename_i hx
        intro e he
        rcases List.mem_append.1 he with he | he
        · exact h e he
        · rw [List.mem_singleton.1 he]; exact hx
      · exact h
  exact this es [] (fun e he => by cases he)
end Go.Proofs.YtefbedineniejaaDoor
end
