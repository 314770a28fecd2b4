/- What CostEmpties's three more events come to, plainly. -/
import Derived.Test.YtefbedineniejaaDoorCsT
namespace Go.Proofs.YtefbedineniejaaDoor
open Go.RowKit
set_option linter.unusedVariables false

theorem isort_last (x : Evt) (l : List Evt) (h : ∀ y ∈ l, leE y x = true) : Stb.isort leE (l ++ [x]) = Stb.isort leE l ++ [x] := by
  have h1 := Stb.mrg_isort leE_total leE_trans l [x]
  rw [show Stb.isort leE [x] = [x] from rfl] at h1
  rw [← h1, Stb.mrg_one (le := leE) (Stb.isort leE l) x (Stb.isort leE l) [] (by simp) (fun u hu => h u ((Stb.isort_mem leE_total leE_trans l u).1 hu)) (fun v hv => by cases hv)]
theorem takeP_all (ls : List Lay) (h : ∀ x ∈ ls, 1 ≤ x.qty ∧ x.qty ≤ 100000 ∧ 0 ≤ x.val) : takeP ls (sumQ ls) = (sumV ls, 0, []) := by
  induction ls with
  | nil => simp [takeP, sumQ, sumV]
  | cons x r ih =>
    have hx := h x (by simp)
    have hr : ∀ y ∈ r, 1 ≤ y.qty ∧ y.qty ≤ 100000 ∧ 0 ≤ y.val := fun y hy => h y (List.mem_cons_of_mem _ hy)
    have hq : sumQ (x :: r) = x.qty + sumQ r := by simp [sumQ]
    have h0 := (sumQ_bd r fun y hy => ⟨by have := hr y hy; omega, (hr y hy).2.1⟩).1
    rw [takeP, if_neg (by omega), if_neg (by omega), show sumQ (x :: r) - x.qty = sumQ r by omega, ih hr, sumV_cons]
theorem takeP_zero (ls : List Lay) : takeP ls 0 = (0, 0, ls) := by cases ls <;> simp [takeP]
/-- Events behind a run. -/
abbrev endS (es : List Evt) : Stk := (runP stk0 (Stb.isort leE es)).2
abbrev endN (es : List Evt) : List Ln := (runP stk0 (Stb.isort leE es)).1
theorem right_as {e : Evt} (h : e.right = true) (n k q : Int) (hk : (k = 3 ∧ 1 ≤ q ∧ q ≤ 100000) ∨ (k = 4 ∧ 0 ≤ q ∧ q ≤ 100000)) : Evt.right ⟨n, e.item, k, q, 0, 0, 99999⟩ = true := by
  obtain ⟨h1, -, -, h2⟩ : Ev.RightP _ _ _ _ _ _ := of_decide_eq_true h
  refine decide_eq_true (p := Ev.RightP _ _ _ _ _ _) ⟨h1, (by decide : (0 : Int) ≤ 99999), (by decide : (99999 : Int) ≤ 99999), ?_⟩
  rcases hk with ⟨rfl, q1, q2⟩ | ⟨rfl, q1, q2⟩
  · exact Or.inr (Or.inr (Or.inl ⟨rfl, q1, q2, rfl, rfl⟩))
  · exact Or.inr (Or.inr (Or.inr ⟨rfl, q1, q2, rfl, rfl⟩))
theorem run_last {es : List Evt} (hd : ∀ e ∈ es, e.day < 99999) {x : Evt} (hx : x.day = 99999) (hr : x.right = true) : runP stk0 (Stb.isort leE (es ++ [x])) = (endN es ++ [(oneP (endS es) x).1], (oneP (endS es) x).2) := by
  rw [isort_last x es (fun y hy => (leE_iff _ _).2 (Or.inl (by rw [hx]; exact hd y hy))), runP_snoc, if_pos hr]
theorem end_good (es : List Evt) (hl : es.length ≤ 140) (l : List UInt8) : GoodY 20000000000000 ((endS es).lay l) ∧ ((endS es).lay l).length ≤ 140 := by
  have h := sane_run (Stb.isort leE es) 0 stk0 sane0 l
  have e : (Stb.isort leE es).length = es.length := isort_length _ _
  rw [e] at h
  exact ⟨h.1.mono (by omega), Nat.le_trans h.2.1 (by omega)⟩
section
variable {es : List Evt} (hl : es.length ≤ 140) (hd : ∀ e ∈ es, e.day < 99999) (hR : ∀ e ∈ es, e.right = true) {s : ByteArray} (hs : ∃ e ∈ es, e.item = s) (n : Int) {q : Int} (hq : q = sumQ ((endS es).lay s.data.toList)) (hb : 1 ≤ q ∧ q ≤ 100000)
include hl hd hR hs
include hq hb in
theorem emp_out : runP stk0 (Stb.isort leE (es ++ [⟨n, s, 3, q, 0, 0, 99999⟩])) = (endN es ++ [⟨n, sumV ((endS es).lay s.data.toList), 0, 0, false⟩], ⟨updL (endS es).lay s.data.toList [], (endS es).last⟩) := by
  obtain ⟨e, he, rfl⟩ := hs
  rw [run_last hd rfl (right_as (hR e he) n 3 q (Or.inl ⟨rfl, hb⟩))]
  have h := takeP_all _ (end_good es hl e.item.data.toList).1.1
  rw [← hq] at h
  simp [oneP, Evt.key, h]
include hq hb in
theorem emp_none : runP stk0 (Stb.isort leE (es ++ [⟨n, s, 4, 0, 0, 0, 99999⟩])) = (endN es ++ [⟨n, sumV ((endS es).lay s.data.toList), 0, 0, false⟩], ⟨updL (endS es).lay s.data.toList [], (endS es).last⟩) := by
  obtain ⟨e, he, rfl⟩ := hs
  rw [run_last hd rfl (right_as (hR e he) n 4 0 (Or.inr ⟨rfl, by omega, by omega⟩))]
  have h := takeP_all _ (end_good es hl e.item.data.toList).1.1
  rw [← hq] at h
  simp [oneP, Evt.key, ← hq, show ¬ q < 0 by omega, h]
omit hl in
include hq hb in
theorem emp_same : runP stk0 (Stb.isort leE (es ++ [⟨n, s, 4, q, 0, 0, 99999⟩])) = (endN es ++ [⟨n, 0, 0, 0, false⟩], ⟨updL (endS es).lay s.data.toList ((endS es).lay s.data.toList), (endS es).last⟩) := by
  obtain ⟨e, he, rfl⟩ := hs
  rw [run_last hd rfl (right_as (hR e he) n 4 q (Or.inr ⟨rfl, by omega, by omega⟩))]
  simp [oneP, Evt.key, ← hq, takeP_zero]
end
theorem endN_len (es : List Evt) (hR : ∀ e ∈ es, e.right = true) : (endN es).length = es.length := by
  have h : ∀ (l : List Evt) (st : Stk), (∀ e ∈ l, e.right = true) → (runP st l).1.length = l.length := by
    intro l
    induction l with
    | nil => intro st _; rfl
    | cons x l ih => intro st h; rw [runP, if_pos (h x (by simp))]; simp only [List.length_cons]; rw [ih _ fun e he => h e (List.mem_cons_of_mem _ he)]
  rw [endN, h _ _ fun e he => hR e ((Stb.isort_mem leE_total leE_trans es e).1 he)]
  exact isort_length _ _
theorem numF_right (es : List Evt) : ∀ e ∈ numF es, e.right = true := by
  have : ∀ (es out : List Evt), (∀ e ∈ out, e.right = true) → ∀ e ∈ es.foldl numS out, e.right = true := by
    intro es
    induction es with
    | nil => intro out h; exact h
    | cons x es ih =>
      intro out h
      rw [List.foldl_cons]
      refine ih _ ?_
      unfold numS
      split
      · rename_i hx
        intro e he
        rcases List.mem_append.1 he with he | he
        · exact h e he
        · rw [List.mem_singleton.1 he]; exact hx
      · exact h
  exact this es [] (fun e he => by cases he)
end Go.Proofs.YtefbedineniejaaDoor
