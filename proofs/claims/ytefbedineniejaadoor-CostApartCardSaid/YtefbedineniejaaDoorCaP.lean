/- Joined: CeP, CvP, CaP. -/
import Derived.Test.YtefbedineniejaaDoorCsT

/- CeP: What CostEmpties's three more events come to, plainly. -/
section
namespace Go.Proofs.YtefbedineniejaaDoor
open Go.RowKit
set_option linter.unusedVariables false

theorem isort_last (x : Evt) (l : List Evt) (h : ∀ y ∈ l, leE y x = true) : Stb.isort leE (l ++ [x]) = Stb.isort leE l ++ [x] := by
  have h1 := Stb.mrg_isort leE_total leE_trans l [x]
  rw [show Stb.isort leE [x] = [x] from rfl] at h1
  rw [← h1, Stb.mrg_one (le := leE) (Stb.isort leE l) x (Stb.isort leE l) [] (by simp) (fun u hu => h u ((Stb.isort_mem leE_total leE_trans l u).1 hu)) (fun v hv => by cases hv)]
theorem takeP_all (ls : List Lay) (h : ∀ x ∈ ls, 1 ≤ x.qty ∧ x.qty ≤ 100000 ∧ 0 ≤ x.val) : takeP ls (sumQ ls) = (sumV ls, 0, []) := by
  induction ls with
  | nil => simp [takeP, sumQ, sumV]
  | cons x r ih =>
    have hx := h x (by simp)
    have hr : ∀ y ∈ r, 1 ≤ y.qty ∧ y.qty ≤ 100000 ∧ 0 ≤ y.val := fun y hy => h y (List.mem_cons_of_mem _ hy)
    have hq : sumQ (x :: r) = x.qty + sumQ r := by simp [sumQ]
    have h0 := (sumQ_bd r fun y hy => ⟨by have := hr y hy; omega, (hr y hy).2.1⟩).1
    rw [takeP, if_neg (by omega), if_neg (by omega), show sumQ (x :: r) - x.qty = sumQ r by omega, ih hr, sumV_cons]
theorem takeP_zero (ls : List Lay) : takeP ls 0 = (0, 0, ls) := by cases ls <;> simp [takeP]
/-- Events behind a run. -/
abbrev endS (es : List Evt) : Stk := (runP stk0 (Stb.isort leE es)).2
abbrev endN (es : List Evt) : List Ln := (runP stk0 (Stb.isort leE es)).1
theorem right_as {e : Evt} (h : e.right = true) (n k q : Int) (hk : (k = 3 ∧ 1 ≤ q ∧ q ≤ 100000) ∨ (k = 4 ∧ 0 ≤ q ∧ q ≤ 100000)) : Evt.right ⟨n, e.item, k, q, 0, 0, 99999⟩ = true := by
  obtain ⟨h1, -, -, h2⟩ : Ev.RightP _ _ _ _ _ _ := of_decide_eq_true h
  refine decide_eq_true (p := Ev.RightP _ _ _ _ _ _) ⟨h1, (by decide : (0 : Int) ≤ 99999), (by decide : (99999 : Int) ≤ 99999), ?_⟩
  rcases hk with ⟨rfl, q1, q2⟩ | ⟨rfl, q1, q2⟩
  · exact Or.inr (Or.inr (Or.inl ⟨rfl, q1, q2, rfl, rfl⟩))
  · exact Or.inr (Or.inr (Or.inr ⟨rfl, q1, q2, rfl, rfl⟩))
theorem run_last {es : List Evt} (hd : ∀ e ∈ es, e.day < 99999) {x : Evt} (hx : x.day = 99999) (hr : x.right = true) : runP stk0 (Stb.isort leE (es ++ [x])) = (endN es ++ [(oneP (endS es) x).1], (oneP (endS es) x).2) := by
  rw [isort_last x es (fun y hy => (leE_iff _ _).2 (Or.inl (by rw [hx]; exact hd y hy))), runP_snoc, if_pos hr]
theorem end_good (es : List Evt) (hl : es.length ≤ 140) (l : List UInt8) : GoodY 20000000000000 ((endS es).lay l) ∧ ((endS es).lay l).length ≤ 140 := by
  have h := sane_run (Stb.isort leE es) 0 stk0 sane0 l
  have e : (Stb.isort leE es).length = es.length := isort_length _ _
  rw [e] at h
  exact ⟨h.1.mono (by omega), Nat.le_trans h.2.1 (by omega)⟩
section
variable {es : List Evt} (hl : es.length ≤ 140) (hd : ∀ e ∈ es, e.day < 99999) (hR : ∀ e ∈ es, e.right = true) {s : ByteArray} (hs : ∃ e ∈ es, e.item = s) (n : Int) {q : Int} (hq : q = sumQ ((endS es).lay s.data.toList)) (hb : 1 ≤ q ∧ q ≤ 100000)
include hl hd hR hs
include hq hb in
theorem emp_out : runP stk0 (Stb.isort leE (es ++ [⟨n, s, 3, q, 0, 0, 99999⟩])) = (endN es ++ [⟨n, sumV ((endS es).lay s.data.toList), 0, 0, false⟩], ⟨updL (endS es).lay s.data.toList [], (endS es).last⟩) := by
  obtain ⟨e, he, rfl⟩ := hs
  rw [run_last hd rfl (right_as (hR e he) n 3 q (Or.inl ⟨rfl, hb⟩))]
  have h := takeP_all _ (end_good es hl e.item.data.toList).1.1
  rw [← hq] at h
  simp [oneP, Evt.key, h]
include hq hb in
theorem emp_none : runP stk0 (Stb.isort leE (es ++ [⟨n, s, 4, 0, 0, 0, 99999⟩])) = (endN es ++ [⟨n, sumV ((endS es).lay s.data.toList), 0, 0, false⟩], ⟨updL (endS es).lay s.data.toList [], (endS es).last⟩) := by
  obtain ⟨e, he, rfl⟩ := hs
  rw [run_last hd rfl (right_as (hR e he) n 4 0 (Or.inr ⟨rfl, by omega, by omega⟩))]
  have h := takeP_all _ (end_good es hl e.item.data.toList).1.1
  rw [← hq] at h
  simp [oneP, Evt.key, ← hq, show ¬ q < 0 by omega, h]
omit hl in
include hq hb in
theorem emp_same : runP stk0 (Stb.isort leE (es ++ [⟨n, s, 4, q, 0, 0, 99999⟩])) = (endN es ++ [⟨n, 0, 0, 0, false⟩], ⟨updL (endS es).lay s.data.toList ((endS es).lay s.data.toList), (endS es).last⟩) := by
  obtain ⟨e, he, rfl⟩ := hs
  rw [run_last hd rfl (right_as (hR e he) n 4 q (Or.inr ⟨rfl, by omega, by omega⟩))]
  simp [oneP, Evt.key, ← hq, takeP_zero]
end
theorem endN_len (es : List Evt) (hR : ∀ e ∈ es, e.right = true) : (endN es).length = es.length := by
  have h : ∀ (l : List Evt) (st : Stk), (∀ e ∈ l, e.right = true) → (runP st l).1.length = l.length := by
    intro l
    induction l with
    | nil => intro st _; rfl
    | cons x l ih => intro st h; rw [runP, if_pos (h x (by simp))]; simp only [List.length_cons]; rw [ih _ fun e he => h e (List.mem_cons_of_mem _ he)]
  rw [endN, h _ _ fun e he => hR e ((Stb.isort_mem leE_total leE_trans es e).1 he)]
  exact isort_length _ _
theorem numF_right (es : List Evt) : ∀ e ∈ numF es, e.right = true := by
  have : ∀ (es out : List Evt), (∀ e ∈ out, e.right = true) → ∀ e ∈ es.foldl numS out, e.right = true := by
    intro es
    induction es with
    | nil => intro out h; exact h
    | cons x es ih =>
      intro out h
      rw [List.foldl_cons]
      refine ih _ ?_
      unfold numS
      split
      · rename_i hx
        intro e he
        rcases List.mem_append.1 he with he | he
        · exact h e he
        · rw [List.mem_singleton.1 he]; exact hx
      · exact h
  exact this es [] (fun e he => by cases he)
end Go.Proofs.YtefbedineniejaaDoor
end

/- CvP: CostConserves, plainly: what the lines come to is what is left. -/
section
namespace Go.Proofs.YtefbedineniejaaDoor
open Go.RowKit
set_option linter.unusedVariables false

/-- The event of a line's number, if there is one. -/
def evOf (M : List Evt) (z : Int) : Option Evt := M.find? fun e => e.id == z
/-- What a line adds: in, out, lost, found. -/
def sumS (M : List Evt) (a : Int × Int × Int × Int) (x : Ln) : Int × Int × Int × Int :=
  match evOf M x.id with
  | none => a
  | some e => if e.kind = 1 ∨ e.kind = 2 then (a.1 + x.value, a.2.1, a.2.2.1, a.2.2.2)
    else if e.kind = 3 then (a.1, a.2.1 + x.value, a.2.2.1, a.2.2.2)
    else if x.gain then (a.1, a.2.1, a.2.2.1, a.2.2.2 + x.value)
    else (a.1, a.2.1, a.2.2.1 + x.value, a.2.2.2)
def sumF (M : List Evt) (ls : List Ln) : Int × Int × Int × Int := ls.foldl (sumS M) (0, 0, 0, 0)
theorem sumF_snoc (M : List Evt) (ls : List Ln) (x : Ln) : sumF M (ls ++ [x]) = sumS M (sumF M ls) x := by simp [sumF]
def net (a : Int × Int × Int × Int) : Int := a.1 + a.2.2.2 - a.2.1 - a.2.2.1
/-- Numbers are given once. -/
def Uniq (M : List Evt) : Prop := M.Pairwise fun x y => x.id ≠ y.id
theorem Uniq.find {M : List Evt} (h : Uniq M) {e : Evt} (he : e ∈ M) : evOf M e.id = some e := by
  induction M with
  | nil => cases he
  | cons x M ih =>
    rw [evOf, List.find?_cons]
    rcases List.mem_cons.1 he with rfl | he
    · simp
    · have h1 := (List.pairwise_cons.1 h).1 e he
      rw [show (x.id == e.id) = false by simpa using h1]
      exact ih (List.pairwise_cons.1 h).2 he
theorem Uniq.filter {M : List Evt} (h : Uniq M) (p : Evt → Bool) : Uniq (M.filter p) := List.Pairwise.filter p h
theorem chargeP_sum (ls : List Lay) (o p : Int) : sumV (chargeP ls o p).2 = sumV ls + (p - (chargeP ls o p).1) := by
  induction ls with
  | nil => simp [chargeP]
  | cons x r ih =>
    rw [chargeP]
    by_cases h : x.id = o
    · rw [if_pos h]; simp only [sumV_cons]; omega
    · rw [if_neg h]; simp only [sumV_cons, ih]; omega
theorem takeP_short (ls : List Lay) : ∀ n, 0 < (takeP ls n).2.1 → (takeP ls n).2.2 = [] ∨ (takeP ls n).2.1 ≤ 0 := by
  induction ls with
  | nil => intro n _; simp [takeP]
  | cons x r ih =>
    intro n h
    rw [takeP] at h ⊢
    by_cases h1 : n ≤ 0
    · rw [if_pos h1] at h ⊢; exact Or.inr h1
    · rw [if_neg h1] at h ⊢
      by_cases h2 : n < x.qty
      · rw [if_pos h2] at h; simp at h
      · rw [if_neg h2] at h ⊢; exact ih _ h
theorem takeP_short0 (ls : List Lay) (n : Int) (h : 0 < (takeP ls n).2.1) : (takeP ls n).2.2 = [] := by
  rcases takeP_short ls n h with h1 | h1
  · exact h1
  · omega
theorem takeP_nn (ls : List Lay) : ∀ n, 0 ≤ n → 0 ≤ (takeP ls n).2.1 := by
  induction ls with
  | nil => intro n h; simpa [takeP] using h
  | cons x r ih =>
    intro n h
    rw [takeP]
    by_cases h1 : n ≤ 0
    · rw [if_pos h1]; exact h
    · rw [if_neg h1]
      by_cases h2 : n < x.qty
      · rw [if_pos h2]; exact Int.le_refl _
      · rw [if_neg h2]; exact ih _ (by omega)
theorem chargeP_lt (ls : List Lay) (o p : Int) (hp : 0 ≤ p) : 0 ≤ (chargeP ls o p).1 ∧ (chargeP ls o p).1 ≤ p := by
  induction ls with
  | nil => simp [chargeP, hp]
  | cons x r ih =>
    rw [chargeP]
    by_cases h : x.id = o
    · rw [if_pos h]; exact ⟨Int.le_refl _, hp⟩
    · rw [if_neg h]; exact ih
/-- One event: what its line adds is what its item's layers gain; nothing is below nothing; what is missing was not there. -/
theorem one_net {n : Nat} {st : Stk} (h : Sane n st) {e : Evt} (he : e.right = true) {M : List Evt} (hf : evOf M e.id = some e) (a : Int × Int × Int × Int) :
    net (sumS M a (oneP st e).1) = net a + (sumV ((oneP st e).2.lay e.key) - sumV (st.lay e.key)) ∧ 0 ≤ (oneP st e).1.value ∧ 0 ≤ (oneP st e).1.short ∧ 0 ≤ (oneP st e).1.late ∧ (0 < (oneP st e).1.short → (oneP st e).2.lay e.key = []) ∧ (oneP st e).1.id = e.id := by
  obtain ⟨-, hk⟩ := right_bd he
  obtain ⟨g1, g2, g3, g4⟩ := h e.key
  unfold oneP
  rcases hk with ⟨k, a1, a2, a3, a4, -⟩ | ⟨k, -, a1, a2, -⟩ | ⟨k, a1, a2, -, -⟩ | ⟨k, a1, a2, -, -⟩
  · have hm := mul_bd (show 0 ≤ e.qty by omega) a2 a3 a4
    simp only [updL_same, sumV_app, sumV_cons, sumS, hf, k, true_or, if_true, net]
    refine ⟨?_, hm.1, Int.le_refl _, Int.le_refl _, fun h => absurd h (by simp), trivial⟩
    simp [sumV]; omega
  · have hc := chargeP_lt (st.lay e.key) e.ofn e.price (by omega)
    have hs := chargeP_sum (st.lay e.key) e.ofn e.price
    simp only [k, if_neg (show ¬ (2 : Int) = 1 by omega), if_true, updL_same, sumS, hf, or_true, net]
    refine ⟨by rw [hs]; omega, by omega, Int.le_refl _, hc.1, fun h => absurd h (by simp), trivial⟩
  · obtain ⟨q1, q2, q3, q4⟩ := takeP_good (st.lay e.key) e.qty g1
    have q5 := takeP_nn (st.lay e.key) e.qty (by omega)
    simp only [k, if_neg (show ¬ (3 : Int) = 1 by omega), if_neg (show ¬ (3 : Int) = 2 by omega), if_true, updL_same, sumS, hf, net, show ¬ ((3 : Int) = 1 ∨ (3 : Int) = 2) by omega, if_false]
    exact ⟨by omega, q4, q5, Int.le_refl _, takeP_short0 _ _, trivial⟩
  · by_cases hm : 0 < e.qty - sumQ (st.lay e.key)
    · have hv := mul_bd (show 0 ≤ e.qty - sumQ (st.lay e.key) by omega) (show e.qty - sumQ (st.lay e.key) ≤ e.qty - sumQ (st.lay e.key) by omega) g3 g4
      simp only [k, if_neg (show ¬ (4 : Int) = 1 by omega), if_neg (show ¬ (4 : Int) = 2 by omega), if_neg (show ¬ (4 : Int) = 3 by omega), if_pos hm, updL_same, sumV_app, sumS, hf, net, show ¬ ((4 : Int) = 1 ∨ (4 : Int) = 2) by omega, if_false, if_true]
      refine ⟨?_, hv.1, Int.le_refl _, Int.le_refl _, fun h => absurd h (by simp), trivial⟩
      simp [sumV]; omega
    · obtain ⟨q1, q2, q3, q4⟩ := takeP_good (st.lay e.key) (-(e.qty - sumQ (st.lay e.key))) g1
      simp only [k, if_neg (show ¬ (4 : Int) = 1 by omega), if_neg (show ¬ (4 : Int) = 2 by omega), if_neg (show ¬ (4 : Int) = 3 by omega), if_neg hm, updL_same, sumS, hf, net, show ¬ ((4 : Int) = 1 ∨ (4 : Int) = 2) by omega, if_false]
      exact ⟨by simp; omega, q4, Int.le_refl _, Int.le_refl _, fun h => absurd h (by simp), trivial⟩
/-- What all lines add, and of the last one. -/
theorem run_net (M : List Evt) (s : List UInt8) : ∀ (l : List Evt) (n : Nat) (st : Stk) (a : Int × Int × Int × Int), Sane n st → (∀ e ∈ l, e.right = true ∧ evOf M e.id = some e ∧ e.key = s) →
    net ((runP st l).1.foldl (sumS M) a) = net a + (sumV ((runP st l).2.lay s) - sumV (st.lay s)) ∧ (∀ x ∈ (runP st l).1, 0 ≤ x.value ∧ 0 ≤ x.short ∧ 0 ≤ x.late) ∧ (∀ x, (runP st l).1.getLast? = some x → 0 < x.short → (runP st l).2.lay s = []) := by
  intro l
  induction l with
  | nil => intro n st a _ _; exact ⟨by simp [runP], fun x hx => (by cases hx), fun x hx => (by cases hx)⟩
  | cons e l ih =>
    intro n st a h hl
    obtain ⟨h1, h2, h3⟩ := hl e (by simp)
    obtain ⟨n1, n2, n3, n4, n5, -⟩ := one_net h h1 h2 a
    rw [runP, if_pos h1]
    obtain ⟨i1, i2, i3⟩ := ih (n + 1) (oneP st e).2 (sumS M a (oneP st e).1) (sane_step h e h1) fun x hx => hl x (List.mem_cons_of_mem _ hx)
    subst h3
    refine ⟨?_, fun x hx => ?_, fun x hx hs => ?_⟩
    · rw [List.foldl_cons, i1, n1]; simp only; omega
    · rcases List.mem_cons.1 hx with rfl | hx
      · exact ⟨n2, n3, n4⟩
      · exact i2 x hx
    · simp only at hx ⊢
      cases hg : (runP (oneP st e).2 l).1 with
      | nil =>
        rw [hg] at hx
        simp at hx
        subst hx
        cases l with
        | nil => exact n5 hs
        | cons y l =>
          rw [runP, if_pos (hl y (by simp)).1] at hg
          cases hg
      | cons y r =>
        rw [hg, List.getLast?_cons_cons] at hx
        exact i3 x (by rw [hg]; exact hx) hs
theorem numF_uniq (es : List Evt) : Uniq (numF es) ∧ ∀ e ∈ numF es, 1 ≤ e.id ∧ e.id ≤ (numF es).length := by
  have : ∀ (es out : List Evt), (Uniq out ∧ ∀ e ∈ out, 1 ≤ e.id ∧ e.id ≤ out.length) → (Uniq (es.foldl numS out) ∧ ∀ e ∈ es.foldl numS out, 1 ≤ e.id ∧ e.id ≤ (es.foldl numS out).length) := by
    intro es
    induction es with
    | nil => intro out h; exact h
    | cons x es ih =>
      intro out h
      rw [List.foldl_cons]
      refine ih _ ?_
      unfold numS
      split
      · refine ⟨List.pairwise_append.2 ⟨h.1, List.pairwise_singleton _ _, fun a ha b hb => ?_⟩, fun e he => ?_⟩
        · have := (h.2 a ha).2
          rw [List.mem_singleton.1 hb]
          simp only; omega
        · simp only [List.length_append, List.length_cons, List.length_nil]
          rcases List.mem_append.1 he with he | he
          · have := h.2 e he; omega
          · rw [List.mem_singleton.1 he]; simp only; omega
      · exact h
  exact this es [] ⟨List.Pairwise.nil, fun e he => by cases he⟩
/-- An item's own events. -/
def mineF (N : List Evt) (s : ByteArray) : List Evt := N.filter fun e => decide (e.item.data.toList = s.data.toList)
theorem conserves (N : List Evt) (hN : Uniq N) (hR : ∀ e ∈ N, e.right = true) (s : ByteArray) :
    net (sumF (mineF N s) (endN (mineF N s))) = sumV ((endS (mineF N s)).lay s.data.toList) ∧ (∀ x ∈ endN (mineF N s), 0 ≤ x.value ∧ 0 ≤ x.short ∧ 0 ≤ x.late) ∧ (∀ x, (endN (mineF N s)).getLast? = some x → 0 < x.short → (endS (mineF N s)).lay s.data.toList = []) := by
  have hu := hN.filter fun e => decide (e.item.data.toList = s.data.toList)
  obtain ⟨h1, h2, h3⟩ := run_net (mineF N s) s.data.toList (Stb.isort leE (mineF N s)) 0 stk0 (0, 0, 0, 0) sane0 fun e he => by
    have he := (Stb.isort_mem leE_total leE_trans _ e).1 he
    obtain ⟨m1, m2⟩ := List.mem_filter.1 he
    refine ⟨hR e m1, hu.find he, ?_⟩
    exact of_decide_eq_true m2
  refine ⟨?_, h2, h3⟩
  rw [sumF, endN, h1, show net (0, 0, 0, 0) = 0 from rfl, show sumV (stk0.lay s.data.toList) = 0 from rfl, Int.zero_add, Int.sub_zero]
theorem one_val {n : Nat} {st : Stk} (h : Sane n st) {e : Evt} (he : e.right = true) : (oneP st e).1.value ≤ ((n + 1 : Nat) : Int) * 100000000000 := by
  obtain ⟨-, hk⟩ := right_bd he
  obtain ⟨g1, g2, g3, g4⟩ := h e.key
  have hB : ((n + 1 : Nat) : Int) * 100000000000 = n * 100000000000 + 100000000000 := by rw [Int.natCast_add, Int.add_mul]; rfl
  have hT : ∀ m, (takeP (st.lay e.key) m).1 ≤ n * 100000000000 := fun m => by
    obtain ⟨q1, q2, q3, q4⟩ := takeP_good (st.lay e.key) m g1
    have := sumV_nn q1.1
    have := g1.2
    omega
  have hQ := sumQ_bd (st.lay e.key) (fun x hx => ⟨by have := g1.1 x hx; omega, (g1.1 x hx).2.1⟩)
  unfold oneP
  rcases hk with ⟨k, a1, a2, a3, a4, -⟩ | ⟨k, -, a1, a2, -⟩ | ⟨k, a1, a2, -, -⟩ | ⟨k, a1, a2, -, -⟩
  · have hm := mul_bd (show 0 ≤ e.qty by omega) a2 a3 a4
    rw [if_pos k]; simp only; omega
  · have hc := chargeP_lt (st.lay e.key) e.ofn e.price (by omega)
    rw [if_neg (by omega), if_pos k]; simp only; omega
  · rw [if_neg (by omega), if_neg (by omega), if_pos k]
    have := hT e.qty
    simp only; omega
  · rw [if_neg (by omega), if_neg (by omega), if_neg (by omega)]
    by_cases hm : 0 < e.qty - sumQ (st.lay e.key)
    · rw [if_pos hm]
      have hv := mul_bd (show 0 ≤ e.qty - sumQ (st.lay e.key) by omega) (show e.qty - sumQ (st.lay e.key) ≤ 100000 by omega) g3 g4
      simp only; omega
    · rw [if_neg hm]
      have := hT (-(e.qty - sumQ (st.lay e.key)))
      simp only; omega
theorem run_val (l : List Evt) : ∀ (n : Nat) (st : Stk), Sane n st → ∀ x ∈ (runP st l).1, x.value ≤ ((n + l.length : Nat) : Int) * 100000000000 := by
  induction l with
  | nil => intro n st _ x hx; cases hx
  | cons e l ih =>
    intro n st h x hx
    rw [runP] at hx
    split at hx
    · rename_i he
      rcases List.mem_cons.1 hx with rfl | hx
      · have := one_val h he
        have h2 : ((n + 1 : Nat) : Int) ≤ ((n + (e :: l).length : Nat) : Int) := by simp only [List.length_cons]; omega
        exact Int.le_trans this (Int.mul_le_mul_of_nonneg_right h2 (by omega))
      · have := ih (n + 1) _ (sane_step h e he) x hx
        rw [show n + 1 + l.length = n + (e :: l).length by simp only [List.length_cons]; omega] at this
        exact this
    · have := ih n st h x hx
      refine Int.le_trans this (Int.mul_le_mul_of_nonneg_right ?_ (by omega))
      simp only [List.length_cons]; omega
theorem end_val (M : List Evt) (hl : M.length ≤ 140) : ∀ x ∈ endN M, x.value ≤ 14000000000000 := by
  intro x hx
  have h := run_val (Stb.isort leE M) 0 stk0 sane0 x hx
  have e : (Stb.isort leE M).length = M.length := isort_length _ _
  rw [e] at h
  refine Int.le_trans h ?_
  omega
end Go.Proofs.YtefbedineniejaaDoor
end

/- CaP: CostCausal, plainly: what comes later changes nothing earlier; the order in which events are told is nothing. -/
section
namespace Go.Proofs.YtefbedineniejaaDoor
open Go.RowKit
set_option linter.unusedVariables false

theorem ins_perm (x : Evt) (l : List Evt) : (Stb.ins leE x l).Perm (x :: l) := by
  induction l with
  | nil => exact List.Perm.refl _
  | cons y l ih =>
    rw [Stb.ins]
    split
    · exact List.Perm.refl _
    · exact (List.Perm.cons y ih).trans (List.Perm.swap x y l)
theorem isort_perm (l : List Evt) : (Stb.isort leE l).Perm l := by
  induction l with
  | nil => exact List.Perm.refl _
  | cons x l ih => rw [Stb.isort]; exact (ins_perm x _).trans (List.Perm.cons x ih)
theorem leE_anti {x y : Evt} (h1 : leE x y = true) (h2 : leE y x = true) : x.id = y.id := by
  rw [leE_iff] at h1 h2
  omega
theorem Uniq.eq {M : List Evt} (h : Uniq M) {x y : Evt} (hx : x ∈ M) (hy : y ∈ M) (he : x.id = y.id) : x = y := by
  have h1 := h.find hx
  have h2 := h.find hy
  rw [he, h2] at h1
  exact (Option.some.inj h1).symm
/-- In whichever order they are told. -/
theorem isort_same {M T : List Evt} (hu : Uniq M) (hp : T.Perm M) : Stb.isort leE T = Stb.isort leE M := by
  refine List.Perm.eq_of_pairwise (le := fun x y => leE x y = true) ?_ (Stb.isort_sorted leE_total leE_trans T) (Stb.isort_sorted leE_total leE_trans M) (((isort_perm T).trans hp).trans (isort_perm M).symm)
  intro a b ha hb h1 h2
  exact hu.eq (hp.mem_iff.1 ((isort_perm T).mem_iff.1 ha)) ((isort_perm M).mem_iff.1 hb) (leE_anti h1 h2)
theorem ins_filter (p : Evt → Bool) (x : Evt) (l : List Evt) (hs : Stb.Sorted leE l) : (Stb.ins leE x l).filter p = if p x then Stb.ins leE x (l.filter p) else l.filter p := by
  induction l with
  | nil => rw [Stb.ins]; simp only [List.filter_cons, List.filter_nil, Stb.ins]
  | cons y l ih =>
    obtain ⟨h1, h2⟩ := List.pairwise_cons.1 hs
    rw [Stb.ins]
    by_cases hxy : leE x y = true
    · rw [if_pos hxy, List.filter_cons]
      by_cases hpx : p x = true
      · rw [if_pos hpx, if_pos hpx]
        by_cases hpy : p y = true
        · rw [List.filter_cons, if_pos hpy, Stb.ins, if_pos hxy]
        · rw [List.filter_cons, if_neg hpy]
          cases hl : l.filter p with
          | nil => rfl
          | cons z r =>
            have hz : z ∈ l := (List.mem_filter.1 (by rw [hl]; simp : z ∈ l.filter p)).1
            rw [Stb.ins, if_pos (leE_trans x y z hxy (h1 z hz))]
      · rw [if_neg hpx, if_neg hpx]
    · rw [if_neg hxy, List.filter_cons, ih h2]
      by_cases hpx : p x = true
      · rw [if_pos hpx, if_pos hpx]
        by_cases hpy : p y = true
        · rw [if_pos hpy, List.filter_cons, if_pos hpy, Stb.ins, if_neg hxy]
        · rw [if_neg hpy, List.filter_cons, if_neg hpy]
      · rw [if_neg hpx, if_neg hpx, List.filter_cons]
theorem isort_filter (p : Evt → Bool) (l : List Evt) : Stb.isort leE (l.filter p) = (Stb.isort leE l).filter p := by
  induction l with
  | nil => rfl
  | cons x l ih =>
    rw [List.filter_cons, Stb.isort, ins_filter p x _ (Stb.isort_sorted leE_total leE_trans l)]
    by_cases h : p x = true
    · rw [if_pos h, if_pos h, Stb.isort, ih]
    · rw [if_neg h, if_neg h, ih]
theorem runP_app (a b : List Evt) : ∀ st, runP st (a ++ b) = ((runP st a).1 ++ (runP (runP st a).2 b).1, (runP (runP st a).2 b).2) := by
  induction a with
  | nil => intro st; simp [runP]
  | cons x a ih =>
    intro st
    simp only [List.cons_append, runP]
    split
    · rw [ih]; simp
    · rw [ih]
theorem early_split (n : Int) (l : List Evt) (hs : Stb.Sorted leE l) : ∃ b, l = l.filter (fun e => !decide (n < e.day)) ++ b := by
  induction l with
  | nil => exact ⟨[], rfl⟩
  | cons x l ih =>
    obtain ⟨h1, h2⟩ := List.pairwise_cons.1 hs
    by_cases hx : n < x.day
    · refine ⟨x :: l, ?_⟩
      have : (x :: l).filter (fun e => !decide (n < e.day)) = [] := by
        rw [List.filter_eq_nil_iff]
        intro y hy
        rcases List.mem_cons.1 hy with rfl | hy
        · simp [hx]
        · have := (leE_iff _ _).1 (h1 y hy)
          simp; omega
      rw [this]; rfl
    · obtain ⟨b, hb⟩ := ih h2
      refine ⟨b, ?_⟩
      rw [List.filter_cons, if_pos (by simp; omega), List.cons_append, ← hb]
/-- What events up to a day come to, is the beginning of what all come to. -/
theorem early (N : List Evt) (n : Int) : ∃ r, endN N = endN (N.filter fun e => !decide (n < e.day)) ++ r := by
  obtain ⟨b, hb⟩ := early_split n (Stb.isort leE N) (Stb.isort_sorted leE_total leE_trans N)
  refine ⟨(runP (runP stk0 (Stb.isort leE (N.filter fun e => !decide (n < e.day)))).2 b).1, ?_⟩
  show (runP stk0 (Stb.isort leE N)).1 = _
  rw [hb, runP_app, endN, isort_filter]
theorem turned_perm (N : List Evt) (k m : Nat) : (((N.drop k ++ N.take k).take m).reverse ++ (N.drop k ++ N.take k).drop m).Perm N := by
  have h1 : (((N.drop k ++ N.take k).take m).reverse ++ (N.drop k ++ N.take k).drop m).Perm ((N.drop k ++ N.take k).take m ++ (N.drop k ++ N.take k).drop m) := List.Perm.append_right _ (List.reverse_perm _)
  rw [List.take_append_drop] at h1
  refine h1.trans ?_
  have h2 := List.perm_append_comm (l₁ := N.drop k) (l₂ := N.take k)
  rwa [List.take_append_drop] at h2
end Go.Proofs.YtefbedineniejaaDoor
end
