/- Joined: CaP, ApP, RmP, CaQn. -/
import Derived.Test.YtackpcohmmlkeaaGreatDoorCsRp
import Derived.Test.YtackpcohmmlkeaaGreatDoorCsL
import Derived.Test.YtackpcohmmlkeaaGreatDoorCsPa
import Derived.Test.YtackpcohmmlkeaaGreatDoorQTail

/- CaP: Joined: CeP, CvP, CaP. -/
section
/- CeP: What CostEmpties's three more events come to, plainly. -/
section
namespace Go.Proofs.YtackpcohmmlkeaaGreatDoor
open Go.RowKit
set_option linter.unusedVariables false

theorem isort_last (x : Evt) (l : List Evt) (h : ∀ y ∈ l, leE y x = true) : Stb.isort leE (l ++ [x]) = Stb.isort leE l ++ [x] := by
  have h1 := Stb.mrg_isort leE_total leE_trans l [x]
  rw [show Stb.isort leE [x] = [x] from rfl] at h1
  rw [← h1, Stb.mrg_one (le := leE) (Stb.isort leE l) x (Stb.isort leE l) [] (by simp) (fun u hu => h u ((Stb.isort_mem leE_total leE_trans l u).1 hu)) (fun v hv => by cases hv)]
theorem takeP_all (ls : List Lay) (h : ∀ x ∈ ls, 1 ≤ x.qty ∧ x.qty ≤ 100000 ∧ 0 ≤ x.val) : takeP ls (sumQ ls) = (sumV ls, 0, []) := by
  induction ls with
  | nil => simp [takeP, sumQ, sumV]
  | cons x r ih =>
    have hx := h x (by simp)
    have hr : ∀ y ∈ r, 1 ≤ y.qty ∧ y.qty ≤ 100000 ∧ 0 ≤ y.val := fun y hy => h y (List.mem_cons_of_mem _ hy)
    have hq : sumQ (x :: r) = x.qty + sumQ r := by simp [sumQ]
    have h0 := (sumQ_bd r fun y hy => ⟨by have := hr y hy; omega, (hr y hy).2.1⟩).1
    rw [takeP, if_neg (by omega), if_neg (by omega), show sumQ (x :: r) - x.qty = sumQ r by omega, ih hr, sumV_cons]
theorem takeP_zero (ls : List Lay) : takeP ls 0 = (0, 0, ls) := by cases ls <;> simp [takeP]
/-- Events behind a run. -/
abbrev endS (es : List Evt) : Stk := (runP stk0 (Stb.isort leE es)).2
abbrev endN (es : List Evt) : List Ln := (runP stk0 (Stb.isort leE es)).1
theorem right_as {e : Evt} (h : e.right = true) (n k q : Int) (hk : (k = 3 ∧ 1 ≤ q ∧ q ≤ 100000) ∨ (k = 4 ∧ 0 ≤ q ∧ q ≤ 100000)) : Evt.right ⟨n, e.item, k, q, 0, 0, 99999⟩ = true := by
  obtain ⟨h1, -, -, h2⟩ : Ev.RightP _ _ _ _ _ _ := of_decide_eq_true h
  refine decide_eq_true (p := Ev.RightP _ _ _ _ _ _) ⟨h1, (by decide : (0 : Int) ≤ 99999), (by decide : (99999 : Int) ≤ 99999), ?_⟩
  rcases hk with ⟨rfl, q1, q2⟩ | ⟨rfl, q1, q2⟩
  · exact Or.inr (Or.inr (Or.inl ⟨rfl, q1, q2, rfl, rfl⟩))
  · exact Or.inr (Or.inr (Or.inr ⟨rfl, q1, q2, rfl, rfl⟩))
theorem run_last {es : List Evt} (hd : ∀ e ∈ es, e.day < 99999) {x : Evt} (hx : x.day = 99999) (hr : x.right = true) : runP stk0 (Stb.isort leE (es ++ [x])) = (endN es ++ [(oneP (endS es) x).1], (oneP (endS es) x).2) := by
  rw [isort_last x es (fun y hy => (leE_iff _ _).2 (Or.inl (by rw [hx]; exact hd y hy))), runP_snoc, if_pos hr]
theorem end_good (es : List Evt) (hl : es.length ≤ 140) (l : List UInt8) : GoodY 20000000000000 ((endS es).lay l) ∧ ((endS es).lay l).length ≤ 140 := by
  have h := sane_run (Stb.isort leE es) 0 stk0 sane0 l
  have e : (Stb.isort leE es).length = es.length := isort_length _ _
  rw [e] at h
  exact ⟨h.1.mono (by omega), Nat.le_trans h.2.1 (by omega)⟩
section
variable {es : List Evt} (hl : es.length ≤ 140) (hd : ∀ e ∈ es, e.day < 99999) (hR : ∀ e ∈ es, e.right = true) {s : ByteArray} (hs : ∃ e ∈ es, e.item = s) (n : Int) {q : Int} (hq : q = sumQ ((endS es).lay s.data.toList)) (hb : 1 ≤ q ∧ q ≤ 100000)
include hl hd hR hs
include hq hb in
theorem emp_out : runP stk0 (Stb.isort leE (es ++ [⟨n, s, 3, q, 0, 0, 99999⟩])) = (endN es ++ [⟨n, sumV ((endS es).lay s.data.toList), 0, 0, false⟩], ⟨updL (endS es).lay s.data.toList [], (endS es).last⟩) := by
  obtain ⟨e, he, rfl⟩ := hs
  rw [run_last hd rfl (right_as (hR e he) n 3 q (Or.inl ⟨rfl, hb⟩))]
  have h := takeP_all _ (end_good es hl e.item.data.toList).1.1
  rw [← hq] at h
  simp [oneP, Evt.key, h]
include hq hb in
theorem emp_none : runP stk0 (Stb.isort leE (es ++ [⟨n, s, 4, 0, 0, 0, 99999⟩])) = (endN es ++ [⟨n, sumV ((endS es).lay s.data.toList), 0, 0, false⟩], ⟨updL (endS es).lay s.data.toList [], (endS es).last⟩) := by
  obtain ⟨e, he, rfl⟩ := hs
  rw [run_last hd rfl (right_as (hR e he) n 4 0 (Or.inr ⟨rfl, by omega, by omega⟩))]
  have h := takeP_all _ (end_good es hl e.item.data.toList).1.1
  rw [← hq] at h
  simp [oneP, Evt.key, ← hq, show ¬ q < 0 by omega, h]
omit hl in
include hq hb in
theorem emp_same : runP stk0 (Stb.isort leE (es ++ [⟨n, s, 4, q, 0, 0, 99999⟩])) = (endN es ++ [⟨n, 0, 0, 0, false⟩], ⟨updL (endS es).lay s.data.toList ((endS es).lay s.data.toList), (endS es).last⟩) := by
  obtain ⟨e, he, rfl⟩ := hs
  rw [run_last hd rfl (right_as (hR e he) n 4 q (Or.inr ⟨rfl, by omega, by omega⟩))]
  simp [oneP, Evt.key, ← hq, takeP_zero]
end
theorem endN_len (es : List Evt) (hR : ∀ e ∈ es, e.right = true) : (endN es).length = es.length := by
  have h : ∀ (l : List Evt) (st : Stk), (∀ e ∈ l, e.right = true) → (runP st l).1.length = l.length := by
    intro l
    induction l with
    | nil => intro st _; rfl
    | cons x l ih => intro st h; rw [runP, if_pos (h x (by simp))]; simp only [List.length_cons]; rw [ih _ fun e he => h e (List.mem_cons_of_mem _ he)]
  rw [endN, h _ _ fun e he => hR e ((Stb.isort_mem leE_total leE_trans es e).1 he)]
  exact isort_length _ _
theorem numF_right (es : List Evt) : ∀ e ∈ numF es, e.right = true := by
  have : ∀ (es out : List Evt), (∀ e ∈ out, e.right = true) → ∀ e ∈ es.foldl numS out, e.right = true := by
    intro es
    induction es with
    | nil => intro out h; exact h
    | cons x es ih =>
      intro out h
      rw [List.foldl_cons]
      refine ih _ ?_
      unfold numS
      split
      · rename_i hx
        intro e he
        rcases List.mem_append.1 he with he | he
        · exact h e he
        · rw [List.mem_singleton.1 he]; exact hx
      · exact h
  exact this es [] (fun e he => by cases he)
end Go.Proofs.YtackpcohmmlkeaaGreatDoor
end

/- CvP: CostConserves, plainly: what the lines come to is what is left. -/
section
namespace Go.Proofs.YtackpcohmmlkeaaGreatDoor
open Go.RowKit
set_option linter.unusedVariables false

/-- What a line adds: in, out, lost, found. -/
def sumS (M : List Evt) (a : Int × Int × Int × Int) (x : Ln) : Int × Int × Int × Int :=
  match evOf M x.id with
  | none => a
  | some e => if e.kind = 1 ∨ e.kind = 2 then (a.1 + x.value, a.2.1, a.2.2.1, a.2.2.2)
    else if e.kind = 3 then (a.1, a.2.1 + x.value, a.2.2.1, a.2.2.2)
    else if x.gain then (a.1, a.2.1, a.2.2.1, a.2.2.2 + x.value)
    else (a.1, a.2.1, a.2.2.1 + x.value, a.2.2.2)
def sumF (M : List Evt) (ls : List Ln) : Int × Int × Int × Int := ls.foldl (sumS M) (0, 0, 0, 0)
theorem sumF_snoc (M : List Evt) (ls : List Ln) (x : Ln) : sumF M (ls ++ [x]) = sumS M (sumF M ls) x := by simp [sumF]
def net (a : Int × Int × Int × Int) : Int := a.1 + a.2.2.2 - a.2.1 - a.2.2.1
theorem chargeP_sum (ls : List Lay) (o p : Int) : sumV (chargeP ls o p).2 = sumV ls + (p - (chargeP ls o p).1) := by
  induction ls with
  | nil => simp [chargeP]
  | cons x r ih =>
    rw [chargeP]
    by_cases h : x.id = o
    · rw [if_pos h]; simp only [sumV_cons]; omega
    · rw [if_neg h]; simp only [sumV_cons, ih]; omega
theorem takeP_short (ls : List Lay) : ∀ n, 0 < (takeP ls n).2.1 → (takeP ls n).2.2 = [] ∨ (takeP ls n).2.1 ≤ 0 := by
  induction ls with
  | nil => intro n _; simp [takeP]
  | cons x r ih =>
    intro n h
    rw [takeP] at h ⊢
    by_cases h1 : n ≤ 0
    · rw [if_pos h1] at h ⊢; exact Or.inr h1
    · rw [if_neg h1] at h ⊢
      by_cases h2 : n < x.qty
      · rw [if_pos h2] at h; simp at h
      · rw [if_neg h2] at h ⊢; exact ih _ h
theorem takeP_short0 (ls : List Lay) (n : Int) (h : 0 < (takeP ls n).2.1) : (takeP ls n).2.2 = [] := by
  rcases takeP_short ls n h with h1 | h1
  · exact h1
  · omega
theorem takeP_nn (ls : List Lay) : ∀ n, 0 ≤ n → 0 ≤ (takeP ls n).2.1 := by
  induction ls with
  | nil => intro n h; simpa [takeP] using h
  | cons x r ih =>
    intro n h
    rw [takeP]
    by_cases h1 : n ≤ 0
    · rw [if_pos h1]; exact h
    · rw [if_neg h1]
      by_cases h2 : n < x.qty
      · rw [if_pos h2]; exact Int.le_refl _
      · rw [if_neg h2]; exact ih _ (by omega)
theorem chargeP_lt (ls : List Lay) (o p : Int) (hp : 0 ≤ p) : 0 ≤ (chargeP ls o p).1 ∧ (chargeP ls o p).1 ≤ p := by
  induction ls with
  | nil => simp [chargeP, hp]
  | cons x r ih =>
    rw [chargeP]
    by_cases h : x.id = o
    · rw [if_pos h]; exact ⟨Int.le_refl _, hp⟩
    · rw [if_neg h]; exact ih
/-- One event: what its line adds is what its item's layers gain; nothing is below nothing; what is missing was not there. -/
theorem one_net {n : Nat} {st : Stk} (h : Sane n st) {e : Evt} (he : e.right = true) {M : List Evt} (hf : evOf M e.id = some e) (a : Int × Int × Int × Int) :
    net (sumS M a (oneP st e).1) = net a + (sumV ((oneP st e).2.lay e.key) - sumV (st.lay e.key)) ∧ 0 ≤ (oneP st e).1.value ∧ 0 ≤ (oneP st e).1.short ∧ 0 ≤ (oneP st e).1.late ∧ (0 < (oneP st e).1.short → (oneP st e).2.lay e.key = []) ∧ (oneP st e).1.id = e.id := by
  obtain ⟨-, hk⟩ := right_bd he
  obtain ⟨g1, g2, g3, g4⟩ := h e.key
  unfold oneP
  rcases hk with ⟨k, a1, a2, a3, a4, -⟩ | ⟨k, -, a1, a2, -⟩ | ⟨k, a1, a2, -, -⟩ | ⟨k, a1, a2, -, -⟩
  · have hm := mul_bd (show 0 ≤ e.qty by omega) a2 a3 a4
    simp only [updL_same, sumV_app, sumV_cons, sumS, hf, k, true_or, if_true, net]
    refine ⟨?_, hm.1, Int.le_refl _, Int.le_refl _, fun h => absurd h (by simp), trivial⟩
    simp [sumV]; omega
  · have hc := chargeP_lt (st.lay e.key) e.ofn e.price (by omega)
    have hs := chargeP_sum (st.lay e.key) e.ofn e.price
    simp only [k, if_neg (show ¬ (2 : Int) = 1 by omega), if_true, updL_same, sumS, hf, or_true, net]
    refine ⟨by rw [hs]; omega, by omega, Int.le_refl _, hc.1, fun h => absurd h (by simp), trivial⟩
  · obtain ⟨q1, q2, q3, q4⟩ := takeP_good (st.lay e.key) e.qty g1
    have q5 := takeP_nn (st.lay e.key) e.qty (by omega)
    simp only [k, if_neg (show ¬ (3 : Int) = 1 by omega), if_neg (show ¬ (3 : Int) = 2 by omega), if_true, updL_same, sumS, hf, net, show ¬ ((3 : Int) = 1 ∨ (3 : Int) = 2) by omega, if_false]
    exact ⟨by omega, q4, q5, Int.le_refl _, takeP_short0 _ _, trivial⟩
  · by_cases hm : 0 < e.qty - sumQ (st.lay e.key)
    · have hv := mul_bd (show 0 ≤ e.qty - sumQ (st.lay e.key) by omega) (show e.qty - sumQ (st.lay e.key) ≤ e.qty - sumQ (st.lay e.key) by omega) g3 g4
      simp only [k, if_neg (show ¬ (4 : Int) = 1 by omega), if_neg (show ¬ (4 : Int) = 2 by omega), if_neg (show ¬ (4 : Int) = 3 by omega), if_pos hm, updL_same, sumV_app, sumS, hf, net, show ¬ ((4 : Int) = 1 ∨ (4 : Int) = 2) by omega, if_false, if_true]
      refine ⟨?_, hv.1, Int.le_refl _, Int.le_refl _, fun h => absurd h (by simp), trivial⟩
      simp [sumV]; omega
    · obtain ⟨q1, q2, q3, q4⟩ := takeP_good (st.lay e.key) (-(e.qty - sumQ (st.lay e.key))) g1
      simp only [k, if_neg (show ¬ (4 : Int) = 1 by omega), if_neg (show ¬ (4 : Int) = 2 by omega), if_neg (show ¬ (4 : Int) = 3 by omega), if_neg hm, updL_same, sumS, hf, net, show ¬ ((4 : Int) = 1 ∨ (4 : Int) = 2) by omega, if_false]
      exact ⟨by simp; omega, q4, Int.le_refl _, Int.le_refl _, fun h => absurd h (by simp), trivial⟩
/-- What all lines add, and of the last one. -/
theorem run_net (M : List Evt) (s : List UInt8) : ∀ (l : List Evt) (n : Nat) (st : Stk) (a : Int × Int × Int × Int), Sane n st → (∀ e ∈ l, e.right = true ∧ evOf M e.id = some e ∧ e.key = s) →
    net ((runP st l).1.foldl (sumS M) a) = net a + (sumV ((runP st l).2.lay s) - sumV (st.lay s)) ∧ (∀ x ∈ (runP st l).1, 0 ≤ x.value ∧ 0 ≤ x.short ∧ 0 ≤ x.late) ∧ (∀ x, (runP st l).1.getLast? = some x → 0 < x.short → (runP st l).2.lay s = []) := by
  intro l
  induction l with
  | nil => intro n st a _ _; exact ⟨by simp [runP], fun x hx => (by cases hx), fun x hx => (by cases hx)⟩
  | cons e l ih =>
    intro n st a h hl
    obtain ⟨h1, h2, h3⟩ := hl e (by simp)
    obtain ⟨n1, n2, n3, n4, n5, -⟩ := one_net h h1 h2 a
    rw [runP, if_pos h1]
    obtain ⟨i1, i2, i3⟩ := ih (n + 1) (oneP st e).2 (sumS M a (oneP st e).1) (sane_step h e h1) fun x hx => hl x (List.mem_cons_of_mem _ hx)
    subst h3
    refine ⟨?_, fun x hx => ?_, fun x hx hs => ?_⟩
    · rw [List.foldl_cons, i1, n1]; simp only; omega
    · rcases List.mem_cons.1 hx with rfl | hx
      · exact ⟨n2, n3, n4⟩
      · exact i2 x hx
    · simp only at hx ⊢
      cases hg : (runP (oneP st e).2 l).1 with
      | nil =>
        rw [hg] at hx
        simp at hx
        subst hx
        cases l with
        | nil => exact n5 hs
        | cons y l =>
          rw [runP, if_pos (hl y (by simp)).1] at hg
          cases hg
      | cons y r =>
        rw [hg, List.getLast?_cons_cons] at hx
        exact i3 x (by rw [hg]; exact hx) hs
theorem numF_uniq (es : List Evt) : Uniq (numF es) ∧ ∀ e ∈ numF es, 1 ≤ e.id ∧ e.id ≤ (numF es).length := by
  have : ∀ (es out : List Evt), (Uniq out ∧ ∀ e ∈ out, 1 ≤ e.id ∧ e.id ≤ out.length) → (Uniq (es.foldl numS out) ∧ ∀ e ∈ es.foldl numS out, 1 ≤ e.id ∧ e.id ≤ (es.foldl numS out).length) := by
    intro es
    induction es with
    | nil => intro out h; exact h
    | cons x es ih =>
      intro out h
      rw [List.foldl_cons]
      refine ih _ ?_
      unfold numS
      split
      · refine ⟨List.pairwise_append.2 ⟨h.1, List.pairwise_singleton _ _, fun a ha b hb => ?_⟩, fun e he => ?_⟩
        · have := (h.2 a ha).2
          rw [List.mem_singleton.1 hb]
          simp only; omega
        · simp only [List.length_append, List.length_cons, List.length_nil]
          rcases List.mem_append.1 he with he | he
          · have := h.2 e he; omega
          · rw [List.mem_singleton.1 he]; simp only; omega
      · exact h
  exact this es [] ⟨List.Pairwise.nil, fun e he => by cases he⟩
/-- An item's own events. -/
def mineF (N : List Evt) (s : ByteArray) : List Evt := N.filter fun e => decide (e.item.data.toList = s.data.toList)
theorem conserves (N : List Evt) (hN : Uniq N) (hR : ∀ e ∈ N, e.right = true) (s : ByteArray) :
    net (sumF (mineF N s) (endN (mineF N s))) = sumV ((endS (mineF N s)).lay s.data.toList) ∧ (∀ x ∈ endN (mineF N s), 0 ≤ x.value ∧ 0 ≤ x.short ∧ 0 ≤ x.late) ∧ (∀ x, (endN (mineF N s)).getLast? = some x → 0 < x.short → (endS (mineF N s)).lay s.data.toList = []) := by
  have hu := hN.filter fun e => decide (e.item.data.toList = s.data.toList)
  obtain ⟨h1, h2, h3⟩ := run_net (mineF N s) s.data.toList (Stb.isort leE (mineF N s)) 0 stk0 (0, 0, 0, 0) sane0 fun e he => by
    have he := (Stb.isort_mem leE_total leE_trans _ e).1 he
    obtain ⟨m1, m2⟩ := List.mem_filter.1 he
    refine ⟨hR e m1, hu.find he, ?_⟩
    exact of_decide_eq_true m2
  refine ⟨?_, h2, h3⟩
  rw [sumF, endN, h1, show net (0, 0, 0, 0) = 0 from rfl, show sumV (stk0.lay s.data.toList) = 0 from rfl, Int.zero_add, Int.sub_zero]
theorem one_val {n : Nat} {st : Stk} (h : Sane n st) {e : Evt} (he : e.right = true) : (oneP st e).1.value ≤ ((n + 1 : Nat) : Int) * 100000000000 := by
  obtain ⟨-, hk⟩ := right_bd he
  obtain ⟨g1, g2, g3, g4⟩ := h e.key
  have hB : ((n + 1 : Nat) : Int) * 100000000000 = n * 100000000000 + 100000000000 := by rw [Int.natCast_add, Int.add_mul]; rfl
  have hT : ∀ m, (takeP (st.lay e.key) m).1 ≤ n * 100000000000 := fun m => by
    obtain ⟨q1, q2, q3, q4⟩ := takeP_good (st.lay e.key) m g1
    have := sumV_nn q1.1
    have := g1.2
    omega
  have hQ := sumQ_bd (st.lay e.key) (fun x hx => ⟨by have := g1.1 x hx; omega, (g1.1 x hx).2.1⟩)
  unfold oneP
  rcases hk with ⟨k, a1, a2, a3, a4, -⟩ | ⟨k, -, a1, a2, -⟩ | ⟨k, a1, a2, -, -⟩ | ⟨k, a1, a2, -, -⟩
  · have hm := mul_bd (show 0 ≤ e.qty by omega) a2 a3 a4
    rw [if_pos k]; simp only; omega
  · have hc := chargeP_lt (st.lay e.key) e.ofn e.price (by omega)
    rw [if_neg (by omega), if_pos k]; simp only; omega
  · rw [if_neg (by omega), if_neg (by omega), if_pos k]
    have := hT e.qty
    simp only; omega
  · rw [if_neg (by omega), if_neg (by omega), if_neg (by omega)]
    by_cases hm : 0 < e.qty - sumQ (st.lay e.key)
    · rw [if_pos hm]
      have hv := mul_bd (show 0 ≤ e.qty - sumQ (st.lay e.key) by omega) (show e.qty - sumQ (st.lay e.key) ≤ 100000 by omega) g3 g4
      simp only; omega
    · rw [if_neg hm]
      have := hT (-(e.qty - sumQ (st.lay e.key)))
      simp only; omega
theorem run_val (l : List Evt) : ∀ (n : Nat) (st : Stk), Sane n st → ∀ x ∈ (runP st l).1, x.value ≤ ((n + l.length : Nat) : Int) * 100000000000 := by
  induction l with
  | nil => intro n st _ x hx; cases hx
  | cons e l ih =>
    intro n st h x hx
    rw [runP] at hx
    split at hx
    · rename_i he
      rcases List.mem_cons.1 hx with rfl | hx
      · have := one_val h he
        have h2 : ((n + 1 : Nat) : Int) ≤ ((n + (e :: l).length : Nat) : Int) := by simp only [List.length_cons]; omega
        exact Int.le_trans this (Int.mul_le_mul_of_nonneg_right h2 (by omega))
      · have := ih (n + 1) _ (sane_step h e he) x hx
        rw [show n + 1 + l.length = n + (e :: l).length by simp only [List.length_cons]; omega] at this
        exact this
    · have := ih n st h x hx
      refine Int.le_trans this (Int.mul_le_mul_of_nonneg_right ?_ (by omega))
      simp only [List.length_cons]; omega
theorem end_val (M : List Evt) (hl : M.length ≤ 140) : ∀ x ∈ endN M, x.value ≤ 14000000000000 := by
  intro x hx
  have h := run_val (Stb.isort leE M) 0 stk0 sane0 x hx
  have e : (Stb.isort leE M).length = M.length := isort_length _ _
  rw [e] at h
  refine Int.le_trans h ?_
  omega
end Go.Proofs.YtackpcohmmlkeaaGreatDoor
end

/- CaP: CostCausal, plainly: what comes later changes nothing earlier; the order in which events are told is nothing. -/
section
namespace Go.Proofs.YtackpcohmmlkeaaGreatDoor
open Go.RowKit
set_option linter.unusedVariables false

theorem runP_app (a b : List Evt) : ∀ st, runP st (a ++ b) = ((runP st a).1 ++ (runP (runP st a).2 b).1, (runP (runP st a).2 b).2) := by
  induction a with
  | nil => intro st; simp [runP]
  | cons x a ih =>
    intro st
    simp only [List.cons_append, runP]
    split
    · rw [ih]; simp
    · rw [ih]
theorem early_split (n : Int) (l : List Evt) (hs : Stb.Sorted leE l) : ∃ b, l = l.filter (fun e => !decide (n < e.day)) ++ b := by
  induction l with
  | nil => exact ⟨[], rfl⟩
  | cons x l ih =>
    obtain ⟨h1, h2⟩ := List.pairwise_cons.1 hs
    by_cases hx : n < x.day
    · refine ⟨x :: l, ?_⟩
      have : (x :: l).filter (fun e => !decide (n < e.day)) = [] := by
        rw [List.filter_eq_nil_iff]
        intro y hy
        rcases List.mem_cons.1 hy with rfl | hy
        · simp [hx]
        · have := (leE_iff _ _).1 (h1 y hy)
          simp; omega
      rw [this]; rfl
    · obtain ⟨b, hb⟩ := ih h2
      refine ⟨b, ?_⟩
      rw [List.filter_cons, if_pos (by simp; omega), List.cons_append, ← hb]
/-- What events up to a day come to, is the beginning of what all come to. -/
theorem early (N : List Evt) (n : Int) : ∃ r, endN N = endN (N.filter fun e => !decide (n < e.day)) ++ r := by
  obtain ⟨b, hb⟩ := early_split n (Stb.isort leE N) (Stb.isort_sorted leE_total leE_trans N)
  refine ⟨(runP (runP stk0 (Stb.isort leE (N.filter fun e => !decide (n < e.day)))).2 b).1, ?_⟩
  show (runP stk0 (Stb.isort leE N)).1 = _
  rw [hb, runP_app, endN, isort_filter]
theorem turned_perm (N : List Evt) (k m : Nat) : (((N.drop k ++ N.take k).take m).reverse ++ (N.drop k ++ N.take k).drop m).Perm N := by
  have h1 : (((N.drop k ++ N.take k).take m).reverse ++ (N.drop k ++ N.take k).drop m).Perm ((N.drop k ++ N.take k).take m ++ (N.drop k ++ N.take k).drop m) := List.Perm.append_right _ (List.reverse_perm _)
  rw [List.take_append_drop] at h1
  refine h1.trans ?_
  have h2 := List.perm_append_comm (l₁ := N.drop k) (l₂ := N.take k)
  rwa [List.take_append_drop] at h2
end Go.Proofs.YtackpcohmmlkeaaGreatDoor
end
end

/- ApP: CostApart, plainly: what an item's events come to is what they come to without all others. -/
section
namespace Go.Proofs.YtackpcohmmlkeaaGreatDoor
open Go.RowKit
set_option linter.unusedVariables false

theorem one_id (st : Stk) (e : Evt) : (oneP st e).1.id = e.id := by
  unfold oneP
  (repeat' split) <;> rfl
theorem one_same {st st' : Stk} {e : Evt} (h1 : st.lay e.key = st'.lay e.key) (h2 : st.last e.key = st'.last e.key) : (oneP st e).1 = (oneP st' e).1 ∧ (oneP st e).2.lay e.key = (oneP st' e).2.lay e.key ∧ (oneP st e).2.last e.key = (oneP st' e).2.last e.key := by
  unfold oneP
  rw [h1, h2]
  (repeat' split) <;> simp [updL_same, h2]
theorem one_other (st : Stk) (e : Evt) {l : List UInt8} (h : l ≠ e.key) : (oneP st e).2.lay l = st.lay l ∧ (oneP st e).2.last l = st.last l := by
  unfold oneP
  (repeat' split) <;> simp [updL_other _ _ h]
theorem run_apart (s : List UInt8) (q : Int → Bool) : ∀ (l : List Evt) (st st' : Stk), (∀ e ∈ l, e.right = true ∧ q e.id = decide (e.key = s)) → st.lay s = st'.lay s → st.last s = st'.last s →
    (runP st' (l.filter fun e => decide (e.key = s))).1 = (runP st l).1.filter (fun x => q x.id) ∧ (runP st' (l.filter fun e => decide (e.key = s))).2.lay s = (runP st l).2.lay s := by
  intro l
  induction l with
  | nil => intro st st' _ h1 h2; exact ⟨rfl, h1.symm⟩
  | cons e l ih =>
    intro st st' hl h1 h2
    obtain ⟨hr, hq⟩ := hl e (by simp)
    have hl' := fun x hx => hl x (List.mem_cons_of_mem e hx)
    rw [List.filter_cons]
    by_cases hk : e.key = s
    · rw [if_pos (by simp [hk])]
      rw [runP, if_pos hr, runP, if_pos hr]
      subst hk
      obtain ⟨a1, a2, a3⟩ := one_same (st := st) (st' := st') h1 h2
      obtain ⟨i1, i2⟩ := ih (oneP st e).2 (oneP st' e).2 hl' a2 a3
      refine ⟨?_, i2⟩
      simp only
      rw [List.filter_cons, if_pos (by rw [one_id, hq]; simp), i1, a1]
    · rw [if_neg (by simp [hk])]
      rw [show runP st (e :: l) = ((oneP st e).1 :: (runP (oneP st e).2 l).1, (runP (oneP st e).2 l).2) by rw [runP, if_pos hr]]
      obtain ⟨b1, b2⟩ := one_other st e (l := s) (fun h => hk h.symm)
      obtain ⟨i1, i2⟩ := ih (oneP st e).2 st' hl' (b1.trans h1) (b2.trans h2)
      refine ⟨?_, i2⟩
      simp only
      rw [List.filter_cons, if_neg (by rw [one_id, hq]; simp [hk]), i1]
theorem apart (N : List Evt) (hu : Uniq N) (hR : ∀ e ∈ N, e.right = true) (s : ByteArray) :
    endN (mineF N s) = (endN N).filter (fun x => (mineF N s).any fun e => e.id == x.id) ∧ (endS (mineF N s)).lay s.data.toList = (endS N).lay s.data.toList := by
  have h := run_apart s.data.toList (fun z => (mineF N s).any fun e => e.id == z) (Stb.isort leE N) stk0 stk0 (fun e he => by
    have he := (Stb.isort_mem leE_total leE_trans N e).1 he
    refine ⟨hR e he, ?_⟩
    by_cases hk : e.key = s.data.toList
    · rw [decide_eq_true hk]
      exact List.any_eq_true.2 ⟨e, List.mem_filter.2 ⟨he, decide_eq_true hk⟩, by simp⟩
    · rw [decide_eq_false hk]
      refine List.any_eq_false.2 fun x hx => ?_
      obtain ⟨m1, m2⟩ := List.mem_filter.1 hx
      intro hid
      have := hu.eq m1 he (by simpa using hid)
      subst this
      exact hk (of_decide_eq_true m2)) rfl rfl
  rw [← isort_filter] at h
  exact h
end Go.Proofs.YtackpcohmmlkeaaGreatDoor
end

/- RmP: An item's moves, plainly: step by step; holdings. -/
section
namespace Go.Proofs.YtackpcohmmlkeaaGreatDoor
open Go.RowKit
set_option linter.unusedVariables false
set_option linter.unusedSimpArgs false

/-- What one move does to how many there are, of which value. -/
def stepM (e : Evt) (x : Ln) (a : Int × Int) : Int × Int :=
  if e.kind = 1 then (a.1 + e.qty, a.2 + x.value) else if e.kind = 2 then (a.1, a.2 + x.value) else if e.kind = 3 then (a.1 - e.qty + x.short, a.2 - x.value)
  else if x.gain then (e.qty, a.2 + x.value) else (e.qty, a.2 - x.value)
def lsQ (ls : List Lay) : Int × Int := (sumQ ls, sumV ls)
theorem sumQ_cons (x : Lay) (r : List Lay) : sumQ (x :: r) = x.qty + sumQ r := by simp [sumQ]
theorem sumQ_append (a b : List Lay) : sumQ (a ++ b) = sumQ a + sumQ b := by simp [sumQ]
theorem takeP_qty (ls : List Lay) : ∀ (n : Int), (∀ x ∈ ls, 1 ≤ x.qty) → 0 ≤ n → sumQ (takeP ls n).2.2 = sumQ ls - n + (takeP ls n).2.1 := by
  induction ls with
  | nil => intro n _ _; simp only [takeP]; omega
  | cons x r ih =>
    intro n h hn
    have hx := h x (by simp)
    rw [takeP]
    split
    · simp only; omega
    · split
      · simp only [sumQ_cons]; omega
      · have := ih (n - x.qty) (fun y hy => h y (by simp [hy])) (by omega)
        simp only [sumQ_cons]; omega
theorem takeP_none (ls : List Lay) (n : Int) (h : ∀ x ∈ ls, 1 ≤ x.qty) (hn : 0 ≤ n) (hq : n ≤ sumQ ls) : (takeP ls n).2.1 = 0 := by
  have h0 := takeP_nn ls n hn
  apply Classical.byContradiction
  intro hc
  have h1 := takeP_short0 ls n (by omega)
  have h2 := takeP_qty ls n h hn
  rw [h1] at h2
  simp [sumQ] at h2
  simp only [sumQ] at hq
  omega
theorem chargeP_qty (ls : List Lay) (o p : Int) : sumQ (chargeP ls o p).2 = sumQ ls := by
  induction ls with
  | nil => rfl
  | cons x r ih =>
    rw [chargeP]
    split
    · simp only [sumQ_cons]
    · simp only [sumQ_cons, ih]
theorem good_qty {B : Int} {ls : List Lay} (h : GoodY B ls) : ∀ x ∈ ls, 1 ≤ x.qty := fun x hx => (h.1 x hx).1
/-- What one move leaves the next one finds. -/
theorem move_step {n : Nat} {st : Stk} (h : Sane n st) {e : Evt} (he : e.right = true) : stepM e (oneP st e).1 (lsQ (st.lay e.key)) = lsQ ((oneP st e).2.lay e.key) := by
  obtain ⟨-, hk⟩ := right_bd he
  have hg := good_qty (h e.key).1
  unfold stepM lsQ oneP
  rcases hk with ⟨k1, k2⟩ | ⟨k1, k2⟩ | ⟨k1, k2⟩ | ⟨k1, k2⟩
  · simp only [if_pos k1, updL, if_true, sumQ_append, sumV_app]
    simp [sumQ, sumV]
  · have n1 : ¬ e.kind = 1 := by omega
    simp only [if_neg n1, if_pos k1, updL, if_true, chargeP_qty, chargeP_sum]
  · have n1 : ¬ e.kind = 1 := by omega
    have n2 : ¬ e.kind = 2 := by omega
    have h1 := takeP_qty (st.lay e.key) e.qty hg (by omega)
    have h2 := (takeP_good (st.lay e.key) e.qty (h e.key).1).2.2.1
    simp only [if_neg n1, if_neg n2, if_pos k1, updL, if_true]
    rw [Prod.mk.injEq]
    exact ⟨by omega, by omega⟩
  · have n1 : ¬ e.kind = 1 := by omega
    have n2 : ¬ e.kind = 2 := by omega
    have n3 : ¬ e.kind = 3 := by omega
    simp only [if_neg n1, if_neg n2, if_neg n3]
    by_cases hq : 0 < e.qty - sumQ (st.lay e.key)
    · simp only [if_pos hq, if_true, updL, sumQ_append, sumV_app]
      simp [sumQ, sumV]
      omega
    · simp only [if_neg hq, Bool.false_eq_true, if_false, updL, if_true]
      have h1 := takeP_qty (st.lay e.key) (-(e.qty - sumQ (st.lay e.key))) hg (by omega)
      have h2 := (takeP_good (st.lay e.key) (-(e.qty - sumQ (st.lay e.key))) (h e.key).1).2.2.1
      have h3 := takeP_none (st.lay e.key) (-(e.qty - sumQ (st.lay e.key))) hg (by omega) (by omega)
      rw [Prod.mk.injEq]
      exact ⟨by omega, by omega⟩
theorem end_snoc (L : List Evt) (x : Evt) (hs : ∀ y ∈ L, leE y x = true) (hr : x.right = true) : endN (L ++ [x]) = endN L ++ [(oneP (endS L) x).1] ∧ endS (L ++ [x]) = (oneP (endS L) x).2 := by
  unfold endN endS
  rw [isort_last x L hs, runP_snoc, if_pos hr]
  exact ⟨rfl, rfl⟩
theorem end_sane (L : List Evt) : Sane L.length (endS L) := by
  have h := sane_run (Stb.isort leE L) 0 stk0 sane0
  rw [Nat.zero_add, (isort_perm L).length_eq] at h
  exact h
/-- What there is of an item. -/
def whatQ (L : List Evt) (s : List UInt8) : Int × Int := lsQ ((endS L).lay s)
section
variable {L : List Evt} {s : List UInt8}
theorem sorted_take (hs : Stb.Sorted leE L) (k : Nat) (hk : k < L.length) : ∀ y ∈ L.take k, leE y L[k] = true := by
  intro y hy
  obtain ⟨j, hj, rfl⟩ := List.getElem_of_mem hy
  rw [List.length_take] at hj
  rw [List.getElem_take]
  exact (List.pairwise_iff_getElem.1 hs) j k (by omega) hk (by omega)
theorem take_one (k : Nat) (hk : k < L.length) : L.take (k + 1) = L.take k ++ [L[k]] := by
  rw [List.take_succ_eq_append_getElem hk]
/-- One move. -/
theorem move_at (hs : Stb.Sorted leE L) (hr : ∀ e ∈ L, e.right = true ∧ e.key = s) (k : Nat) (hk : k < L.length) :
    (endN (L.take (k + 1))).length = k + 1 ∧ (∀ h : k < (endN (L.take (k + 1))).length, (endN (L.take (k + 1)))[k] = (oneP (endS (L.take k)) L[k]).1) ∧ stepM L[k] (oneP (endS (L.take k)) L[k]).1 (whatQ (L.take k) s) = whatQ (L.take (k + 1)) s := by
  obtain ⟨hr1, hr2⟩ := hr _ (List.getElem_mem hk)
  obtain ⟨h1, h2⟩ := end_snoc (L.take k) L[k] (sorted_take hs k hk) hr1
  have hl : (endN (L.take k)).length = k := by
    rw [endN_len _ (fun e he => (hr e (List.mem_of_mem_take he)).1), List.length_take]
    omega
  rw [take_one k hk]
  refine ⟨by rw [h1, List.length_append, hl]; rfl, fun h => ?_, ?_⟩
  · have : ∀ (A : List Ln) (h : k < A.length), A = endN (L.take k) ++ [(oneP (endS (L.take k)) L[k]).1] → A[k] = (oneP (endS (L.take k)) L[k]).1 := by
      intro A h e
      subst e
      rw [List.getElem_append_right (by omega)]
      simp [hl]
    exact this _ h h1
  · unfold whatQ
    rw [h2, ← hr2]
    exact move_step (end_sane _) hr1
/-- A day's end. -/
def upTo (n : Int) (L : List Evt) : List Evt := L.filter fun e => !decide (n < e.day)
theorem upTo_step (hs : Stb.Sorted leE L) (n : Int) (k : Nat) (hk : k < L.length) : upTo n (L.take (k + 1)) = if L[k].day ≤ n then L.take (k + 1) else upTo n (L.take k) := by
  unfold upTo
  by_cases h : L[k].day ≤ n
  · rw [if_pos h, List.filter_eq_self]
    intro y hy
    rw [take_one k hk] at hy
    have : y.day ≤ n := by
      rcases List.mem_append.1 hy with hy | hy
      · have := (leE_iff _ _).1 (sorted_take hs k hk y hy)
        omega
      · rw [List.mem_singleton.1 hy]; exact h
    simp; omega
  · rw [if_neg h, take_one k hk, List.filter_append]
    simp
    omega
end
/-- Of an item's own events alone, or of all. -/
theorem what_apart (M : List Evt) (hu : Uniq M) (hR : ∀ e ∈ M, e.right = true) (n : Int) (s : ByteArray) : whatQ (upTo n (mineF M s)) s.data.toList = whatQ (upTo n M) s.data.toList := by
  have h := (apart (upTo n M) (hu.filter _) (fun e he => hR e (List.mem_filter.1 he).1) s).2
  unfold whatQ
  rw [← h]
  have : upTo n (mineF M s) = mineF (upTo n M) s := by
    unfold upTo mineF
    rw [List.filter_filter, List.filter_filter]
    congr 1
    funext e
    exact Bool.and_comm _ _
  rw [this]
theorem what_none (L : List Evt) (s : List UInt8) : (whatQ L s).1 = 0 ↔ (endS L).lay s = [] := by
  have hg := good_qty ((end_sane L) s).1
  unfold whatQ lsQ
  generalize (endS L).lay s = ls at hg
  constructor
  · intro h
    cases ls with
    | nil => rfl
    | cons x r =>
      simp only [sumQ_cons] at h
      have h1 := hg x (by simp)
      have h2 : 0 ≤ sumQ r := by
        have : ∀ (r : List Lay), (∀ y ∈ r, 1 ≤ y.qty) → 0 ≤ sumQ r := by
          intro r
          induction r with
          | nil => intro _; simp [sumQ]
          | cons y r ih =>
            intro h
            rw [sumQ_cons]
            have := h y (by simp)
            have := ih (fun z hz => h z (by simp [hz]))
            omega
        exact this r (fun y hy => hg y (by simp [hy]))
      omega
  · rintro rfl; rfl
theorem what_bd (L : List Evt) (s : List UInt8) : 0 ≤ (whatQ L s).1 ∧ (whatQ L s).1 ≤ L.length * 100000 ∧ 0 ≤ (whatQ L s).2 ∧ (whatQ L s).2 ≤ L.length * 100000000000 := by
  obtain ⟨⟨h1, h2⟩, h3, -⟩ := (end_sane L) s
  unfold whatQ lsQ
  generalize (endS L).lay s = ls at h1 h2 h3
  have hv := sumV_nn h1
  have hq : ∀ (r : List Lay), (∀ x ∈ r, 1 ≤ x.qty ∧ x.qty ≤ 100000 ∧ 0 ≤ x.val) → 0 ≤ sumQ r ∧ sumQ r ≤ r.length * 100000 := by
    intro r
    induction r with
    | nil => intro _; simp [sumQ]
    | cons y r ih =>
      intro h
      rw [sumQ_cons]
      have := h y (by simp)
      have := ih (fun z hz => h z (by simp [hz]))
      simp only [List.length_cons]
      omega
  obtain ⟨q1, q2⟩ := hq ls h1
  simp only
  exact ⟨q1, by omega, hv, by omega⟩
end Go.Proofs.YtackpcohmmlkeaaGreatDoor
end

/- CaQn: Lines, for reading. -/
section
namespace Go.Proofs.YtackpcohmmlkeaaGreatDoor
open Go.RowKit
open Go.Maps (Keyed)
set_option linter.unusedVariables false

theorem rdN_cells {w : World} {base n : Nat} {xa : Option Addr} {xc : Nat} {ls : List Ln} (h : w.ownsRow base 103 5 (.slice xa n xc) n (flN ls)) (j : Nat) (hj : j < (flN ls).length) : ∃ b, xa = some ⟨b, 0, none⟩ ∧ base ≤ b ∧ ∀ W, Below w.heap.size w W → ∀ j u, (flN ls)[j]? = some u → W.cell? ⟨b, j, none⟩ = some u := by
  rcases h.2 with ⟨e, h0⟩ | ⟨g, cap, cur, e, hB, hc, hn, hm, hs, ht⟩
  · exact absurd h.1 (by subst h0; omega)
  · injection e with e1 e2; subst e1
    refine ⟨g, rfl, hB, fun W hW j u hu => ?_⟩
    rw [hW.cell (p := ⟨g, j, none⟩) (Array.getElem?_eq_some_iff.1 hc).1]
    have hjl : j < (flN ls).length := (List.getElem?_eq_some_iff.1 hu).1
    rw [← ht, List.getElem?_take_of_lt (by rw [h.1] at hjl; exact hjl), Array.getElem?_toList] at hu
    simpa [World.cell?, hc] using hu
/-- The five cells of the k-th line, in whatever world behind. -/
theorem own_ln {w : World} {base n : Nat} {xa : Option Addr} {xc : Nat} {ls : List Ln} (h : w.ownsRow base 103 5 (.slice xa n xc) n (flN ls)) (k : Nat) (hk : k < ls.length) : ∃ b, xa = some ⟨b, 0, none⟩ ∧ b < w.heap.size ∧ ∀ W, Below w.heap.size w W →
    W.cell? ⟨b, k * 5, none⟩ = some (.int .i64 ls[k].id) ∧ W.cell? ⟨b, k * 5 + 1, none⟩ = some (.int .i64 ls[k].value) ∧ W.cell? ⟨b, k * 5 + 2, none⟩ = some (.int .i64 ls[k].short) ∧ W.cell? ⟨b, k * 5 + 3, none⟩ = some (.int .i64 ls[k].late) ∧ W.cell? ⟨b, k * 5 + 4, none⟩ = some (.bool ls[k].gain) := by
  have hg : ∀ j, j < 5 → (flN ls)[k * 5 + j]? = ls[k].cells[j]? := by
    clear h
    induction ls generalizing k with
    | nil => simp at hk
    | cons x r ih =>
      intro j hj
      simp only [flN, List.flatMap_cons] at ih ⊢
      cases k with
      | zero => rw [List.getElem?_append_left (by simp [Ln.cells]; omega)]; simp
      | succ k =>
        rw [List.getElem?_append_right (by simp [Ln.cells]; omega), show (k + 1) * 5 + j - x.cells.length = k * 5 + j by simp [Ln.cells]; omega]
        exact ih k (by simpa using hk) j hj
  have h0 := hg 0 (by omega)
  obtain ⟨b, hb, -, hc⟩ := rdN_cells h (k * 5) ((List.getElem?_eq_some_iff.1 h0).1)
  refine ⟨b, hb, ?_, fun W hW => ⟨hc W hW (k * 5) _ h0, hc W hW (k * 5 + 1) _ (hg 1 (by omega)), hc W hW (k * 5 + 2) _ (hg 2 (by omega)), hc W hW (k * 5 + 3) _ (hg 3 (by omega)), hc W hW (k * 5 + 4) _ (hg 4 (by omega))⟩⟩
  exact cell_lt (hc w (Below.refl _ _) (k * 5) _ h0)
/-- A slice of lines, for reading. -/
def RdN (w : World) (a : Option Addr) (ls : List Ln) : Prop := ∀ k (hk : k < ls.length), ∃ b off, a = some ⟨b, off, none⟩ ∧ b < w.heap.size ∧ ∀ j u, ls[k].cells[j]? = some u → w.cell? ⟨b, off + k * 5 + j, none⟩ = some u
theorem RdN.below {w w' : World} {a : Option Addr} {ls : List Ln} (h : RdN w a ls) (hb : Below w.heap.size w w') : RdN w' a ls := fun k hk => by
  obtain ⟨b, off, h1, h2, h3⟩ := h k hk
  exact ⟨b, off, h1, Nat.lt_of_lt_of_le h2 hb.size, fun j u hu => (hb.cell (p := ⟨b, off + k * 5 + j, none⟩) h2).trans (h3 j u hu)⟩
theorem RdN.take {w : World} {a : Option Addr} {ls : List Ln} (h : RdN w a ls) (m : Nat) : RdN w a (ls.take m) := fun k hk => by
  have hk' : k < ls.length := by rw [List.length_take] at hk; omega
  obtain ⟨b, off, h1, h2, h3⟩ := h k hk'
  refine ⟨b, off, h1, h2, fun j u hu => h3 j u (by rw [List.getElem_take] at hu; exact hu)⟩
theorem rdN_of_own {w : World} {base n : Nat} {xa : Option Addr} {xc : Nat} {ls : List Ln} (h : w.ownsRow base 103 5 (.slice xa n xc) n (flN ls)) : RdN w xa ls := fun k hk => by
  obtain ⟨b, rfl, hb, hc⟩ := own_ln h k hk
  obtain ⟨c0, c1, c2, c3, c4⟩ := hc w (Below.refl _ _)
  refine ⟨b, 0, rfl, hb, fun j u hu => ?_⟩
  rw [Nat.zero_add]
  match j, hu with
  | 0, hu => cases hu; exact c0
  | 1, hu => cases hu; exact c1
  | 2, hu => cases hu; exact c2
  | 3, hu => cases hu; exact c3
  | 4, hu => cases hu; exact c4
end Go.Proofs.YtackpcohmmlkeaaGreatDoor
end
