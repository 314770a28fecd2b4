/- CostApart, plainly: what an item's events come to is what they come to without all others. -/
import Derived.Test.YtefbedineniejaaDoorCaP
namespace Go.Proofs.YtefbedineniejaaDoor
open Go.RowKit
set_option linter.unusedVariables false

theorem one_id (st : Stk) (e : Evt) : (oneP st e).1.id = e.id := by
  unfold oneP
  (repeat' split) <;> rfl
theorem one_same {st st' : Stk} {e : Evt} (h1 : st.lay e.key = st'.lay e.key) (h2 : st.last e.key = st'.last e.key) : (oneP st e).1 = (oneP st' e).1 ∧ (oneP st e).2.lay e.key = (oneP st' e).2.lay e.key ∧ (oneP st e).2.last e.key = (oneP st' e).2.last e.key := by
  unfold oneP
  rw [h1, h2]
  (repeat' split) <;> simp [updL_same, h2]
theorem one_other (st : Stk) (e : Evt) {l : List UInt8} (h : l ≠ e.key) : (oneP st e).2.lay l = st.lay l ∧ (oneP st e).2.last l = st.last l := by
  unfold oneP
  (repeat' split) <;> simp [updL_other _ _ h]
theorem run_apart (s : List UInt8) (q : Int → Bool) : ∀ (l : List Evt) (st st' : Stk), (∀ e ∈ l, e.right = true ∧ q e.id = decide (e.key = s)) → st.lay s = st'.lay s → st.last s = st'.last s →
    (runP st' (l.filter fun e => decide (e.key = s))).1 = (runP st l).1.filter (fun x => q x.id) ∧ (runP st' (l.filter fun e => decide (e.key = s))).2.lay s = (runP st l).2.lay s := by
  intro l
  induction l with
  | nil => intro st st' _ h1 h2; exact ⟨rfl, h1.symm⟩
  | cons e l ih =>
    intro st st' hl h1 h2
    obtain ⟨hr, hq⟩ := hl e (by simp)
    have hl' := fun x hx => hl x (List.mem_cons_of_mem e hx)
    rw [List.filter_cons]
    by_cases hk : e.key = s
    · rw [if_pos (by simp [hk])]
      rw [runP, if_pos hr, runP, if_pos hr]
      subst hk
      obtain ⟨a1, a2, a3⟩ := one_same (st := st) (st' := st') h1 h2
      obtain ⟨i1, i2⟩ := ih (oneP st e).2 (oneP st' e).2 hl' a2 a3
      refine ⟨?_, i2⟩
      simp only
      rw [List.filter_cons, if_pos (by rw [one_id, hq]; simp), i1, a1]
    · rw [if_neg (by simp [hk])]
      rw [show runP st (e :: l) = ((oneP st e).1 :: (runP (oneP st e).2 l).1, (runP (oneP st e).2 l).2) by rw [runP, if_pos hr]]
      obtain ⟨b1, b2⟩ := one_other st e (l := s) (fun h => hk h.symm)
      obtain ⟨i1, i2⟩ := ih (oneP st e).2 st' hl' (b1.trans h1) (b2.trans h2)
      refine ⟨?_, i2⟩
      simp only
      rw [List.filter_cons, if_neg (by rw [one_id, hq]; simp [hk]), i1]
theorem apart (N : List Evt) (hu : Uniq N) (hR : ∀ e ∈ N, e.right = true) (s : ByteArray) :
    endN (mineF N s) = (endN N).filter (fun x => (mineF N s).any fun e => e.id == x.id) ∧ (endS (mineF N s)).lay s.data.toList = (endS N).lay s.data.toList := by
  have h := run_apart s.data.toList (fun z => (mineF N s).any fun e => e.id == z) (Stb.isort leE N) stk0 stk0 (fun e he => by
    have he := (Stb.isort_mem leE_total leE_trans N e).1 he
    refine ⟨hR e he, ?_⟩
    by_cases hk : e.key = s.data.toList
    · rw [decide_eq_true hk]
      exact List.any_eq_true.2 ⟨e, List.mem_filter.2 ⟨he, decide_eq_true hk⟩, by simp⟩
    · rw [decide_eq_false hk]
      refine List.any_eq_false.2 fun x hx => ?_
      obtain ⟨m1, m2⟩ := List.mem_filter.1 hx
      intro hid
      have := hu.eq m1 he (by simpa using hid)
      subst this
      exact hk (of_decide_eq_true m2)) rfl rfl
  rw [← isort_filter] at h
  exact h
end Go.Proofs.YtefbedineniejaaDoor
