/- What an event comes to, plainly; and the teller tells just that, of every event that may be. -/
import Derived.Test.YtefbedineniejaaDoorCsK
import Derived.Test.YtefbedineniejaaDoorJoined5
namespace Go.Proofs.YtefbedineniejaaDoor
open Go.RowKit
open Go.Maps (Keyed)
set_option linter.unusedVariables false

/-- What there is: layers, what one cost last. -/
structure Stk where
  lay : List UInt8 → List Lay
  last : List UInt8 → Int
def Evt.right (e : Evt) : Bool := Ev.rightB e.item.data.toList e.kind e.qty e.price e.ofn e.day
abbrev Evt.key (e : Evt) : List UInt8 := e.item.data.toList
/-- What an event comes to, and what there is then. -/
def oneP (st : Stk) (e : Evt) : Ln × Stk :=
  if e.kind = 1 then (⟨e.id, e.qty * e.price, 0, 0, false⟩, ⟨updL st.lay e.key (st.lay e.key ++ [⟨e.id, e.qty, e.qty * e.price⟩]), updL st.last e.key e.price⟩)
  else if e.kind = 2 then (⟨e.id, e.price - (chargeP (st.lay e.key) e.ofn e.price).1, 0, (chargeP (st.lay e.key) e.ofn e.price).1, false⟩, ⟨updL st.lay e.key (chargeP (st.lay e.key) e.ofn e.price).2, st.last⟩)
  else if e.kind = 3 then (⟨e.id, (takeP (st.lay e.key) e.qty).1, (takeP (st.lay e.key) e.qty).2.1, 0, false⟩, ⟨updL st.lay e.key (takeP (st.lay e.key) e.qty).2.2, st.last⟩)
  else if 0 < e.qty - sumQ (st.lay e.key) then (⟨e.id, (e.qty - sumQ (st.lay e.key)) * st.last e.key, 0, 0, true⟩, ⟨updL st.lay e.key (st.lay e.key ++ [⟨e.id, e.qty - sumQ (st.lay e.key), (e.qty - sumQ (st.lay e.key)) * st.last e.key⟩]), st.last⟩)
  else (⟨e.id, (takeP (st.lay e.key) (-(e.qty - sumQ (st.lay e.key)))).1, 0, 0, false⟩, ⟨updL st.lay e.key (takeP (st.lay e.key) (-(e.qty - sumQ (st.lay e.key)))).2.2, st.last⟩)
/-- What holds behind n events. -/
def Sane (n : Nat) (st : Stk) : Prop := ∀ l, GoodY (n * 100000000000) (st.lay l) ∧ (st.lay l).length ≤ n ∧ 0 ≤ st.last l ∧ st.last l ≤ 1000000
theorem sumV_app (a b : List Lay) : sumV (a ++ b) = sumV a + sumV b := by simp [sumV]
theorem takeP_good {B : Int} (ls : List Lay) : ∀ (n : Int), GoodY B ls → GoodY B (takeP ls n).2.2 ∧ (takeP ls n).2.2.length ≤ ls.length ∧ sumV (takeP ls n).2.2 + (takeP ls n).1 = sumV ls ∧ 0 ≤ (takeP ls n).1 := by
  induction ls generalizing B with
  | nil => intro n h; exact ⟨h, Nat.le_refl _, by simp [takeP], by simp [takeP]⟩
  | cons x r ih =>
    intro n h
    have hx := h.1 x (by simp)
    have hr : ∀ y ∈ r, 1 ≤ y.qty ∧ y.qty ≤ 100000 ∧ 0 ≤ y.val := fun y hy => h.1 y (List.mem_cons_of_mem _ hy)
    have hS := h.2
    rw [sumV_cons] at hS
    rw [takeP]
    by_cases h1 : n ≤ 0
    · rw [if_pos h1]; exact ⟨h, Nat.le_refl _, by simp, by simp⟩
    · rw [if_neg h1]
      by_cases h2 : n < x.qty
      · rw [if_pos h2]
        have hp := part_le x.val n x.qty hx.2.2 hx.1 (by omega) (by omega)
        refine ⟨⟨fun y hy => ?_, ?_⟩, Nat.le_refl _, ?_, hp.1⟩
        · rcases List.mem_cons.1 hy with rfl | hy
          · simp only; omega
          · exact hr y hy
        · simp only [sumV_cons]; omega
        · simp only [sumV_cons]; omega
      · rw [if_neg h2]
        obtain ⟨q1, q2, q3, q4⟩ := ih (n - x.qty) (B := sumV r) ⟨hr, Int.le_refl _⟩
        refine ⟨⟨q1.1, ?_⟩, by simp only [List.length_cons]; omega, ?_, ?_⟩
        · have := sumV_nn q1.1
          simp only; omega
        · simp only [sumV_cons]; omega
        · simp only; omega
theorem chargeP_good {B : Int} (ls : List Lay) (o p : Int) (hp : 0 ≤ p) : GoodY B ls → GoodY (B + p) (chargeP ls o p).2 ∧ (chargeP ls o p).2.length = ls.length := by
  induction ls generalizing B with
  | nil => intro h; exact ⟨⟨h.1, by have := h.2; simp only [chargeP]; omega⟩, rfl⟩
  | cons x r ih =>
    intro h
    have hx := h.1 x (by simp)
    have hr : ∀ y ∈ r, 1 ≤ y.qty ∧ y.qty ≤ 100000 ∧ 0 ≤ y.val := fun y hy => h.1 y (List.mem_cons_of_mem _ hy)
    have hS := h.2
    rw [sumV_cons] at hS
    rw [chargeP]
    by_cases h1 : x.id = o
    · rw [if_pos h1]
      refine ⟨⟨fun y hy => ?_, by simp only [sumV_cons]; omega⟩, rfl⟩
      rcases List.mem_cons.1 hy with rfl | hy
      · simp only; omega
      · exact hr y hy
    · rw [if_neg h1]
      obtain ⟨q1, q2⟩ := ih (B := B - x.val) ⟨hr, by omega⟩
      refine ⟨⟨fun y hy => ?_, by simp only [sumV_cons]; have := q1.2; omega⟩, by simp [q2]⟩
      rcases List.mem_cons.1 hy with rfl | hy
      · exact hx
      · exact q1.1 y hy
theorem GoodY.mono {B B' : Int} {ls : List Lay} (h : GoodY B ls) (hb : B ≤ B') : GoodY B' ls := ⟨h.1, Int.le_trans h.2 hb⟩
theorem GoodY.app {B : Int} {ls : List Lay} (h : GoodY B ls) (x : Lay) (hx : 1 ≤ x.qty ∧ x.qty ≤ 100000 ∧ 0 ≤ x.val) : GoodY (B + x.val) (ls ++ [x]) := by
  refine ⟨fun y hy => ?_, ?_⟩
  · rcases List.mem_append.1 hy with hy | hy
    · exact h.1 y hy
    · rw [List.mem_singleton.1 hy]; exact hx
  · have := h.2
    rw [sumV_app]; simp only [sumV, List.map_cons, List.map_nil, List.sum_cons, List.sum_nil] at this ⊢; omega
/-- A right event's bounds. -/
theorem right_bd {e : Evt} (h : e.right = true) : e.item.size ≤ 10 ∧ ((e.kind = 1 ∧ 1 ≤ e.qty ∧ e.qty ≤ 100000 ∧ 0 ≤ e.price ∧ e.price ≤ 1000000 ∧ e.ofn = 0) ∨ (e.kind = 2 ∧ e.qty = 0 ∧ 1 ≤ e.price ∧ e.price ≤ 100000000000 ∧ 1 ≤ e.ofn) ∨ (e.kind = 3 ∧ 1 ≤ e.qty ∧ e.qty ≤ 100000 ∧ e.price = 0 ∧ e.ofn = 0) ∨ (e.kind = 4 ∧ 0 ≤ e.qty ∧ e.qty ≤ 100000 ∧ e.price = 0 ∧ e.ofn = 0)) := by
  obtain ⟨h1, -, -, h2⟩ : Ev.RightP _ _ _ _ _ _ := of_decide_eq_true h
  refine ⟨?_, h2⟩
  have := h1.2.1
  simpa using this
theorem mul_bd {a b A B : Int} (h1 : 0 ≤ a) (h2 : a ≤ A) (h3 : 0 ≤ b) (h4 : b ≤ B) : 0 ≤ a * b ∧ a * b ≤ A * B :=
  ⟨Int.mul_nonneg h1 h3, Int.mul_le_mul h2 h4 h3 (by omega)⟩
theorem sane_step {n : Nat} {st : Stk} (h : Sane n st) (e : Evt) (he : e.right = true) : Sane (n + 1) (oneP st e).2 := by
  obtain ⟨-, hk⟩ := right_bd he
  obtain ⟨g1, g2, g3, g4⟩ := h e.key
  have hB : ((n + 1 : Nat) : Int) * 100000000000 = n * 100000000000 + 100000000000 := by rw [Int.natCast_add, Int.add_mul]; rfl
  have hQ : ∀ x ∈ st.lay e.key, 0 ≤ x.qty ∧ x.qty ≤ 100000 := fun x hx => ⟨by have := g1.1 x hx; omega, (g1.1 x hx).2.1⟩
  have hS := sumQ_bd _ hQ
  -- one item's layers, one last price: all others stay
  have go : ∀ (ls : List Lay) (la : List UInt8 → Int), GoodY (((n + 1 : Nat) : Int) * 100000000000) ls → ls.length ≤ n + 1 → (∀ l, 0 ≤ la l ∧ la l ≤ 1000000) → Sane (n + 1) ⟨updL st.lay e.key ls, la⟩ := by
    intro ls la q1 q2 q3 l
    by_cases hl : l = e.key
    · subst hl
      simp only [updL_same]
      exact ⟨q1, q2, (q3 _).1, (q3 _).2⟩
    · simp only [updL_other _ _ hl]
      obtain ⟨a1, a2, a3, a4⟩ := h l
      exact ⟨a1.mono (by omega), by omega, (q3 l).1, (q3 l).2⟩
  have lst : ∀ l, 0 ≤ st.last l ∧ st.last l ≤ 1000000 := fun l => ⟨(h l).2.2.1, (h l).2.2.2⟩
  unfold oneP
  rcases hk with ⟨k, a1, a2, a3, a4, -⟩ | ⟨k, -, a1, a2, -⟩ | ⟨k, a1, a2, -, -⟩ | ⟨k, a1, a2, -, -⟩
  · rw [if_pos k]
    have hm := mul_bd (show 0 ≤ e.qty by omega) a2 a3 a4
    refine go _ _ ((g1.app ⟨e.id, e.qty, e.qty * e.price⟩ ⟨a1, a2, hm.1⟩).mono (by simp only; omega)) (by simp; omega) fun l => ?_
    by_cases hl : l = e.key
    · subst hl; rw [updL_same]; omega
    · rw [updL_other _ _ hl]; exact lst l
  · rw [if_neg (by omega), if_pos k]
    obtain ⟨q1, q2⟩ := chargeP_good (st.lay e.key) e.ofn e.price (by omega) g1
    exact go _ _ (q1.mono (by omega)) (by omega) lst
  · rw [if_neg (by omega), if_neg (by omega), if_pos k]
    obtain ⟨q1, q2, -⟩ := takeP_good (st.lay e.key) e.qty g1
    exact go _ _ (q1.mono (by omega)) (by omega) lst
  · rw [if_neg (by omega), if_neg (by omega), if_neg (by omega)]
    by_cases hm : 0 < e.qty - sumQ (st.lay e.key)
    · rw [if_pos hm]
      have hv := mul_bd (show 0 ≤ e.qty - sumQ (st.lay e.key) by omega) (show e.qty - sumQ (st.lay e.key) ≤ 100000 by omega) g3 g4
      exact go _ _ ((g1.app ⟨e.id, e.qty - sumQ (st.lay e.key), (e.qty - sumQ (st.lay e.key)) * st.last e.key⟩ ⟨by simp only; omega, by simp only; omega, hv.1⟩).mono (by simp only; omega)) (by simp; omega) lst
    · rw [if_neg hm]
      obtain ⟨q1, q2, -⟩ := takeP_good (st.lay e.key) (-(e.qty - sumQ (st.lay e.key))) g1
      exact go _ _ (q1.mono (by omega)) (by omega) lst
set_option maxHeartbeats 1000000 in
/-- The teller tells what an event comes to. -/
theorem one_any (T bl bm c n : Nat) (st : Stk) (e : Evt) (w : World) (h : TW w T bl bm c st.lay st.last) (hs : Sane n st) (hn : n ≤ 199) (hc : c < 99990) (he : e.right = true) :
    Calls Tryd.prog 51 #[.pointer (some ⟨T, 0, none⟩), e.agg] w fun v w' => v = .returned (oneP st e).1.agg ∧ TW w' T bl bm (c + 2) (oneP st e).2.lay (oneP st e).2.last ∧ Li bl bm w w' := by
  obtain ⟨hsz, hk⟩ := right_bd he
  obtain ⟨g1, g2, g3, g4⟩ := hs e.key
  have hsz2 : e.item.size ≤ maxLen := by unfold maxLen; omega
  have g1' : GoodY 20000000000000 (st.lay e.key) := g1.mono (by
    have : (n : Int) ≤ 199 := by omega
    omega)
  obtain ⟨i, s, k, q, p, o, d⟩ := e
  simp only at hk hsz2 g1'
  replace g1' : GoodY 20000000000000 (st.lay s.data.toList) := g1'
  replace g2 : (st.lay s.data.toList).length ≤ n := g2
  replace g3 : 0 ≤ st.last s.data.toList := g3
  replace g4 : st.last s.data.toList ≤ 1000000 := g4
  unfold oneP
  rcases hk with ⟨rfl, a1, a2, a3, a4, -⟩ | ⟨rfl, -, a1, a2, -⟩ | ⟨rfl, a1, a2, -, -⟩ | ⟨rfl, a1, a2, -, -⟩
  · exact one_in T bl bm c st.lay st.last s i q p o d w h hsz2 (by omega) (by omega) g1' (by omega) (by omega)
  · exact (one_charge T bl bm c st.lay st.last s i q p o d w h hsz2 (by omega) (by omega) g1' (by omega)).mono fun v w' ⟨x1, x2, x3⟩ => ⟨x1, x2.mono (by omega), x3⟩
  · exact (one_out T bl bm c st.lay st.last s i q p o d w h hsz2 (by omega) (by omega) g1' (by omega)).mono fun v w' ⟨x1, x2, x3⟩ => ⟨x1, x2.mono (by omega), x3⟩
  · by_cases hm : 0 < q - sumQ (st.lay s.data.toList)
    · simp only [if_pos hm]
      exact (one_more T bl bm c st.lay st.last s i q p o d w h hsz2 (by omega) (by omega) g1' (by omega) ⟨g3, g4⟩ hm).mono fun v w' ⟨x1, x2, x3⟩ => ⟨x1, x2.mono (by omega), x3⟩
    · simp only [if_neg hm]
      exact (one_less T bl bm c st.lay st.last s i q p o d w h hsz2 (by omega) (by omega) g1' (by omega) ⟨g3, g4⟩ hm).mono fun v w' ⟨x1, x2, x3⟩ => ⟨x1, x2.mono (by omega), x3⟩
/-- What events come to, one behind the other. -/
def runP (st : Stk) : List Evt → List Ln × Stk
  | [] => ([], st)
  | e :: es => if e.right then ((oneP st e).1 :: (runP (oneP st e).2 es).1, (runP (oneP st e).2 es).2) else runP st es
def stk0 : Stk := ⟨fun _ => [], fun _ => 0⟩
theorem sane0 : Sane 0 stk0 := fun l => ⟨⟨fun x hx => (by cases hx), by simp [stk0, sumV]⟩, Nat.le_refl _, Int.le_refl _, by show (0 : Int) ≤ 1000000; omega⟩
theorem runP_snoc (es : List Evt) (e : Evt) : ∀ st, runP st (es ++ [e]) = if e.right then ((runP st es).1 ++ [(oneP (runP st es).2 e).1], (oneP (runP st es).2 e).2) else runP st es := by
  induction es with
  | nil => intro st; simp only [List.nil_append, runP]
  | cons x es ih =>
    intro st
    simp only [List.cons_append, runP]
    split
    · rw [ih]; split <;> simp
    · rw [ih]
theorem sane_run (es : List Evt) : ∀ (n : Nat) (st : Stk), Sane n st → Sane (n + es.length) (runP st es).2 := by
  induction es with
  | nil => intro n st h; exact h
  | cons e es ih =>
    intro n st h
    rw [runP]
    split
    · rename_i he
      have := ih (n + 1) _ (sane_step h e he)
      rw [List.length_cons, show n + (es.length + 1) = n + 1 + es.length by omega]
      exact this
    · have := ih n st h
      rw [List.length_cons]
      intro l
      obtain ⟨a, b, c⟩ := this l
      exact ⟨a.mono (by omega), by omega, c⟩
theorem runP_len (es : List Evt) : ∀ st, (runP st es).1.length ≤ es.length := by
  induction es with
  | nil => intro st; simp [runP]
  | cons e es ih =>
    intro st; rw [runP]
    split
    · simp only [List.length_cons]; have := ih (oneP st e).2; omega
    · have := ih st; simp only [List.length_cons]; omega
end Go.Proofs.YtefbedineniejaaDoor
