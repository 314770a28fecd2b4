/- Joined: PrM, PrN. -/
import Derived.Test.YtackpcohmmlkeaaGreatDoorCsL
import Derived.Test.YtackpcohmmlkeaaGreatDoorDayN
import Derived.Test.YtackpcohmmlkeaaGreatDoorKh

/- PrM: Months and their figures, plainly. -/
section
namespace Go.Proofs.YtackpcohmmlkeaaGreatDoor
open Go.RowKit
set_option linter.unusedVariables false

namespace Dy
open Classical in
/-- The month in which a day lies. -/
noncomputable def moN (n : Int) : Int := if h : ∃ z : Int, ∃ (y d : Int) (m : Nat), Is n y m d ∧ z = mo y m then h.choose else 0
theorem moN_is {n y d : Int} {m : Nat} (h : Is n y m d) : moN n = mo y m := by
  have hex : ∃ z : Int, ∃ (y d : Int) (m : Nat), Is n y m d ∧ z = mo y m := ⟨_, y, d, m, h, rfl⟩
  unfold moN
  rw [dif_pos hex]
  obtain ⟨y', d', m', h', hz⟩ := hex.choose_spec
  rw [hz]
  obtain ⟨e1, e2, -⟩ := is_uniq h h'
  unfold mo
  omega
theorem moN_mono {a b : Int} (h0 : 0 ≤ a) (h : a ≤ b) (h1 : b ≤ 99999) : moN a ≤ moN b := by
  obtain ⟨y, d, m, hi⟩ := parts_ex a h0 (by omega)
  obtain ⟨y', d', m', hi'⟩ := parts_ex b (by omega) h1
  rw [moN_is hi, moN_is hi']
  exact mo_mono hi hi' h
end Dy
/-- Figures. -/
structure Fg where
  i : Int
  o : Int
  l : Int
  g : Int
  t : Int
def Fg.cells (f : Fg) : List Value := [.int .i64 f.i, .int .i64 f.o, .int .i64 f.l, .int .i64 f.g, .int .i64 f.t]
abbrev Fg.agg (f : Fg) : Value := .agg #[.int .i64 f.i, .int .i64 f.o, .int .i64 f.l, .int .i64 f.g, .int .i64 f.t]
def fg0 : Fg := ⟨0, 0, 0, 0, 0⟩
def Fg.plus (a b : Fg) : Fg := ⟨a.i + b.i, a.o + b.o, a.l + b.l, a.g + b.g, a.t + b.t⟩
def Fg.minus (a b : Fg) : Fg := ⟨a.i - b.i, a.o - b.o, a.l - b.l, a.g - b.g, a.t - b.t⟩
theorem Fg.plus_minus (a b : Fg) : (a.plus b).minus b = a := by
  obtain ⟨a1, a2, a3, a4, a5⟩ := a
  obtain ⟨b1, b2, b3, b4, b5⟩ := b
  simp only [Fg.plus, Fg.minus, Fg.mk.injEq]
  omega
theorem Fg.minus_plus (a b : Fg) : b.plus (a.minus b) = a := by
  obtain ⟨a1, a2, a3, a4, a5⟩ := a
  obtain ⟨b1, b2, b3, b4, b5⟩ := b
  simp only [Fg.plus, Fg.minus, Fg.mk.injEq]
  omega
/-- No figure is further from nothing than B. -/
def Fg.le (f : Fg) (B : Int) : Prop := (-B ≤ f.i ∧ f.i ≤ B) ∧ (-B ≤ f.o ∧ f.o ≤ B) ∧ (-B ≤ f.l ∧ f.l ≤ B) ∧ (-B ≤ f.g ∧ f.g ≤ B) ∧ (-B ≤ f.t ∧ f.t ≤ B)
theorem Fg.le_plus {a b : Fg} {A B : Int} (h : a.le A) (k : b.le B) : (a.plus b).le (A + B) := by
  obtain ⟨⟨h1, h2⟩, ⟨h3, h4⟩, ⟨h5, h6⟩, ⟨h7, h8⟩, h9, h10⟩ := h
  obtain ⟨⟨k1, k2⟩, ⟨k3, k4⟩, ⟨k5, k6⟩, ⟨k7, k8⟩, k9, k10⟩ := k
  unfold Fg.le Fg.plus
  simp only
  omega
theorem Fg.le_minus {a b : Fg} {A B : Int} (h : a.le A) (k : b.le B) : (a.minus b).le (A + B) := by
  obtain ⟨⟨h1, h2⟩, ⟨h3, h4⟩, ⟨h5, h6⟩, ⟨h7, h8⟩, h9, h10⟩ := h
  obtain ⟨⟨k1, k2⟩, ⟨k3, k4⟩, ⟨k5, k6⟩, ⟨k7, k8⟩, k9, k10⟩ := k
  unfold Fg.le Fg.minus
  simp only
  omega
theorem Fg.le_mono {a : Fg} {A B : Int} (h : a.le A) (k : A ≤ B) : a.le B := by
  obtain ⟨⟨h1, h2⟩, ⟨h3, h4⟩, ⟨h5, h6⟩, ⟨h7, h8⟩, h9, h10⟩ := h
  unfold Fg.le
  omega
theorem fg0_le {B : Int} (h : 0 ≤ B) : fg0.le B := by unfold Fg.le fg0; simp only; omega
/-- What an event's line puts to the figures. -/
def ofP (e : Evt) (x : Ln) : Fg := if e.kind = 3 then ⟨0, x.value, 0, 0, 0⟩ else if e.kind = 4 ∧ x.gain = true then ⟨0, 0, 0, x.value, 0⟩ else if e.kind = 4 then ⟨0, 0, x.value, 0, 0⟩ else ⟨x.value, 0, 0, 0, x.late⟩
/-- A line more. -/
noncomputable def monS (acc : List (Int × Fg)) (e : Evt) (x : Ln) : List (Int × Fg) :=
  match acc.getLast? with
  | none => [(Dy.moN e.day, fg0.plus (ofP e x))]
  | some p => if p.1 = Dy.moN e.day then acc.dropLast ++ [(p.1, p.2.plus (ofP e x))] else acc ++ [(Dy.moN e.day, fg0.plus (ofP e x))]
noncomputable def monF (ps : List (Evt × Ln)) : List (Int × Fg) := ps.foldl (fun acc p => monS acc p.1 p.2) []
theorem monF_snoc (ps : List (Evt × Ln)) (p : Evt × Ln) : monF (ps ++ [p]) = monS (monF ps) p.1 p.2 := by simp [monF]
def untilF (ms : List (Int × Fg)) (m : Int) : Fg := ms.foldl (fun f p => if p.1 ≤ m then f.plus p.2 else f) fg0
theorem untilF_snoc (ms : List (Int × Fg)) (p : Int × Fg) (m : Int) : untilF (ms ++ [p]) m = if p.1 ≤ m then (untilF ms m).plus p.2 else untilF ms m := by simp [untilF]
theorem monS_len (acc : List (Int × Fg)) (e : Evt) (x : Ln) : (monS acc e x).length ≤ acc.length + 1 := by
  unfold monS
  cases h : acc.getLast? with
  | none => simp
  | some p =>
    simp only
    split
    · simp only [List.length_append, List.length_dropLast, List.length_singleton]; omega
    · simp
theorem monF_len (ps : List (Evt × Ln)) : (monF ps).length ≤ ps.length := by
  have key : ∀ (ps : List (Evt × Ln)) (acc : List (Int × Fg)), (ps.foldl (fun acc p => monS acc p.1 p.2) acc).length ≤ acc.length + ps.length := by
    intro ps
    induction ps with
    | nil => intro acc; exact Nat.le_refl _
    | cons p ps ih =>
      intro acc
      have h1 := ih (monS acc p.1 p.2)
      have h2 := monS_len acc p.1 p.2
      simp only [List.foldl_cons, List.length_cons]
      omega
  have h := key ps []
  simp only [List.length_nil, Nat.zero_add] at h
  exact h
/-- Months stand in order. -/
def Asc (ms : List (Int × Fg)) : Prop := ms.Pairwise fun a b => a.1 < b.1
theorem monS_asc {acc : List (Int × Fg)} (h : Asc acc) (e : Evt) (x : Ln) (hl : ∀ p ∈ acc, p.1 ≤ Dy.moN e.day) : Asc (monS acc e x) ∧ ∀ p ∈ monS acc e x, p.1 ≤ Dy.moN e.day := by
  unfold monS
  cases hg : acc.getLast? with
  | none => exact ⟨List.pairwise_singleton _ _, fun p hp => by rw [List.mem_singleton.1 hp]; exact Int.le_refl _⟩
  | some q =>
    obtain ⟨hne, hq⟩ := List.getLast?_eq_some_iff.1 hg |>.imp fun ys h => h
    simp only
    subst hq
    have hA := List.pairwise_append.1 h
    split
    · rename_i he
      rw [List.dropLast_concat]
      refine ⟨List.pairwise_append.2 ⟨hA.1, List.pairwise_singleton _ _, fun a ha b hb => ?_⟩, fun p hp => ?_⟩
      · rw [List.mem_singleton.1 hb]
        exact hA.2.2 a ha q (by simp)
      · rcases List.mem_append.1 hp with hp | hp
        · exact hl p (List.mem_append_left _ hp)
        · rw [List.mem_singleton.1 hp]; exact hl q (by simp)
    · rename_i he
      refine ⟨List.pairwise_append.2 ⟨h, List.pairwise_singleton _ _, fun a ha b hb => ?_⟩, fun p hp => ?_⟩
      · rw [List.mem_singleton.1 hb]
        have hq := hl q (by simp)
        rcases List.mem_append.1 ha with ha | ha
        · have := hA.2.2 a ha q (by simp)
          show a.1 < Dy.moN e.day
          omega
        · rw [List.mem_singleton.1 ha]
          show q.1 < Dy.moN e.day
          omega
      · rcases List.mem_append.1 hp with hp | hp
        · exact hl p hp
        · rw [List.mem_singleton.1 hp]; exact Int.le_refl _
/-- Days in order: months in order. -/
theorem monF_asc (ps : List (Evt × Ln)) (hd : ps.Pairwise fun a b => a.1.day ≤ b.1.day) (hb : ∀ p ∈ ps, 0 ≤ p.1.day ∧ p.1.day ≤ 99999) : Asc (monF ps) := by
  have key : ∀ (ps : List (Evt × Ln)) (acc : List (Int × Fg)), Asc acc → ps.Pairwise (fun a b => a.1.day ≤ b.1.day) → (∀ p ∈ ps, 0 ≤ p.1.day ∧ p.1.day ≤ 99999) → (∀ q ∈ acc, ∀ p ∈ ps, q.1 ≤ Dy.moN p.1.day) → Asc (ps.foldl (fun acc p => monS acc p.1 p.2) acc) := by
    intro ps
    induction ps with
    | nil => intro acc h _ _ _; exact h
    | cons p ps ih =>
      intro acc h hd hb hl
      obtain ⟨h1, h2⟩ := monS_asc h p.1 p.2 (fun q hq => hl q hq p (by simp))
      obtain ⟨hp, hps⟩ := List.pairwise_cons.1 hd
      refine ih _ h1 hps (fun q hq => hb q (List.mem_cons_of_mem _ hq)) (fun q hq r hr => ?_)
      exact Int.le_trans (h2 q hq) (Dy.moN_mono (hb p (by simp)).1 (hp r hr) (hb r (List.mem_cons_of_mem _ hr)).2)
  exact key ps [] List.Pairwise.nil hd hb (fun q hq => by cases hq)
/-- Of events that may be, each has its line. -/
theorem run_ids (es : List Evt) : ∀ st, (∀ e ∈ es, e.right = true) → (runP st es).1.map Ln.id = es.map Evt.id := by
  induction es with
  | nil => intro st _; rfl
  | cons e es ih =>
    intro st h
    rw [runP, if_pos (h e (by simp))]
    simp only [List.map_cons]
    rw [ih _ (fun x hx => h x (List.mem_cons_of_mem _ hx))]
    congr 1
    unfold oneP
    (repeat' split) <;> rfl
theorem chargeP_fst (ls : List Lay) (o p : Int) : (chargeP ls o p).1 = 0 ∨ (chargeP ls o p).1 = p := by
  induction ls with
  | nil => exact .inr rfl
  | cons x r ih =>
    rw [chargeP]
    split
    · exact .inl rfl
    · exact ih
/-- How far a line's numbers go. -/
theorem one_bd {n : Nat} {st : Stk} (h : Sane n st) (e : Evt) (he : e.right = true) : (0 ≤ (oneP st e).1.value ∧ (oneP st e).1.value ≤ (n + 1) * 100000000000) ∧ 0 ≤ (oneP st e).1.late ∧ (oneP st e).1.late ≤ 100000000000 := by
  have hb := (right_bd he).2
  obtain ⟨hg, hl, h0, h1⟩ := h e.key
  have hq := sumQ_bd (st.lay e.key) (fun x hx => by have := hg.1 x hx; omega)
  have htk : ∀ m, 0 ≤ (takeP (st.lay e.key) m).1 ∧ (takeP (st.lay e.key) m).1 ≤ n * 100000000000 := fun m => by
    obtain ⟨g1, -, g3, g4⟩ := takeP_good (st.lay e.key) m hg
    have := sumV_nn g1.1
    have := hg.2
    exact ⟨g4, by omega⟩
  rcases hb with ⟨hk, q0, q1, p0, p1, -⟩ | ⟨hk, -, p0, p1, -⟩ | ⟨hk, q0, q1, -⟩ | ⟨hk, q0, q1, -⟩
  · rw [oneP, if_pos hk]
    simp only
    have hm : 0 ≤ e.qty * e.price ∧ e.qty * e.price ≤ 100000000000 := ⟨Int.mul_nonneg (by omega) p0, Int.le_trans (Int.mul_le_mul q1 p1 p0 (by omega)) (by omega)⟩
    omega
  · rw [oneP, if_neg (by rw [hk]; decide), if_pos hk]
    simp only
    rcases chargeP_fst (st.lay e.key) e.ofn e.price with h | h <;> rw [h] <;> omega
  · rw [oneP, if_neg (by rw [hk]; decide), if_neg (by rw [hk]; decide), if_pos hk]
    simp only
    have := htk e.qty
    omega
  · rw [oneP, if_neg (by rw [hk]; decide), if_neg (by rw [hk]; decide), if_neg (by rw [hk]; decide)]
    split
    · rename_i hm
      simp only
      have hv : 0 ≤ (e.qty - sumQ (st.lay e.key)) * st.last e.key ∧ (e.qty - sumQ (st.lay e.key)) * st.last e.key ≤ 100000000000 := ⟨Int.mul_nonneg (by omega) h0, Int.le_trans (Int.mul_le_mul (show e.qty - sumQ (st.lay e.key) ≤ 100000 by omega) h1 h0 (by omega)) (by omega)⟩
      omega
    · simp only
      have := htk (-(e.qty - sumQ (st.lay e.key)))
      omega
theorem run_bd (es : List Evt) : ∀ (n : Nat) (st : Stk), Sane n st → ∀ x ∈ (runP st es).1, (0 ≤ x.value ∧ x.value ≤ (n + es.length) * 100000000000) ∧ 0 ≤ x.late ∧ x.late ≤ 100000000000 := by
  induction es with
  | nil => intro n st _ x hx; cases hx
  | cons e es ih =>
    intro n st h x hx
    rw [runP] at hx
    rw [List.length_cons]
    split at hx
    · rename_i he
      rcases List.mem_cons.1 hx with rfl | hx
      · have := one_bd h e he
        omega
      · have := ih (n + 1) _ (sane_step h e he) x hx
        omega
    · have := ih n st h x hx
      omega
theorem ofP_le {e : Evt} {x : Ln} {B : Int} (h : (0 ≤ x.value ∧ x.value ≤ B) ∧ 0 ≤ x.late ∧ x.late ≤ B) : (ofP e x).le B := by
  unfold ofP Fg.le
  (repeat' split) <;> simp only <;> omega
/-- How far a month's figures go: behind k lines, each of at most B. -/
theorem monF_le (ps : List (Evt × Ln)) {B : Int} (hB : 0 ≤ B) (h : ∀ p ∈ ps, (0 ≤ p.2.value ∧ p.2.value ≤ B) ∧ 0 ≤ p.2.late ∧ p.2.late ≤ B) : ∀ q ∈ monF ps, q.2.le (ps.length * B) := by
  have key : ∀ (ps : List (Evt × Ln)) (acc : List (Int × Fg)) (A : Int), 0 ≤ A → (∀ q ∈ acc, q.2.le A) → (∀ p ∈ ps, (0 ≤ p.2.value ∧ p.2.value ≤ B) ∧ 0 ≤ p.2.late ∧ p.2.late ≤ B) → ∀ q ∈ ps.foldl (fun acc p => monS acc p.1 p.2) acc, q.2.le (A + ps.length * B) := by
    intro ps
    induction ps with
    | nil => intro acc A hA ha _ q hq; exact Fg.le_mono (ha q hq) (by simp)
    | cons p ps ih =>
      intro acc A hA ha hp q hq
      have hf := ofP_le (e := p.1) (hp p (by simp))
      have hst : ∀ q ∈ monS acc p.1 p.2, q.2.le (A + B) := by
        intro q hq
        unfold monS at hq
        cases hg : acc.getLast? with
        | none =>
          rw [hg] at hq
          rw [List.mem_singleton.1 hq]
          exact Fg.le_mono (Fg.le_plus (fg0_le (Int.le_refl 0)) hf) (by omega)
        | some r =>
          rw [hg] at hq
          have hr := ha r (List.mem_of_getLast? hg)
          simp only at hq
          split at hq
          · rcases List.mem_append.1 hq with hq | hq
            · exact Fg.le_mono (ha q (List.dropLast_subset _ hq)) (by omega)
            · rw [List.mem_singleton.1 hq]; exact Fg.le_plus hr hf
          · rcases List.mem_append.1 hq with hq | hq
            · exact Fg.le_mono (ha q hq) (by omega)
            · rw [List.mem_singleton.1 hq]; exact Fg.le_mono (Fg.le_plus (fg0_le (Int.le_refl 0)) hf) (by omega)
      have := ih _ (A + B) (by omega) hst (fun r hr => hp r (List.mem_cons_of_mem _ hr)) q (by simpa using hq)
      refine Fg.le_mono this ?_
      rw [List.length_cons, show ((ps.length + 1 : Nat) : Int) = (ps.length : Int) + 1 by omega, Int.add_mul, Int.one_mul]
      omega
  intro q hq
  have := key ps [] 0 (Int.le_refl _) (fun q hq => by cases hq) h q hq
  rwa [Int.zero_add] at this
theorem untilF_le (ms : List (Int × Fg)) (m : Int) {B : Int} (hB : 0 ≤ B) (h : ∀ q ∈ ms, q.2.le B) : ∀ k, (untilF (ms.take k) m).le (ms.length * B) := by
  have key : ∀ (l : List (Int × Fg)) (f : Fg) (A : Int), 0 ≤ A → f.le A → (∀ q ∈ l, q.2.le B) → (l.foldl (fun f p => if p.1 ≤ m then f.plus p.2 else f) f).le (A + l.length * B) := by
    intro l
    induction l with
    | nil => intro f A hA hf _; exact Fg.le_mono hf (by simp)
    | cons p l ih =>
      intro f A hA hf hl
      have h1 : (if p.1 ≤ m then f.plus p.2 else f).le (A + B) := by
        split
        · exact Fg.le_plus hf (hl p (by simp))
        · exact Fg.le_mono hf (by omega)
      have := ih _ (A + B) (by omega) h1 (fun q hq => hl q (List.mem_cons_of_mem _ hq))
      rw [List.foldl_cons]
      refine Fg.le_mono this ?_
      rw [List.length_cons, show ((l.length + 1 : Nat) : Int) = (l.length : Int) + 1 by omega, Int.add_mul, Int.one_mul]
      omega
  intro k
  have h1 := key (ms.take k) fg0 0 (Int.le_refl _) (fg0_le (Int.le_refl _)) (fun q hq => h q (List.mem_of_mem_take hq))
  rw [Int.zero_add] at h1
  refine Fg.le_mono h1 (Int.mul_le_mul_of_nonneg_right ?_ hB)
  rw [List.length_take]
  omega
end Go.Proofs.YtackpcohmmlkeaaGreatDoor
end

/- PrN: Months of events, and closes, plainly. -/
section
namespace Go.Proofs.YtackpcohmmlkeaaGreatDoor
open Go.RowKit
set_option linter.unusedVariables false

/-- The months of events. -/
noncomputable def monE (es : List Evt) : List (Int × Fg) := monF ((Stb.isort leE es).zip (runP stk0 (Stb.isort leE es)).1)
theorem monE_le (es : List Evt) (hlen : es.length ≤ 140) (k : Nat) : ∀ q ∈ monF (((Stb.isort leE es).zip (runP stk0 (Stb.isort leE es)).1).take k), q.2.le 2000000000000000 := by
  intro q hq
  have hb := run_bd (Stb.isort leE es) 0 stk0 sane0
  have hle : (Stb.isort leE es).length = es.length := isort_lengthK _ _
  have hl : (((Stb.isort leE es).zip (runP stk0 (Stb.isort leE es)).1).take k).length ≤ 140 := by
    rw [List.length_take, List.length_zip]; omega
  have h1 := monF_le (((Stb.isort leE es).zip (runP stk0 (Stb.isort leE es)).1).take k) (B := 14000000000000) (by omega) (fun p hp => by
    have := hb p.2 (List.of_mem_zip (List.mem_of_mem_take hp)).2
    omega) q hq
  exact Fg.le_mono h1 (by omega)
/-- What all months up to one come to. -/
noncomputable def allF (es : List Evt) (m : Int) : Fg := untilF (monE es) m
theorem monE_len (es : List Evt) : (monE es).length ≤ es.length := by
  have h1 := monF_len ((Stb.isort leE es).zip (runP stk0 (Stb.isort leE es)).1)
  have hle : (Stb.isort leE es).length = es.length := isort_lengthK _ _
  rw [List.length_zip] at h1
  unfold monE
  omega
theorem monE_le' (es : List Evt) (hlen : es.length ≤ 140) : ∀ q ∈ monE es, q.2.le 2000000000000000 := by
  intro q hq
  refine monE_le es hlen ((Stb.isort leE es).zip (runP stk0 (Stb.isort leE es)).1).length q ?_
  rw [List.take_length]
  exact hq
theorem allF_take (es : List Evt) (m : Int) (hlen : es.length ≤ 140) (k : Nat) : (untilF ((monE es).take k) m).le 280000000000000000 := by
  have h := untilF_le (monE es) m (B := 2000000000000000) (by omega) (monE_le' es hlen) k
  have hl := monE_len es
  exact Fg.le_mono h (by omega)
theorem allF_le (es : List Evt) (m : Int) (hlen : es.length ≤ 140) : (allF es m).le 280000000000000000 := by
  have h := allF_take es m hlen (monE es).length
  rwa [List.take_length] at h
end Go.Proofs.YtackpcohmmlkeaaGreatDoor
end
