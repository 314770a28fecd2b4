/- slices' stable sort, whole: what comes out is the row sorted stably. -/
import Derived.Test.YtefbedineniejaaDoorStL
namespace Go.Proofs.YtefbedineniejaaDoor
open Go.Sort
namespace Stb
variable {α : Type} [Inhabited α] {lt : α → α → Bool}
theorem insInner_law (R : Trans (leOf lt)) (a : Nat) : ∀ (j : Nat) (d : Array α), a ≤ j → j < d.size → Sorted (leOf lt) (seg d a j) →
    seg (insInner lt a j d) a (j + 1) = mrg (leOf lt) (seg d a j) [d[j]!] ∧ (∀ t, t < a ∨ j < t → (insInner lt a j d)[t]! = d[t]!) ∧ (insInner lt a j d).size = d.size := by
  intro j
  induction j with
  | zero =>
    intro d h1 h2 h3
    have : a = 0 := by omega
    subst this
    exact ⟨by rw [insInner, seg_nil d 0 0 (by omega), nil_mrg, seg_one d 0 1 rfl], fun _ _ => by rw [insInner], by rw [insInner]⟩
  | succ j ih =>
    intro d h1 h2 h3
    rw [insInner]
    by_cases c : (decide (j + 1 > a) && lt d[j + 1]! d[j]!) = true
    · rw [if_pos c]
      have c' : j + 1 > a ∧ lt d[j + 1]! d[j]! = true := by simpa using c
      have g := swp_get d (show j + 1 < d.size by omega) (show j < d.size by omega)
      have e1 : seg (swp d (j + 1) j) a j = seg d a j := seg_eq _ _ _ _ _ _ rfl fun t ht => by rw [g, if_neg (by omega), if_neg (by omega)]
      obtain ⟨q1, q2, q3⟩ := ih (swp d (j + 1) j) (by omega) (by rw [swp_size]; omega) (by rw [e1]; exact sorted_part h3 (Nat.le_refl a) (by omega) (by omega))
      refine ⟨?_, fun t ht => by rw [q2 t (by omega), g, if_neg (by omega), if_neg (by omega)], by rw [q3, swp_size]⟩
      rw [seg_split _ a (j + 1) (j + 1 + 1) (by omega) (by omega), q1, e1, seg_one _ (j + 1) (j + 1 + 1) rfl, q2 (j + 1) (by omega), g, g, if_pos rfl, if_neg (by omega), if_pos rfl]
      have := mrg_split (leOf lt) (seg d a j) [d[j]!] [d[j + 1]!] [] (by simp) (fun y hy x hx => by
        rw [List.mem_singleton.1 hy, List.mem_singleton.1 hx, leOf, c'.2]; rfl)
      rw [mrg_nil, List.append_nil] at this
      rw [seg_split d a j (j + 1) (by omega) (by omega), seg_one d j (j + 1) rfl, this]
    · rw [if_neg c]
      refine ⟨?_, fun _ _ => rfl, rfl⟩
      rw [seg_split d a (j + 1) (j + 1 + 1) h1 (by omega), seg_one d (j + 1) (j + 1 + 1) rfl]
      rw [mrg_one (seg d a (j + 1)) d[j + 1]! (seg d a (j + 1)) [] (by simp) (fun u hu => by
        obtain ⟨t, t1, t2, rfl⟩ := seg_mem hu
        have hl : leOf lt d[j]! d[j + 1]! = true := by
          have : lt d[j + 1]! d[j]! = false := by
            cases hq : lt d[j + 1]! d[j]! with
            | false => rfl
            | true => exact absurd (by rw [hq]; simp; omega) c
          rw [leOf, this]; rfl
        by_cases e : t = j
        · rw [e]; exact hl
        · exact R _ _ _ (seg_at h3 t j t1 (by omega) (by omega)) hl) (by simp)]
theorem insOuter_law (T : Total (leOf lt)) (R : Trans (leOf lt)) (d0 : Array α) (a b : Nat) (hb : b ≤ d0.size) : ∀ (i : Nat) (d : Array α), a < i → i ≤ b → seg d a i = isort (leOf lt) (seg d0 a i) → (∀ t, t < a ∨ i ≤ t → d[t]! = d0[t]!) → d.size = d0.size →
    seg (insOuter lt a b i d) a b = isort (leOf lt) (seg d0 a b) ∧ (∀ t, t < a ∨ b ≤ t → (insOuter lt a b i d)[t]! = d0[t]!) ∧ (insOuter lt a b i d).size = d0.size := by
  intro i
  induction h : b - i generalizing i with
  | zero =>
    intro d h1 h2 h3 h4 h5
    have : i = b := by omega
    subst this
    rw [insOuter, if_neg (by omega)]
    exact ⟨h3, h4, h5⟩
  | succ n ih =>
    intro d h1 h2 h3 h4 h5
    rw [insOuter, if_pos (by omega)]
    obtain ⟨q1, q2, q3⟩ := insInner_law R a i d (by omega) (by omega) (by rw [h3]; exact isort_sorted T R _)
    refine ih (i + 1) (by omega) _ (by omega) (by omega) ?_ (fun t ht => by rw [q2 t (by omega), h4 t (by omega)]) (by rw [q3, h5])
    rw [q1, h3, h4 i (by omega), seg_split d0 a i (i + 1) (by omega) (by omega), seg_one d0 i (i + 1) rfl, ← mrg_isort T R]
    rfl
theorem insertionSort_law (T : Total (leOf lt)) (R : Trans (leOf lt)) (d : Array α) (a b : Nat) (hab : a ≤ b) (hb : b ≤ d.size) :
    seg (insertionSort lt d a b) a b = isort (leOf lt) (seg d a b) ∧ (∀ t, t < a ∨ b ≤ t → (insertionSort lt d a b)[t]! = d[t]!) ∧ (insertionSort lt d a b).size = d.size := by
  unfold insertionSort
  by_cases c : a < b
  · exact insOuter_law T R d a b hb (a + 1) d (by omega) (by omega) (by rw [seg_one d a (a + 1) rfl]; rfl) (fun _ _ => rfl) rfl
  · rw [insOuter, if_neg (by omega), seg_nil d a b (by omega)]
    exact ⟨rfl, fun _ _ => rfl, rfl⟩
/-- Every block of z is sorted by itself. -/
def Bl (lt : α → α → Bool) (z n : Nat) (d d0 : Array α) (p : Nat → Prop) : Prop := ∀ c, z ∣ c → p c → seg d c (min n (c + z)) = isort (leOf lt) (seg d0 c (min n (c + z)))
theorem blk_law (T : Total (leOf lt)) (R : Trans (leOf lt)) (d0 : Array α) (n : Nat) (hn : n ≤ d0.size) : ∀ (k a : Nat) (d : Array α), n - a ≤ k → 20 ∣ a → a ≤ n → d.size = d0.size → Bl lt 20 n d d0 (· < a) → (∀ t, a ≤ t → d[t]! = d0[t]!) →
    Bl lt 20 n (blk lt d a (a + 20) n) d0 (fun _ => True) ∧ (blk lt d a (a + 20) n).size = d0.size ∧ ((∀ t, n ≤ t → d[t]! = d0[t]!) → ∀ t, n ≤ t → (blk lt d a (a + 20) n)[t]! = d0[t]!) := by
  intro k
  induction k with
  | zero =>
    intro a d h1 h2 h3 h4 h5 h6
    rw [blk, if_neg (by omega)]
    obtain ⟨q1, q2, q3⟩ := insertionSort_law T R d a n h3 (by omega)
    refine ⟨fun c hc _ => ?_, by rw [q3, h4], fun ht t h => by rw [q2 t (by omega), ht t h]⟩
    by_cases e : c < a
    · rw [← h5 c hc e]
      exact seg_eq _ _ _ _ _ _ rfl fun t ht => q2 _ (by omega)
    · rw [seg_nil _ c _ (by omega), seg_nil _ c _ (by omega)]; rfl
  | succ k ih =>
    intro a d h1 h2 h3 h4 h5 h6
    rw [blk]
    by_cases hc : a + 20 ≤ n
    · rw [if_pos hc]
      obtain ⟨q1, q2, q3⟩ := insertionSort_law T R d a (a + 20) (by omega) (by omega)
      have := ih (a + 20) (insertionSort lt d a (a + 20)) (by omega) (by omega) hc (by rw [q3, h4]) (fun c hcd hca => by
        by_cases e : c < a
        · rw [← h5 c hcd e]
          exact seg_eq _ _ _ _ _ _ rfl fun t ht => q2 _ (by omega)
        · have : c = a := by omega
          subst this
          rw [show min n (c + 20) = c + 20 by omega, q1]
          congr 1
          exact seg_eq _ _ _ _ _ _ rfl fun t ht => h6 _ (by omega)) (fun t ht => by rw [q2 t (by omega), h6 t (by omega)])
      exact ⟨this.1, this.2.1, fun ht => this.2.2 fun t h => by rw [q2 t (by omega), ht t h]⟩
    · rw [if_neg hc]
      obtain ⟨q1, q2, q3⟩ := insertionSort_law T R d a n h3 (by omega)
      refine ⟨fun c hcd _ => ?_, by rw [q3, h4], fun ht t h => by rw [q2 t (by omega), ht t h]⟩
      by_cases e : c < a
      · rw [← h5 c hcd e]
        exact seg_eq _ _ _ _ _ _ rfl fun t ht => q2 _ (by omega)
      · by_cases e2 : c = a
        · subst e2
          rw [show min n (c + 20) = n by omega, q1]
          congr 1
          exact seg_eq _ _ _ _ _ _ rfl fun t ht => h6 _ (by omega)
        · rw [seg_nil _ c _ (by omega), seg_nil _ c _ (by omega)]; rfl
theorem mloop_law (T : Total (leOf lt)) (R : Trans (leOf lt)) (d0 : Array α) (n z : Nat) (hn : n ≤ d0.size) (hz : 0 < z) : ∀ (k a : Nat) (d : Array α), n - a ≤ k → 2 * z ∣ a → a ≤ n → d.size = d0.size → Bl lt (2 * z) n d d0 (· < a) → Bl lt z n d d0 (a ≤ ·) →
    Bl lt (2 * z) n (mloop lt z d a (a + 2 * z) n) d0 (fun _ => True) ∧ (mloop lt z d a (a + 2 * z) n).size = d0.size := by
  have one : ∀ (a e : Nat) (d : Array α), 2 * z ∣ a → a + z < e → e = min n (a + 2 * z) → d.size = d0.size → Bl lt (2 * z) n d d0 (· < a) → Bl lt z n d d0 (a ≤ ·) →
      seg (sym lt (e - a) d a (a + z) e) a e = isort (leOf lt) (seg d0 a e) ∧ (∀ t, t < a ∨ e ≤ t → (sym lt (e - a) d a (a + z) e)[t]! = d[t]!) ∧ (sym lt (e - a) d a (a + z) e).size = d0.size := by
    intro a e d h1 h2 h3 h4 h5 h6
    have za : z ∣ a := Nat.dvd_trans ⟨2, by omega⟩ h1
    have u1 := h6 a za (Nat.le_refl a)
    have u2 := h6 (a + z) (Nat.dvd_add za (Nat.dvd_refl z)) (by show a ≤ a + z; omega)
    rw [show min n (a + z) = a + z by omega] at u1
    rw [show min n (a + z + z) = e by omega] at u2
    have := sym_law R (e - a) d a (a + z) e (by omega) h2 (by omega) (Nat.le_refl _) (by rw [u1]; exact isort_sorted T R _) (by rw [u2]; exact isort_sorted T R _)
    rw [u1, u2, mrg_isort T R, ← seg_split d0 a (a + z) e (by omega) (by omega)] at this
    exact ⟨this.1, this.2, by rw [sym_size, h4]⟩
  intro k
  induction k with
  | zero =>
    intro a d h1 h2 h3 h4 h5 h6
    rw [mloop, dif_neg (by omega), if_neg (by omega)]
    refine ⟨fun c hc _ => ?_, h4⟩
    by_cases e : c < a
    · exact h5 c hc e
    · rw [seg_nil _ c _ (by omega), seg_nil _ c _ (by omega)]; rfl
  | succ k ih =>
    intro a d h1 h2 h3 h4 h5 h6
    rw [mloop]
    by_cases hc : a + 2 * z ≤ n ∧ 0 < z
    · rw [dif_pos hc]
      obtain ⟨q1, q2, q3⟩ := one a (a + 2 * z) d h2 (by omega) (by omega) h4 h5 h6
      refine ih (a + 2 * z) _ (by omega) (Nat.dvd_add h2 (Nat.dvd_refl _)) hc.1 q3 (fun c hcd hca => ?_) (fun c hcd hca => ?_)
      · by_cases e : c < a
        · rw [← h5 c hcd e]
          exact seg_eq _ _ _ _ _ _ rfl fun t ht => q2 _ (by
            obtain ⟨x, rfl⟩ := hcd; obtain ⟨y, rfl⟩ := h2
            have : 2 * z * x + 2 * z ≤ 2 * z * y := by
              have hxy : x < y := Nat.lt_of_mul_lt_mul_left e
              calc 2 * z * x + 2 * z = 2 * z * (x + 1) := by rw [Nat.mul_add, Nat.mul_one]
                _ ≤ 2 * z * y := Nat.mul_le_mul_left _ hxy
            omega)
        · have : c = a := by
            obtain ⟨x, rfl⟩ := hcd; obtain ⟨y, rfl⟩ := h2
            have h' : ¬ 2 * z * x < 2 * z * y := e
            have hxy : x < y + 1 := Nat.lt_of_mul_lt_mul_left (show 2 * z * x < 2 * z * (y + 1) by rw [Nat.mul_add, Nat.mul_one]; exact hca)
            have hyx : y ≤ x := Nat.le_of_not_lt fun h => h' (Nat.mul_lt_mul_of_pos_left h (by omega))
            rw [show x = y by omega]
          subst this
          rw [show min n (c + 2 * z) = c + 2 * z by omega, q1]
      · rw [← h6 c hcd (by show a ≤ c; have : a + 2 * z ≤ c := hca; omega)]
        exact seg_eq _ _ _ _ _ _ rfl fun t ht => q2 _ (by have : a + 2 * z ≤ c := hca; omega)
    · rw [dif_neg hc]
      have hn2 : n < a + 2 * z := by omega
      have far : ∀ c, 2 * z ∣ c → ¬ c < a → c ≠ a → n ≤ c := fun c hcd h1 h3 => by
        obtain ⟨x, rfl⟩ := hcd; obtain ⟨y, rfl⟩ := h2
        have hyx : y < x := by
          rcases Nat.lt_trichotomy x y with h | h | h
          · exact absurd (Nat.mul_lt_mul_of_pos_left h (by omega)) h1
          · exact absurd (by rw [h]) h3
          · exact h
        have := Nat.mul_le_mul_left (2 * z) (show y + 1 ≤ x from hyx)
        rw [Nat.mul_add, Nat.mul_one] at this
        omega
      have near : ∀ c, 2 * z ∣ c → c < a → c + 2 * z ≤ a := fun c hcd h => by
        obtain ⟨x, rfl⟩ := hcd; obtain ⟨y, rfl⟩ := h2
        have hxy : x < y := Nat.lt_of_mul_lt_mul_left h
        have := Nat.mul_le_mul_left (2 * z) (show x + 1 ≤ y from hxy)
        rw [Nat.mul_add, Nat.mul_one] at this
        exact this
      by_cases hc2 : a + z < n
      · rw [if_pos hc2]
        obtain ⟨q1, q2, q3⟩ := one a n d h2 hc2 (by omega) h4 h5 h6
        refine ⟨fun c hcd _ => ?_, q3⟩
        by_cases e : c < a
        · rw [← h5 c hcd e]
          exact seg_eq _ _ _ _ _ _ rfl fun t ht => q2 _ (by have := near c hcd e; omega)
        · by_cases e2 : c = a
          · subst e2
            rw [show min n (c + 2 * z) = n by omega, q1]
          · have := far c hcd e e2
            rw [seg_nil _ c _ (by omega), seg_nil _ c _ (by omega)]; rfl
      · rw [if_neg hc2]
        refine ⟨fun c hcd _ => ?_, h4⟩
        by_cases e : c < a
        · exact h5 c hcd e
        · by_cases e2 : c = a
          · subst e2
            have := h6 c (Nat.dvd_trans ⟨2, by omega⟩ hcd) (Nat.le_refl c)
            rw [show min n (c + z) = n by omega] at this
            rw [show min n (c + 2 * z) = n by omega, this]
          · have := far c hcd e e2
            rw [seg_nil _ c _ (by omega), seg_nil _ c _ (by omega)]; rfl
theorem outer_law (T : Total (leOf lt)) (R : Trans (leOf lt)) (d0 : Array α) (n : Nat) (hn : n ≤ d0.size) : ∀ (k z : Nat) (d : Array α), n - z ≤ k → 0 < z → d.size = d0.size → Bl lt z n d d0 (fun _ => True) →
    seg (outer lt z d n) 0 n = isort (leOf lt) (seg d0 0 n) ∧ (outer lt z d n).size = d0.size := by
  intro k
  induction k with
  | zero =>
    intro z d h1 h2 h3 h4
    rw [outer, dif_neg (by omega)]
    have := h4 0 (Nat.dvd_zero z) trivial
    rw [show min n (0 + z) = n by omega] at this
    exact ⟨this, h3⟩
  | succ k ih =>
    intro z d h1 h2 h3 h4
    rw [outer]
    by_cases c : z < n ∧ 0 < z
    · rw [dif_pos c]
      have := mloop_law T R d0 n z hn h2 n 0 d (by omega) (Nat.dvd_zero _) (by omega) h3 (fun c _ h => absurd h (Nat.not_lt_zero c)) (fun c hcd _ => h4 c hcd trivial)
      rw [Nat.zero_add] at this
      exact ih (2 * z) _ (by omega) (by omega) this.2 this.1
    · rw [dif_neg c]
      have := h4 0 (Nat.dvd_zero z) trivial
      rw [show min n (0 + z) = n by omega] at this
      exact ⟨this, h3⟩
/-- The whole. -/
theorem stab_law (T : Total (leOf lt)) (R : Trans (leOf lt)) (d : Array α) : (stab lt d d.size).toList = isort (leOf lt) d.toList := by
  have h1 := blk_law T R d d.size (Nat.le_refl _) d.size 0 d (by omega) (by omega) (by omega) rfl (fun c _ h => absurd h (Nat.not_lt_zero c)) (fun _ _ => rfl)
  rw [Nat.zero_add] at h1
  have h2 := outer_law T R d d.size (Nat.le_refl _) d.size 20 (blk lt d 0 20 d.size) (by omega) (by omega) h1.2.1 h1.1
  have h3 := h2.1
  rw [seg_full] at h3
  unfold stab
  rw [← h3, ← seg_full]
  rw [h2.2]
theorem stab_size (T : Total (leOf lt)) (R : Trans (leOf lt)) (d : Array α) : (stab lt d d.size).size = d.size := by
  have h1 := blk_law T R d d.size (Nat.le_refl _) d.size 0 d (by omega) (by omega) (by omega) rfl (fun c _ h => absurd h (Nat.not_lt_zero c)) (fun _ _ => rfl)
  rw [Nat.zero_add] at h1
  exact (outer_law T R d d.size (Nat.le_refl _) d.size 20 (blk lt d 0 20 d.size) (by omega) (by omega) h1.2.1 h1.1).2
end Stb
end Go.Proofs.YtefbedineniejaaDoor
