/- Both sides are alike: plain laws of balances. -/
import Derived.Test.YtefbedineniejaaTr
namespace Go.Proofs.Ytefbedineniejaa
open Go.RowKit
set_option linter.unusedVariables false
namespace Tr
/-- A posting's part of an account's balance. -/
noncomputable def part (p : Lg.P) (x : Lit) : Int := (if x = ky p.d then p.n else 0) - (if x = ky p.c then p.n else 0)
noncomputable def pure : List Lg.P → Lit → Int
  | [], _ => 0
  | p :: L, x => part p x + pure L x
def mag : List Lg.P → Int
  | [] => 0
  | p :: L => (if p.n < 0 then -p.n else p.n) + mag L
theorem mag_nonneg (L : List Lg.P) : 0 ≤ mag L := by
  induction L with
  | nil => exact Int.le_refl _
  | cons p L ih => unfold mag; split <;> omega
theorem mag_app (A B : List Lg.P) : mag (A ++ B) = mag A + mag B := by
  induction A with
  | nil => simp [mag]
  | cons p A ih => simp only [List.cons_append, mag, ih]; omega
theorem pure_app (A B : List Lg.P) (x : Lit) : pure (A ++ B) x = pure A x + pure B x := by
  induction A with
  | nil => simp [pure]
  | cons p A ih => simp only [List.cons_append, pure, ih]; omega
theorem part_le (p : Lg.P) (x : Lit) (h : ¬ p.d = p.c) : part p x ≤ (if p.n < 0 then -p.n else p.n) ∧ -(if p.n < 0 then -p.n else p.n) ≤ part p x := by
  unfold part
  by_cases h1 : x = ky p.d
  · by_cases h2 : x = ky p.c
    · simp only [if_pos h1, if_pos h2]; split <;> omega
    · simp only [if_pos h1, if_neg h2]; split <;> omega
  · by_cases h2 : x = ky p.c
    · simp only [if_neg h1, if_pos h2]; split <;> omega
    · simp only [if_neg h1, if_neg h2]; split <;> omega
theorem pure_le (L : List Lg.P) (x : Lit) (h : ∀ p ∈ L, ¬ p.d = p.c) : pure L x ≤ mag L ∧ -mag L ≤ pure L x := by
  induction L with
  | nil => simp [pure, mag]
  | cons p L ih =>
    have h1 := ih (fun q hq => h q (by simp [hq]))
    have h2 := part_le p x (h p (by simp))
    simp only [pure, mag]
    omega
theorem wrap_in (n : Int) (h0 : -9223372036854775808 ≤ n) (h1 : n ≤ 9223372036854775807) : wrap64 n = n := IntWalk.wrap64_in n ⟨h0, h1⟩
theorem ky_ne {a b : ByteArray} (h : ¬ a = b) : ky a ≠ ky b := fun e => h (ByteArray.ext (Array.ext' (by injection e)))
/-- Within bounds nothing wraps. -/
theorem sum_pure (L : List Lg.P) (hd : ∀ p ∈ L, ¬ p.d = p.c) (hm : mag L ≤ 1000000000000000000) (x : Lit) : sum L x = pure L x := by
  suffices h : ∀ (n : Nat) (L : List Lg.P), L.length = n → (∀ p ∈ L, ¬ p.d = p.c) → mag L ≤ 1000000000000000000 → ∀ x, sum L x = pure L x from h _ L rfl hd hm x
  intro n
  induction n with
  | zero => intro L hl _ _ x; obtain rfl := List.length_eq_zero_iff.1 hl; rfl
  | succ n ih =>
    intro L hl hd hm x
    obtain ⟨A, p, rfl⟩ : ∃ A p, L = A ++ [p] := ⟨L.dropLast, L.getLast (by intro e; subst e; simp at hl), (List.dropLast_concat_getLast _).symm⟩
    have hA : A.length = n := by simpa using hl
    have hdA : ∀ q ∈ A, ¬ q.d = q.c := fun q hq => hd q (by simp [hq])
    have hp := hd p (by simp)
    rw [mag_app] at hm
    have hmp : mag [p] = (if p.n < 0 then -p.n else p.n) := by simp [mag]
    have hmA : mag A ≤ 1000000000000000000 := by rw [hmp] at hm; split at hm <;> omega
    have hg := ih A hA hdA hmA
    have hb := fun y => pure_le A y hdA
    rw [sum_snoc, pure_app]
    have hpp : pure [p] x = part p x := by simp [pure]
    rw [hpp]
    unfold step
    have n1 : ky p.c ≠ ky p.d := fun e => ky_ne hp e.symm
    have w1 : wrap64 (sum A (ky p.d) + p.n) = sum A (ky p.d) + p.n := by
      rw [hg]; have := hb (ky p.d); rw [hmp] at hm; refine wrap_in _ ?_ ?_ <;> (split at hm <;> omega)
    rw [w1, updI_other _ _ n1]
    have w2 : wrap64 (sum A (ky p.c) - p.n) = sum A (ky p.c) - p.n := by
      rw [hg]; have := hb (ky p.c); rw [hmp] at hm; refine wrap_in _ ?_ ?_ <;> (split at hm <;> omega)
    rw [w2]
    unfold part
    by_cases h1 : x = ky p.c
    · subst h1
      rw [updI_same, if_neg n1, if_pos rfl, hg]; omega
    · rw [updI_other _ _ h1, if_neg h1]
      by_cases h2 : x = ky p.d
      · subst h2
        rw [updI_same, if_pos rfl, hg]; omega
      · rw [updI_other _ _ h2, if_neg h2, hg]; omega

/-- The sum of a function over keys. -/
def tot (g : Lit → Int) : List Lit → Int
  | [] => 0
  | x :: r => g x + tot g r
theorem tot_add (g h : Lit → Int) (ks : List Lit) : tot (fun x => g x + h x) ks = tot g ks + tot h ks := by
  induction ks with
  | nil => rfl
  | cons x r ih => simp only [tot, ih]; omega
theorem tot_sub (g h : Lit → Int) (ks : List Lit) : tot (fun x => g x - h x) ks = tot g ks - tot h ks := by
  induction ks with
  | nil => rfl
  | cons x r ih => simp only [tot, ih]; omega
theorem tot_zero (ks : List Lit) : tot (fun _ => 0) ks = 0 := by
  induction ks with
  | nil => rfl
  | cons x r ih => simp only [tot, ih]; omega
theorem tot_one (k : Lit) (n : Int) (ks : List Lit) (hnd : ks.Nodup) : tot (fun x => if x = k then n else 0) ks = if k ∈ ks then n else 0 := by
  induction ks with
  | nil => simp [tot]
  | cons x r ih =>
    have h := List.nodup_cons.1 hnd
    simp only [tot, ih h.2]
    by_cases e : x = k
    · subst e
      rw [if_pos rfl, if_neg h.1, if_pos (by simp)]; omega
    · rw [if_neg e]
      by_cases hm : k ∈ r
      · rw [if_pos hm, if_pos (by simp [hm])]; omega
      · rw [if_neg hm, if_neg (by rw [List.mem_cons]; rintro (h' | h'); exact e h'.symm; exact hm h')]; omega
theorem tot_pure (L : List Lg.P) (ks : List Lit) (hnd : ks.Nodup) (hk : ∀ p ∈ L, ky p.d ∈ ks ∧ ky p.c ∈ ks) : tot (pure L) ks = 0 := by
  induction L with
  | nil => exact tot_zero ks
  | cons p L ih =>
    have h1 := ih (fun q hq => hk q (by simp [hq]))
    have h2 := hk p (by simp)
    have e : pure (p :: L) = fun x => part p x + pure L x := by funext x; rfl
    have e2 : part p = fun x => (if x = ky p.d then p.n else 0) - (if x = ky p.c then p.n else 0) := rfl
    rw [e, tot_add, h1, e2, tot_sub, tot_one _ _ _ hnd, tot_one _ _ _ hnd, if_pos h2.1, if_pos h2.2]; omega
theorem keyS_mem (ks : List Lit) (p : Lg.P) (x : Lit) : x ∈ keyS ks p ↔ x ∈ ks ∨ x = ky p.d ∨ x = ky p.c := by
  unfold keyS; rw [mem_addK, mem_addK]; exact or_assoc
theorem keys_mem (L : List Lg.P) (x : Lit) : x ∈ keys L ↔ ∃ p ∈ L, x = ky p.d ∨ x = ky p.c := by
  suffices h : ∀ (L : List Lg.P) (ks : List Lit), x ∈ L.foldl keyS ks ↔ x ∈ ks ∨ ∃ p ∈ L, x = ky p.d ∨ x = ky p.c by simpa [keys] using h L []
  intro L
  induction L with
  | nil => intro ks; simp
  | cons p L ih =>
    intro ks
    rw [List.foldl_cons, ih, keyS_mem]
    simp only [List.mem_cons, exists_eq_or_imp]
    exact or_assoc
theorem keys_nodup (L : List Lg.P) : (keys L).Nodup := by
  suffices h : ∀ (L : List Lg.P) (ks : List Lit), ks.Nodup → (L.foldl keyS ks).Nodup from h L [] List.nodup_nil
  intro L
  induction L with
  | nil => intro ks h; exact h
  | cons p L ih => intro ks h; exact ih _ (nodup_addK (nodup_addK h _) _)
theorem pure_zero (L : List Lg.P) (x : Lit) (h : x ∉ keys L) : pure L x = 0 := by
  rw [keys_mem] at h
  induction L with
  | nil => rfl
  | cons p L ih =>
    have h1 := ih (fun ⟨q, hq, e⟩ => h ⟨q, by simp [hq], e⟩)
    simp only [pure, h1, part]
    rw [if_neg (fun e => h ⟨p, by simp, Or.inl e⟩), if_neg (fun e => h ⟨p, by simp, Or.inr e⟩)]; rfl
theorem pure_one (d c : ByteArray) (n : Int) (x : Lit) : pure (Lg.one d c n) x = (if x = ky d then n else 0) - (if x = ky c then n else 0) := by
  unfold Lg.one
  split
  · simp [pure, part]
  · split
    · simp only [pure, part]
      split <;> split <;> omega
    · have : n = 0 := by omega
      subst this
      simp [pure]
/-- What figures come to. -/
theorem pure_figs (i o l g t : Int) (x : Lit) : pure (Lg.figs i o l g t) x =
    ((if x = ky Lg.stock then i else 0) - (if x = ky Lg.supply then i else 0)) + ((if x = ky Lg.sold then o else 0) - (if x = ky Lg.stock then o else 0)) + ((if x = ky Lg.loss then l else 0) - (if x = ky Lg.stock then l else 0)) +
    ((if x = ky Lg.stock then g else 0) - (if x = ky Lg.gain then g else 0)) + ((if x = ky Lg.late then t else 0) - (if x = ky Lg.supply then t else 0)) := by
  simp only [Lg.figs, pure_app, pure_one]
theorem ite_add (c : Prop) [Decidable c] (a b : Int) : (if c then a + b else 0) = (if c then a else 0) + (if c then b else 0) := by split <;> simp
theorem ite_neg (c : Prop) [Decidable c] (a : Int) : (if c then 0 - a else 0) = - (if c then a else 0) := by split <;> simp
theorem figs_add (i o l g t i' o' l' g' t' : Int) (x : Lit) : pure (Lg.figs i o l g t ++ Lg.figs i' o' l' g' t') x = pure (Lg.figs (i + i') (o + o') (l + l') (g + g') (t + t')) x := by
  rw [pure_app, pure_figs, pure_figs, pure_figs]
  simp only [ite_add]
  omega
theorem figs_turn (i o l g t : Int) (x : Lit) : pure (Lg.figs i o l g t ++ Lg.figs (0 - i) (0 - o) (0 - l) (0 - g) (0 - t)) x = 0 := by
  rw [pure_app, pure_figs, pure_figs]
  simp only [ite_neg]
  omega
theorem one_mag (d c : ByteArray) (n b : Int) (h0 : -b ≤ n) (h1 : n ≤ b) : mag (Lg.one d c n) ≤ b := by
  unfold Lg.one
  split
  · simp only [mag]; split <;> omega
  · split
    · simp only [mag]; split <;> omega
    · simp only [mag]; omega
theorem figs_mag (i o l g t b : Int) (h : (-b ≤ i ∧ i ≤ b) ∧ (-b ≤ o ∧ o ≤ b) ∧ (-b ≤ l ∧ l ≤ b) ∧ (-b ≤ g ∧ g ≤ b) ∧ (-b ≤ t ∧ t ≤ b)) : mag (Lg.figs i o l g t) ≤ 5 * b := by
  have h1 := one_mag Lg.stock Lg.supply i b h.1.1 h.1.2
  have h2 := one_mag Lg.sold Lg.stock o b h.2.1.1 h.2.1.2
  have h3 := one_mag Lg.loss Lg.stock l b h.2.2.1.1 h.2.2.1.2
  have h4 := one_mag Lg.stock Lg.gain g b h.2.2.2.1.1 h.2.2.2.1.2
  have h5 := one_mag Lg.late Lg.supply t b h.2.2.2.2.1 h.2.2.2.2.2
  simp only [Lg.figs, mag_app]
  omega
theorem one_apart {d c : ByteArray} (h : ¬ d = c) (n : Int) : ∀ p ∈ Lg.one d c n, ¬ p.d = p.c ∧ 0 < p.n := by
  intro p hp
  unfold Lg.one at hp
  split at hp
  · simp at hp; subst hp; exact ⟨h, by assumption⟩
  · split at hp
    · simp at hp; subst hp; exact ⟨fun e => h e.symm, by show 0 < -n; omega⟩
    · simp at hp
theorem figs_apart (i o l g t : Int) : ∀ p ∈ Lg.figs i o l g t, ¬ p.d = p.c ∧ 0 < p.n := by
  intro p hp
  simp only [Lg.figs, List.mem_append] at hp
  rcases hp with (((hp | hp) | hp) | hp) | hp
  · exact one_apart (by decide) _ p hp
  · exact one_apart (by decide) _ p hp
  · exact one_apart (by decide) _ p hp
  · exact one_apart (by decide) _ p hp
  · exact one_apart (by decide) _ p hp
end Tr
end Go.Proofs.Ytefbedineniejaa
