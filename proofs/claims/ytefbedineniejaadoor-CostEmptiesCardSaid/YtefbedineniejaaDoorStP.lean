/- The stable sort's own steps, as plain functions on arrays, and what each comes to: exchanging ranges, turning, the binary search, the runs of exchanges, symMerge, the whole. -/
import Derived.Sort.LotA
import Derived.Test.YtefbedineniejaaDoorJoined6
namespace Go.Proofs.YtefbedineniejaaDoor
open Go.Sort
namespace Stb
variable {α : Type} [Inhabited α]
/-- Exchange n from a on with n from b on, from the i-th on. -/
def swr (d : Array α) (a b n i : Nat) : Array α := if i < n then swr (swp d (a + i) (b + i)) a b n (i + 1) else d
termination_by n - i
def rot (m i j : Nat) (d : Array α) : Array α :=
  if _h : i = j ∨ i = 0 ∨ j = 0 then swr d (m - i) m i 0
  else if _h2 : j < i then rot m (i - j) j (swr d (m - i) m j 0)
  else rot m i (j - i) (swr d (m - i) (m + j - i) i 0)
termination_by i + j
decreasing_by all_goals omega
def bs (p : Nat → Bool) (i j : Nat) : Nat := if i < j then (if p ((i + j) / 2) then bs p ((i + j) / 2 + 1) j else bs p i ((i + j) / 2)) else i
termination_by j - i
decreasing_by all_goals omega
def upRun (d : Array α) (k e : Nat) : Array α := if k < e then upRun (swp d k (k + 1)) (k + 1) e else d
termination_by e - k
def downRun (d : Array α) (k i : Nat) : Array α := if i < k then downRun (swp d k (k - 1)) (k - 1) i else d
termination_by k
decreasing_by omega
variable (lt : α → α → Bool)
def symS (d : Array α) (a m b : Nat) : Nat :=
  bs (fun c => !lt d[(a + b) / 2 + m - 1 - c]! d[c]!) (if (a + b) / 2 < m then (a + b) / 2 + m - b else a) (if (a + b) / 2 < m then (a + b) / 2 else m)
def symR (d : Array α) (s m e : Nat) : Array α := if s < m ∧ m < e then rot m (m - s) (e - m) d else d
/-- symMerge's last steps, with F for the merges of the halves. -/
def symH (F : Array α → Nat → Nat → Nat → Array α) (d : Array α) (a m b : Nat) : Array α := if a < m ∧ m < b then F d a m b else d
def symG (F : Array α → Nat → Nat → Nat → Array α) (d : Array α) (a m b s e mid : Nat) : Array α := symH F (symH F (symR d s m e) a s mid) mid e b
def sym : Nat → Array α → Nat → Nat → Nat → Array α
  | 0, d, _, _, _ => d
  | f + 1, d, a, m, b =>
    if m - a = 1 then upRun d a (bs (fun h => lt d[h]! d[a]!) m b - 1)
    else if b - m = 1 then downRun d m (bs (fun h => !lt d[m]! d[h]!) a m)
    else
      let mid := (a + b) / 2
      let s := symS lt d a m b
      let e := mid + m - s
      let d1 := symR d s m e
      let d2 := if a < s ∧ s < mid then sym f d1 a s mid else d1
      if mid < e ∧ e < b then sym f d2 mid e b else d2
def blk (d : Array α) (a b n : Nat) : Array α := if b ≤ n then blk (insertionSort lt d a b) b (b + 20) n else insertionSort lt d a n
termination_by n + 1 - b
def mloop (z : Nat) (d : Array α) (a b n : Nat) : Array α :=
  if h : b ≤ n ∧ 0 < z then mloop z (sym lt (b - a) d a (a + z) b) b (b + 2 * z) n else if a + z < n then sym lt (n - a) d a (a + z) n else d
termination_by n + 1 - b
decreasing_by omega
def outer (z : Nat) (d : Array α) (n : Nat) : Array α := if h : z < n ∧ 0 < z then outer (2 * z) (mloop lt z d 0 (2 * z) n) n else d
termination_by n - z
decreasing_by omega
def stab (d : Array α) (n : Nat) : Array α := outer lt 20 (blk lt d 0 20 n) n
/-! Sizes. -/
theorem swr_size (n : Nat) : ∀ (i : Nat) (d : Array α) (a b : Nat), (swr d a b n i).size = d.size := by
  intro i
  induction h : n - i generalizing i with
  | zero => intro d a b; rw [swr, if_neg (by omega)]
  | succ k ih => intro d a b; rw [swr, if_pos (by omega), ih (i + 1) (by omega), swp_size]
theorem rot_size (s : Nat) : ∀ (m i j : Nat) (d : Array α), i + j ≤ s → (rot m i j d).size = d.size := by
  induction s with
  | zero => intro m i j d h; rw [rot, dif_pos (by omega), swr_size]
  | succ s ih =>
    intro m i j d h
    rw [rot]
    split
    · rw [swr_size]
    · split
      · rw [ih _ _ _ _ (by omega), swr_size]
      · rw [ih _ _ _ _ (by omega), swr_size]
theorem upRun_size (e : Nat) : ∀ (k : Nat) (d : Array α), (upRun d k e).size = d.size := by
  intro k
  induction h : e - k generalizing k with
  | zero => intro d; rw [upRun, if_neg (by omega)]
  | succ n ih => intro d; rw [upRun, if_pos (by omega), ih (k + 1) (by omega), swp_size]
theorem downRun_size (i : Nat) : ∀ (k : Nat) (d : Array α), (downRun d k i).size = d.size := by
  intro k
  induction k with
  | zero => intro d; rw [downRun, if_neg (by omega)]
  | succ n ih =>
    intro d; rw [downRun]
    split
    · rw [Nat.add_sub_cancel, ih, swp_size]
    · rfl
theorem symR_size (d : Array α) (s m e : Nat) : (symR d s m e).size = d.size := by
  unfold symR; split
  · exact rot_size _ _ _ _ _ (Nat.le_refl _)
  · rfl
theorem sym_size : ∀ (f : Nat) (d : Array α) (a m b : Nat), (sym lt f d a m b).size = d.size := by
  intro f
  induction f with
  | zero => intro d a m b; rfl
  | succ f ih =>
    intro d a m b
    unfold sym
    split
    · exact upRun_size _ _ _
    · split
      · exact downRun_size _ _ _
      · simp only []
        split <;> (try rw [ih]) <;> (split <;> (try rw [ih]) <;> exact symR_size _ _ _ _)
theorem bs_le (p : Nat → Bool) : ∀ (i j : Nat), i ≤ j → i ≤ bs p i j ∧ bs p i j ≤ j := by
  intro i j
  induction h : j - i using Nat.strongRecOn generalizing i j with
  | ind n ih =>
    intro hij
    rw [bs]
    split
    · split
      · have := ih (j - ((i + j) / 2 + 1)) (by omega) ((i + j) / 2 + 1) j rfl (by omega); omega
      · have := ih ((i + j) / 2 - i) (by omega) i ((i + j) / 2) rfl (by omega); omega
    · omega
theorem symS_bd (d : Array α) (a m b : Nat) (h1 : a < m) (h2 : m < b) : a ≤ symS lt d a m b ∧ symS lt d a m b ≤ m ∧ symS lt d a m b ≤ (a + b) / 2 ∧ (a + b) / 2 + m - b ≤ symS lt d a m b := by
  unfold symS
  split
  · have := bs_le (fun c => !lt d[(a + b) / 2 + m - 1 - c]! d[c]!) ((a + b) / 2 + m - b) ((a + b) / 2) (by omega); omega
  · have := bs_le (fun c => !lt d[(a + b) / 2 + m - 1 - c]! d[c]!) a m (by omega); omega
/-! Rows, element by element. -/
theorem swr_get (n : Nat) : ∀ (i : Nat) (d : Array α) (a b : Nat), a + n ≤ b → b + n ≤ d.size → ∀ t, (swr d a b n i)[t]! = if a + i ≤ t ∧ t < a + n then d[t + (b - a)]! else if b + i ≤ t ∧ t < b + n then d[t - (b - a)]! else d[t]! := by
  intro i
  induction h : n - i generalizing i with
  | zero =>
    intro d a b h1 h2 t
    rw [swr, if_neg (by omega), if_neg (by omega), if_neg (by omega)]
  | succ k ih =>
    intro d a b h1 h2 t
    rw [swr, if_pos (by omega), ih (i + 1) (by omega) _ a b h1 (by rw [swp_size]; exact h2)]
    simp only [swp_get d (show a + i < d.size by omega) (show b + i < d.size by omega)]
    (repeat' split) <;> first | rfl | (exfalso; omega) | (congr 1; omega) | exact absurd trivial (by assumption)
theorem rot_get (s : Nat) : ∀ (m i j : Nat) (d : Array α), i + j ≤ s → i ≤ m → 0 < i → 0 < j → m + j ≤ d.size → ∀ t, (rot m i j d)[t]! = if m - i ≤ t ∧ t < m + j then (if t < m - i + j then d[t + i]! else d[t - j]!) else d[t]! := by
  induction s with
  | zero => intro m i j d h1 h2 h3 h4 h5 t; omega
  | succ s ih =>
    intro m i j d h1 h2 h3 h4 h5 t
    rw [rot]
    by_cases e : i = j
    · subst e
      rw [dif_pos (by omega), swr_get i 0 d (m - i) m (by omega) (by omega)]
      rw [show m - (m - i) = i by omega]
      (repeat' split) <;> first | rfl | (exfalso; omega) | (congr 1; omega) | exact absurd trivial (by assumption)
    · rw [dif_neg (by omega)]
      by_cases e2 : j < i
      · rw [dif_pos e2, ih _ _ _ _ (by omega) (by omega) (by omega) h4 (by rw [swr_size]; exact h5)]
        simp only [swr_get j 0 d (m - i) m (by omega) (by omega), show m - (m - i) = i by omega]
        (repeat' split) <;> first | rfl | (exfalso; omega) | (congr 1; omega) | exact absurd trivial (by assumption)
      · rw [dif_neg e2, ih _ _ _ _ (by omega) h2 h3 (by omega) (by rw [swr_size]; omega)]
        simp only [swr_get i 0 d (m - i) (m + j - i) (by omega) (by omega), show m + j - i - (m - i) = j by omega]
        (repeat' split) <;> first | rfl | (exfalso; omega) | (congr 1; omega) | exact absurd trivial (by assumption)
theorem upRun_get (e : Nat) : ∀ (k : Nat) (d : Array α), k ≤ e → e < d.size → ∀ t, (upRun d k e)[t]! = if k ≤ t ∧ t < e then d[t + 1]! else if t = e then d[k]! else d[t]! := by
  intro k
  induction h : e - k generalizing k with
  | zero =>
    intro d h1 h2 t
    rw [upRun, if_neg (by omega), if_neg (by omega)]
    split
    · congr 1; omega
    · rfl
  | succ n ih =>
    intro d h1 h2 t
    rw [upRun, if_pos (by omega), ih (k + 1) (by omega) _ (by omega) (by rw [swp_size]; exact h2)]
    simp only [swp_get d (show k < d.size by omega) (show k + 1 < d.size by omega)]
    (repeat' split) <;> first | rfl | (exfalso; omega) | (congr 1; omega) | exact absurd trivial (by assumption)
theorem downRun_get (i : Nat) : ∀ (k : Nat) (d : Array α), i ≤ k → k < d.size → ∀ t, (downRun d k i)[t]! = if i < t ∧ t ≤ k then d[t - 1]! else if t = i then d[k]! else d[t]! := by
  intro k
  induction k with
  | zero =>
    intro d h1 h2 t
    rw [downRun, if_neg (by omega), if_neg (by omega)]
    split
    · congr 1; omega
    · rfl
  | succ n ih =>
    intro d h1 h2 t
    rw [downRun]
    by_cases hc : i < n + 1
    · rw [if_pos hc, Nat.add_sub_cancel, ih _ (by omega) (by rw [swp_size]; omega)]
      simp only [swp_get d (show n + 1 < d.size by omega) (show n < d.size by omega)]
      (repeat' split) <;> first | rfl | (exfalso; omega) | (congr 1; omega) | exact absurd trivial (by assumption)
    · rw [if_neg hc, if_neg (by omega)]
      split
      · congr 1; omega
      · rfl
end Stb
end Go.Proofs.YtefbedineniejaaDoor
