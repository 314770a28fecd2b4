/- Joined: StbM, StP, StL, StI. -/
import Derived.Sort.LotA

/- StbM: Stable sort, plain: insertion from the right; merging two sorted lists is sorting both. -/
section
namespace Go.Proofs.YtackpcohmmlkeaaGreatDoor
namespace Stb
variable {α : Type} (le : α → α → Bool)
/-- x ahead of all that it may stand ahead of. -/
def ins (x : α) : List α → List α
  | [] => [x]
  | y :: l => if le x y then x :: y :: l else y :: ins x l
def isort : List α → List α
  | [] => []
  | x :: l => ins le x (isort l)
/-- Merging: the left one first, where it may be. -/
def mrg : List α → List α → List α
  | [], b => b
  | a, [] => a
  | x :: a, y :: b => if le x y then x :: mrg a (y :: b) else y :: mrg (x :: a) b
termination_by a b => a.length + b.length
theorem mrg_nil (a : List α) : mrg le a [] = a := by cases a <;> simp [mrg]
theorem nil_mrg (b : List α) : mrg le [] b = b := by simp [mrg]
theorem mrg_cons (x y : α) (a b : List α) : mrg le (x :: a) (y :: b) = if le x y then x :: mrg le a (y :: b) else y :: mrg le (x :: a) b := by rw [mrg]
/-- What is split well is merged part by part. -/
theorem mrg_split (A1 A2 B1 B2 : List α) (h1 : ∀ x ∈ A1, ∀ y ∈ B2, le x y = true) (h2 : ∀ y ∈ B1, ∀ x ∈ A2, le x y = false) : mrg le (A1 ++ A2) (B1 ++ B2) = mrg le A1 B1 ++ mrg le A2 B2 := by
  induction A1 generalizing B1 with
  | nil =>
    induction B1 with
    | nil => simp [nil_mrg]
    | cons b B1 ih =>
      have ih' := ih fun y hy => h2 y (List.mem_cons_of_mem _ hy)
      simp only [List.nil_append, nil_mrg, List.cons_append] at ih' ⊢
      cases A2 with
      | nil => simp [nil_mrg]
      | cons a A2 =>
        rw [mrg_cons, if_neg (by rw [h2 b (by simp) a (by simp)]; simp), ih']
  | cons a A1 ih =>
    have hA := fun B1 h2 => ih B1 (fun x hx => h1 x (List.mem_cons_of_mem _ hx)) h2
    induction B1 with
    | nil =>
      have := hA [] (by simp)
      simp only [List.nil_append, mrg_nil, List.cons_append] at this ⊢
      cases B2 with
      | nil => simp [mrg_nil]
      | cons b B2 => rw [mrg_cons, if_pos (h1 a (by simp) b (by simp)), this]
    | cons b B1 ihb =>
      have e1 := hA (b :: B1) h2
      have e2 := ihb fun y hy => h2 y (List.mem_cons_of_mem _ hy)
      simp only [List.cons_append] at e1 e2 ⊢
      rw [mrg_cons, mrg_cons, e1, e2]
      split <;> simp
def Total : Prop := ∀ x y, le x y = true ∨ le y x = true
def Trans : Prop := ∀ x y z, le x y = true → le y z = true → le x z = true
def Sorted (l : List α) : Prop := l.Pairwise fun x y => le x y = true
variable {le}
theorem ins_sorted (T : Total le) (R : Trans le) (x : α) (l : List α) (h : Sorted le l) : Sorted le (ins le x l) ∧ ∀ z, z ∈ ins le x l ↔ z = x ∨ z ∈ l := by
  induction l with
  | nil => simp [ins, Sorted]
  | cons y l ih =>
    have h' := List.pairwise_cons.1 h
    obtain ⟨i1, i2⟩ := ih h'.2
    by_cases hxy : le x y = true
    · rw [ins, if_pos hxy]
      refine ⟨List.pairwise_cons.2 ⟨fun z hz => ?_, h⟩, fun z => by simp⟩
      rcases List.mem_cons.1 hz with rfl | hz
      · exact hxy
      · exact R _ _ _ hxy (h'.1 z hz)
    · rw [ins, if_neg hxy]
      have hyx : le y x = true := (T x y).resolve_left hxy
      refine ⟨List.pairwise_cons.2 ⟨fun z hz => ?_, i1⟩, fun z => ?_⟩
      · rcases (i2 z).1 hz with rfl | hz
        · exact hyx
        · exact h'.1 z hz
      · simp only [List.mem_cons, i2]; constructor
        · rintro (h | h | h) <;> simp [h]
        · rintro (h | h | h) <;> simp [h]
theorem isort_sorted (T : Total le) (R : Trans le) (l : List α) : Sorted le (isort le l) := by
  induction l with
  | nil => exact List.Pairwise.nil
  | cons x l ih => exact (ins_sorted T R x _ ih).1
theorem isort_mem (T : Total le) (R : Trans le) (l : List α) (z : α) : z ∈ isort le l ↔ z ∈ l := by
  induction l with
  | nil => rfl
  | cons x l ih => rw [isort, (ins_sorted T R x _ (isort_sorted T R l)).2, ih]; simp
theorem ins_mrg (T : Total le) (R : Trans le) (x : α) (X Y : List α) (hX : Sorted le X) : ins le x (mrg le X Y) = mrg le (ins le x X) Y := by
  induction Y generalizing X with
  | nil => simp [mrg_nil]
  | cons y Y ih =>
    induction X with
    | nil =>
      simp only [nil_mrg, ins]
      rw [mrg_cons]
      by_cases h : le x y = true
      · rw [if_pos h, if_pos h, nil_mrg]
      · rw [if_neg h, if_neg h]
        have := ih [] List.Pairwise.nil
        simp only [nil_mrg, ins] at this
        rw [this]
    | cons a X ihX =>
      have hX' := List.pairwise_cons.1 hX
      rw [mrg_cons]
      by_cases hay : le a y = true
      · rw [if_pos hay]
        by_cases hxa : le x a = true
        · have hxy := R _ _ _ hxa hay
          rw [ins, if_pos hxa, ins, if_pos hxa, mrg_cons, if_pos hxy, mrg_cons, if_pos hay]
        · rw [ins, if_neg hxa, ins, if_neg hxa, mrg_cons, if_pos hay, ihX hX'.2]
      · rw [if_neg hay]
        by_cases hxy : le x y = true
        · have hya : le y a = true := (T a y).resolve_left hay
          have hxa := R _ _ _ hxy hya
          rw [ins, if_pos hxy, ins, if_pos hxa, mrg_cons, if_pos hxy, mrg_cons, if_neg hay]
        · rw [ins, if_neg hxy, ih _ hX]
          by_cases hxa : le x a = true
          · rw [ins, if_pos hxa, mrg_cons, if_neg hxy]
          · rw [ins, if_neg hxa, mrg_cons, if_neg hay]
theorem mrg_isort (T : Total le) (R : Trans le) (A B : List α) : mrg le (isort le A) (isort le B) = isort le (A ++ B) := by
  induction A with
  | nil => simp [isort, nil_mrg]
  | cons a A ih => rw [List.cons_append, isort, isort, ← ins_mrg T R _ _ _ (isort_sorted T R A), ih]
theorem mrg_one (X : List α) (x : α) (U V : List α) (hX : X = U ++ V) (h1 : ∀ u ∈ U, le u x = true) (h2 : ∀ v ∈ V, le v x = false) : mrg le X [x] = U ++ x :: V := by
  subst hX
  have := mrg_split le U V [] [x] (fun u hu y hy => by rw [List.mem_singleton.1 hy]; exact h1 u hu) (by simp)
  rw [List.nil_append, mrg_nil] at this
  rw [this]
  have h := mrg_split le [] V [x] [] (by simp) (fun y hy v hv => by rw [List.mem_singleton.1 hy]; exact h2 v hv)
  simp only [List.nil_append, List.append_nil, nil_mrg, mrg_nil] at h
  rw [h]; simp
end Stb
end Go.Proofs.YtackpcohmmlkeaaGreatDoor
end

/- StP: The stable sort's own steps, as plain functions on arrays, and what each comes to: exchanging ranges, turning, the binary search, the runs of exchanges, symMerge, the whole. -/
section
namespace Go.Proofs.YtackpcohmmlkeaaGreatDoor
open Go.Sort
namespace Stb
variable {α : Type} [Inhabited α]
/-- Exchange n from a on with n from b on, from the i-th on. -/
def swr (d : Array α) (a b n i : Nat) : Array α := if i < n then swr (swp d (a + i) (b + i)) a b n (i + 1) else d
termination_by n - i
def rot (m i j : Nat) (d : Array α) : Array α :=
  if _h : i = j ∨ i = 0 ∨ j = 0 then swr d (m - i) m i 0
  else if _h2 : j < i then rot m (i - j) j (swr d (m - i) m j 0)
  else rot m i (j - i) (swr d (m - i) (m + j - i) i 0)
termination_by i + j
decreasing_by all_goals omega
def bs (p : Nat → Bool) (i j : Nat) : Nat := if i < j then (if p ((i + j) / 2) then bs p ((i + j) / 2 + 1) j else bs p i ((i + j) / 2)) else i
termination_by j - i
decreasing_by all_goals omega
def upRun (d : Array α) (k e : Nat) : Array α := if k < e then upRun (swp d k (k + 1)) (k + 1) e else d
termination_by e - k
def downRun (d : Array α) (k i : Nat) : Array α := if i < k then downRun (swp d k (k - 1)) (k - 1) i else d
termination_by k
decreasing_by omega
variable (lt : α → α → Bool)
def symS (d : Array α) (a m b : Nat) : Nat :=
  bs (fun c => !lt d[(a + b) / 2 + m - 1 - c]! d[c]!) (if (a + b) / 2 < m then (a + b) / 2 + m - b else a) (if (a + b) / 2 < m then (a + b) / 2 else m)
def symR (d : Array α) (s m e : Nat) : Array α := if s < m ∧ m < e then rot m (m - s) (e - m) d else d
/-- symMerge's last steps, with F for the merges of the halves. -/
def symH (F : Array α → Nat → Nat → Nat → Array α) (d : Array α) (a m b : Nat) : Array α := if a < m ∧ m < b then F d a m b else d
def symG (F : Array α → Nat → Nat → Nat → Array α) (d : Array α) (a m b s e mid : Nat) : Array α := symH F (symH F (symR d s m e) a s mid) mid e b
def sym : Nat → Array α → Nat → Nat → Nat → Array α
  | 0, d, _, _, _ => d
  | f + 1, d, a, m, b =>
    if m - a = 1 then upRun d a (bs (fun h => lt d[h]! d[a]!) m b - 1)
    else if b - m = 1 then downRun d m (bs (fun h => !lt d[m]! d[h]!) a m)
    else
      let mid := (a + b) / 2
      let s := symS lt d a m b
      let e := mid + m - s
      let d1 := symR d s m e
      let d2 := if a < s ∧ s < mid then sym f d1 a s mid else d1
      if mid < e ∧ e < b then sym f d2 mid e b else d2
def blk (d : Array α) (a b n : Nat) : Array α := if b ≤ n then blk (insertionSort lt d a b) b (b + 20) n else insertionSort lt d a n
termination_by n + 1 - b
def mloop (z : Nat) (d : Array α) (a b n : Nat) : Array α :=
  if h : b ≤ n ∧ 0 < z then mloop z (sym lt (b - a) d a (a + z) b) b (b + 2 * z) n else if a + z < n then sym lt (n - a) d a (a + z) n else d
termination_by n + 1 - b
decreasing_by omega
def outer (z : Nat) (d : Array α) (n : Nat) : Array α := if h : z < n ∧ 0 < z then outer (2 * z) (mloop lt z d 0 (2 * z) n) n else d
termination_by n - z
decreasing_by omega
def stab (d : Array α) (n : Nat) : Array α := outer lt 20 (blk lt d 0 20 n) n
/-! Sizes. -/
theorem swr_size (n : Nat) : ∀ (i : Nat) (d : Array α) (a b : Nat), (swr d a b n i).size = d.size := by
  intro i
  induction h : n - i generalizing i with
  | zero => intro d a b; rw [swr, if_neg (by omega)]
  | succ k ih => intro d a b; rw [swr, if_pos (by omega), ih (i + 1) (by omega), swp_size]
theorem rot_size (s : Nat) : ∀ (m i j : Nat) (d : Array α), i + j ≤ s → (rot m i j d).size = d.size := by
  induction s with
  | zero => intro m i j d h; rw [rot, dif_pos (by omega), swr_size]
  | succ s ih =>
    intro m i j d h
    rw [rot]
    split
    · rw [swr_size]
    · split
      · rw [ih _ _ _ _ (by omega), swr_size]
      · rw [ih _ _ _ _ (by omega), swr_size]
theorem upRun_size (e : Nat) : ∀ (k : Nat) (d : Array α), (upRun d k e).size = d.size := by
  intro k
  induction h : e - k generalizing k with
  | zero => intro d; rw [upRun, if_neg (by omega)]
  | succ n ih => intro d; rw [upRun, if_pos (by omega), ih (k + 1) (by omega), swp_size]
theorem downRun_size (i : Nat) : ∀ (k : Nat) (d : Array α), (downRun d k i).size = d.size := by
  intro k
  induction k with
  | zero => intro d; rw [downRun, if_neg (by omega)]
  | succ n ih =>
    intro d; rw [downRun]
    split
    · rw [Nat.add_sub_cancel, ih, swp_size]
    · rfl
theorem symR_size (d : Array α) (s m e : Nat) : (symR d s m e).size = d.size := by
  unfold symR; split
  · exact rot_size _ _ _ _ _ (Nat.le_refl _)
  · rfl
theorem sym_size : ∀ (f : Nat) (d : Array α) (a m b : Nat), (sym lt f d a m b).size = d.size := by
  intro f
  induction f with
  | zero => intro d a m b; rfl
  | succ f ih =>
    intro d a m b
    unfold sym
    split
    · exact upRun_size _ _ _
    · split
      · exact downRun_size _ _ _
      · simp only []
        split <;> (try rw [ih]) <;> (split <;> (try rw [ih]) <;> exact symR_size _ _ _ _)
theorem bs_le (p : Nat → Bool) : ∀ (i j : Nat), i ≤ j → i ≤ bs p i j ∧ bs p i j ≤ j := by
  intro i j
  induction h : j - i using Nat.strongRecOn generalizing i j with
  | ind n ih =>
    intro hij
    rw [bs]
    split
    · split
      · have := ih (j - ((i + j) / 2 + 1)) (by omega) ((i + j) / 2 + 1) j rfl (by omega); omega
      · have := ih ((i + j) / 2 - i) (by omega) i ((i + j) / 2) rfl (by omega); omega
    · omega
theorem symS_bd (d : Array α) (a m b : Nat) (h1 : a < m) (h2 : m < b) : a ≤ symS lt d a m b ∧ symS lt d a m b ≤ m ∧ symS lt d a m b ≤ (a + b) / 2 ∧ (a + b) / 2 + m - b ≤ symS lt d a m b := by
  unfold symS
  split
  · have := bs_le (fun c => !lt d[(a + b) / 2 + m - 1 - c]! d[c]!) ((a + b) / 2 + m - b) ((a + b) / 2) (by omega); omega
  · have := bs_le (fun c => !lt d[(a + b) / 2 + m - 1 - c]! d[c]!) a m (by omega); omega
/-! Rows, element by element. -/
theorem swr_get (n : Nat) : ∀ (i : Nat) (d : Array α) (a b : Nat), a + n ≤ b → b + n ≤ d.size → ∀ t, (swr d a b n i)[t]! = if a + i ≤ t ∧ t < a + n then d[t + (b - a)]! else if b + i ≤ t ∧ t < b + n then d[t - (b - a)]! else d[t]! := by
  intro i
  induction h : n - i generalizing i with
  | zero =>
    intro d a b h1 h2 t
    rw [swr, if_neg (by omega), if_neg (by omega), if_neg (by omega)]
  | succ k ih =>
    intro d a b h1 h2 t
    rw [swr, if_pos (by omega), ih (i + 1) (by omega) _ a b h1 (by rw [swp_size]; exact h2)]
    simp only [swp_get d (show a + i < d.size by omega) (show b + i < d.size by omega)]
    (repeat' split) <;> first | rfl | (exfalso; omega) | (congr 1; omega) | exact absurd trivial (by assumption)
theorem rot_get (s : Nat) : ∀ (m i j : Nat) (d : Array α), i + j ≤ s → i ≤ m → 0 < i → 0 < j → m + j ≤ d.size → ∀ t, (rot m i j d)[t]! = if m - i ≤ t ∧ t < m + j then (if t < m - i + j then d[t + i]! else d[t - j]!) else d[t]! := by
  induction s with
  | zero => intro m i j d h1 h2 h3 h4 h5 t; omega
  | succ s ih =>
    intro m i j d h1 h2 h3 h4 h5 t
    rw [rot]
    by_cases e : i = j
    · subst e
      rw [dif_pos (by omega), swr_get i 0 d (m - i) m (by omega) (by omega)]
      rw [show m - (m - i) = i by omega]
      (repeat' split) <;> first | rfl | (exfalso; omega) | (congr 1; omega) | exact absurd trivial (by assumption)
    · rw [dif_neg (by omega)]
      by_cases e2 : j < i
      · rw [dif_pos e2, ih _ _ _ _ (by omega) (by omega) (by omega) h4 (by rw [swr_size]; exact h5)]
        simp only [swr_get j 0 d (m - i) m (by omega) (by omega), show m - (m - i) = i by omega]
        (repeat' split) <;> first | rfl | (exfalso; omega) | (congr 1; omega) | exact absurd trivial (by assumption)
      · rw [dif_neg e2, ih _ _ _ _ (by omega) h2 h3 (by omega) (by rw [swr_size]; omega)]
        simp only [swr_get i 0 d (m - i) (m + j - i) (by omega) (by omega), show m + j - i - (m - i) = j by omega]
        (repeat' split) <;> first | rfl | (exfalso; omega) | (congr 1; omega) | exact absurd trivial (by assumption)
theorem upRun_get (e : Nat) : ∀ (k : Nat) (d : Array α), k ≤ e → e < d.size → ∀ t, (upRun d k e)[t]! = if k ≤ t ∧ t < e then d[t + 1]! else if t = e then d[k]! else d[t]! := by
  intro k
  induction h : e - k generalizing k with
  | zero =>
    intro d h1 h2 t
    rw [upRun, if_neg (by omega), if_neg (by omega)]
    split
    · congr 1; omega
    · rfl
  | succ n ih =>
    intro d h1 h2 t
    rw [upRun, if_pos (by omega), ih (k + 1) (by omega) _ (by omega) (by rw [swp_size]; exact h2)]
    simp only [swp_get d (show k < d.size by omega) (show k + 1 < d.size by omega)]
    (repeat' split) <;> first | rfl | (exfalso; omega) | (congr 1; omega) | exact absurd trivial (by assumption)
theorem downRun_get (i : Nat) : ∀ (k : Nat) (d : Array α), i ≤ k → k < d.size → ∀ t, (downRun d k i)[t]! = if i < t ∧ t ≤ k then d[t - 1]! else if t = i then d[k]! else d[t]! := by
  intro k
  induction k with
  | zero =>
    intro d h1 h2 t
    rw [downRun, if_neg (by omega), if_neg (by omega)]
    split
    · congr 1; omega
    · rfl
  | succ n ih =>
    intro d h1 h2 t
    rw [downRun]
    by_cases hc : i < n + 1
    · rw [if_pos hc, Nat.add_sub_cancel, ih _ (by omega) (by rw [swp_size]; omega)]
      simp only [swp_get d (show n + 1 < d.size by omega) (show n < d.size by omega)]
      (repeat' split) <;> first | rfl | (exfalso; omega) | (congr 1; omega) | exact absurd trivial (by assumption)
    · rw [if_neg hc, if_neg (by omega)]
      split
      · congr 1; omega
      · rfl
end Stb
end Go.Proofs.YtackpcohmmlkeaaGreatDoor
end

/- StL: What the stable sort comes to: the row, sorted stably. -/
section
namespace Go.Proofs.YtackpcohmmlkeaaGreatDoor
open Go.Sort
namespace Stb
variable {α : Type} [Inhabited α]
def seg (d : Array α) (a b : Nat) : List α := (List.range (b - a)).map fun i => d[a + i]!
theorem seg_nil (d : Array α) (a b : Nat) (h : b ≤ a) : seg d a b = [] := by simp [seg, show b - a = 0 by omega]
theorem seg_one (d : Array α) (a b : Nat) (h : b = a + 1) : seg d a b = [d[a]!] := by subst h; simp [seg, List.range_succ]
theorem seg_split (d : Array α) (a b c : Nat) (h1 : a ≤ b) (h2 : b ≤ c) : seg d a c = seg d a b ++ seg d b c := by
  unfold seg
  rw [show c - a = (b - a) + (c - b) by omega, List.range_add, List.map_append, List.map_map]
  congr 1
  refine List.map_congr_left fun i _ => ?_
  show d[a + (b - a + i)]! = d[b + i]!
  congr 1; omega
theorem seg_eq (d d' : Array α) (a b a' b' : Nat) (h : b' - a' = b - a) (h' : ∀ i, i < b - a → d'[a' + i]! = d[a + i]!) : seg d' a' b' = seg d a b := by
  unfold seg
  rw [h]
  exact List.map_congr_left fun i hi => h' i (List.mem_range.1 hi)
theorem seg_mem {d : Array α} {a b : Nat} {x : α} (h : x ∈ seg d a b) : ∃ t, a ≤ t ∧ t < b ∧ x = d[t]! := by
  obtain ⟨i, hi, rfl⟩ := List.mem_map.1 h
  have := List.mem_range.1 hi
  exact ⟨a + i, by omega, by omega, rfl⟩
theorem seg_length (d : Array α) (a b : Nat) : (seg d a b).length = b - a := by simp [seg]
theorem seg_full (d : Array α) : seg d 0 d.size = d.toList := by
  refine List.ext_getElem (by simp [seg]) fun i h1 h2 => ?_
  have h3 : i < d.size := by simpa using h2
  simp [seg, h3]
variable {le : α → α → Bool}
theorem seg_at {d : Array α} {a b : Nat} (h : Sorted le (seg d a b)) (s t : Nat) (h1 : a ≤ s) (h2 : s < t) (h3 : t < b) : le d[s]! d[t]! = true := by
  have := (List.pairwise_iff_getElem.1 h) (s - a) (t - a) (by rw [seg_length]; omega) (by rw [seg_length]; omega) (by omega)
  simp only [seg, List.getElem_map, List.getElem_range, show a + (s - a) = s by omega, show a + (t - a) = t by omega] at this
  exact this
theorem sorted_part {d : Array α} {a b s e : Nat} (h : Sorted le (seg d a b)) (h1 : a ≤ s) (h2 : s ≤ e) (h3 : e ≤ b) : Sorted le (seg d s e) := by
  rw [seg_split d a s b h1 (by omega), seg_split d s e b h2 h3] at h
  exact (List.pairwise_append.1 (List.pairwise_append.1 h).2.1).1
theorem bs_spec (p : Nat → Bool) : ∀ (i j : Nat), i ≤ j → (∀ s t, i ≤ s → s ≤ t → t < j → p t = true → p s = true) → (∀ t, i ≤ t → t < bs p i j → p t = true) ∧ (∀ t, bs p i j ≤ t → t < j → p t = false) := by
  intro i j
  induction h : j - i using Nat.strongRecOn generalizing i j with
  | ind n ih =>
    intro hij hm
    rw [bs]
    split
    · split
      · rename_i hlt hp
        obtain ⟨q1, q2⟩ := ih (j - ((i + j) / 2 + 1)) (by omega) ((i + j) / 2 + 1) j rfl (by omega) (fun s t h1 h2 h3 => hm s t (by omega) h2 h3)
        refine ⟨fun t h1 h2 => ?_, q2⟩
        by_cases c : (i + j) / 2 + 1 ≤ t
        · exact q1 t c h2
        · exact hm t ((i + j) / 2) h1 (by omega) (by omega) hp
      · rename_i hlt hp
        obtain ⟨q1, q2⟩ := ih ((i + j) / 2 - i) (by omega) i ((i + j) / 2) rfl (by omega) (fun s t h1 h2 h3 => hm s t h1 h2 (by omega))
        refine ⟨q1, fun t h1 h2 => ?_⟩
        by_cases c : t < (i + j) / 2
        · exact q2 t h1 c
        · cases hpt : p t with
          | false => rfl
          | true => exact absurd (hm ((i + j) / 2) t (by omega) (by omega) h2 hpt) hp
    · exact ⟨fun t h1 h2 => absurd h2 (by omega), fun t h1 h2 => absurd h2 (by omega)⟩
omit [Inhabited α] in
theorem one_mrg (x : α) (U V : List α) (h1 : ∀ u ∈ U, le x u = false) (h2 : ∀ v ∈ V, le x v = true) : mrg le [x] (U ++ V) = U ++ x :: V := by
  have := mrg_split le [] [x] U V (by simp) (fun u hu y hy => by rw [List.mem_singleton.1 hy]; exact h1 u hu)
  rw [List.nil_append, nil_mrg] at this
  rw [this]
  have h := mrg_split le [x] [] [] V (fun y hy v hv => by rw [List.mem_singleton.1 hy]; exact h2 v hv) (by simp)
  simp only [List.append_nil, List.nil_append, nil_mrg, mrg_nil] at h
  rw [h]; simp
variable {lt : α → α → Bool}
/-- The order that goes with 'less'. -/
def leOf (lt : α → α → Bool) (x y : α) : Bool := !lt y x
/-- symMerge's parting: what is found. -/
theorem symS_spec (R : Trans (leOf lt)) (d : Array α) (a m b : Nat) (h1 : a < m) (h2 : m < b) (s1 : Sorted (leOf lt) (seg d a m)) (s2 : Sorted (leOf lt) (seg d m b)) :
    (∀ x ∈ seg d a (symS lt d a m b), ∀ y ∈ seg d ((a + b) / 2 + m - symS lt d a m b) b, leOf lt x y = true) ∧ (∀ y ∈ seg d m ((a + b) / 2 + m - symS lt d a m b), ∀ x ∈ seg d (symS lt d a m b) m, leOf lt x y = false) := by
  have hb := symS_bd lt d a m b h1 h2
  have refl : ∀ s t, a ≤ s → s ≤ t → t < m → ∀ z, leOf lt d[t]! z = true → leOf lt d[s]! z = true := fun s t h1 h2 h3 z hz => by
    by_cases e : s = t
    · rw [e]; exact hz
    · exact R _ _ _ (seg_at s1 s t h1 (by omega) h3) hz
  have refl2 : ∀ s t, m ≤ s → s ≤ t → t < b → ∀ z, leOf lt z d[s]! = true → leOf lt z d[t]! = true := fun s t h1 h2 h3 z hz => by
    by_cases e : s = t
    · rw [← e]; exact hz
    · exact R _ _ _ hz (seg_at s2 s t h1 (by omega) h3)
  have key : (∀ t, (if (a + b) / 2 < m then (a + b) / 2 + m - b else a) ≤ t → t < symS lt d a m b → leOf lt d[t]! d[(a + b) / 2 + m - 1 - t]! = true) ∧ (∀ t, symS lt d a m b ≤ t → t < (if (a + b) / 2 < m then (a + b) / 2 else m) → leOf lt d[t]! d[(a + b) / 2 + m - 1 - t]! = false) := by
    unfold symS
    refine bs_spec (fun c => !lt d[(a + b) / 2 + m - 1 - c]! d[c]!) _ _ (by split <;> omega) ?_
    intro s t q1 q2 q3 q4
    have q5 : a ≤ s ∧ t < m ∧ m ≤ (a + b) / 2 + m - 1 - t ∧ (a + b) / 2 + m - 1 - s < b := by split at q1 <;> split at q3 <;> omega
    exact refl s t q5.1 q2 q5.2.1 _ (refl2 ((a + b) / 2 + m - 1 - t) ((a + b) / 2 + m - 1 - s) q5.2.2.1 (by omega) q5.2.2.2 _ q4)
  generalize symS lt d a m b = s at hb key ⊢
  obtain ⟨k1, k2⟩ := key
  constructor
  · intro x hx y hy
    obtain ⟨t, t1, t2, rfl⟩ := seg_mem hx
    obtain ⟨u, u1, u2, rfl⟩ := seg_mem hy
    have lo : (if (a + b) / 2 < m then (a + b) / 2 + m - b else a) ≤ s - 1 := by split <;> omega
    have := k1 (s - 1) lo (by omega)
    exact refl t (s - 1) t1 (by omega) (by omega) _ (refl2 ((a + b) / 2 + m - 1 - (s - 1)) u (by omega) (by omega) u2 _ this)
  · intro y hy x hx
    obtain ⟨t, t1, t2, rfl⟩ := seg_mem hx
    obtain ⟨u, u1, u2, rfl⟩ := seg_mem hy
    have hi : s < (if (a + b) / 2 < m then (a + b) / 2 else m) := by split <;> omega
    have := k2 s (by omega) hi
    cases hq : leOf lt d[t]! d[u]! with
    | false => rfl
    | true =>
      have q := refl s t (by omega) t1 t2 _ (refl2 u ((a + b) / 2 + m - 1 - s) u1 (by omega) (by omega) _ hq)
      rw [q] at this; cases this
theorem sym_law (R : Trans (leOf lt)) : ∀ (f : Nat) (d : Array α) (a m b : Nat), a < m → m < b → b ≤ d.size → b - a ≤ f → Sorted (leOf lt) (seg d a m) → Sorted (leOf lt) (seg d m b) →
    seg (sym lt f d a m b) a b = mrg (leOf lt) (seg d a m) (seg d m b) ∧ ∀ t, t < a ∨ b ≤ t → (sym lt f d a m b)[t]! = d[t]! := by
  intro f
  induction f with
  | zero => intro d a m b h1 h2 h3 h4; omega
  | succ f ih =>
    intro d a m b h1 h2 h3 h4 s1 s2
    unfold sym
    by_cases c1 : m - a = 1
    · rw [if_pos c1]
      have hm : m = a + 1 := by omega
      have hbl := bs_le (fun h => lt d[h]! d[a]!) m b (by omega)
      have hbs := bs_spec (fun h => lt d[h]! d[a]!) m b (by omega) (fun s t q1 q2 q3 q4 => by
        by_cases e : s = t
        · rw [e]; exact q4
        · cases hq : lt d[s]! d[a]! with
          | true => rfl
          | false =>
            have : leOf lt d[a]! d[t]! = true := R _ _ _ (show leOf lt d[a]! d[s]! = true by rw [leOf, hq]; rfl) (seg_at s2 s t q1 (by omega) q3)
            rw [leOf, q4] at this; cases this)
      generalize bs (fun h => lt d[h]! d[a]!) m b = i at hbl hbs ⊢
      have g := upRun_get (i - 1) a d (by omega) (by omega)
      refine ⟨?_, fun t ht => by rw [g, if_neg (by omega), if_neg (by omega)]⟩
      rw [seg_one d a m hm, seg_split d m i b hbl.1 hbl.2, one_mrg _ _ _ (fun u hu => by
          obtain ⟨t, t1, t2, rfl⟩ := seg_mem hu
          rw [leOf, hbs.1 t t1 t2]; rfl) (fun v hv => by
          obtain ⟨t, t1, t2, rfl⟩ := seg_mem hv
          rw [leOf, hbs.2 t t1 t2]; rfl)]
      rw [seg_split _ a (i - 1) b (by omega) (by omega), seg_split _ (i - 1) i b (by omega) hbl.2, seg_one _ (i - 1) i (by omega)]
      rw [g, if_neg (by omega), if_pos rfl]
      rw [seg_eq d (upRun d a (i - 1)) m i a (i - 1) (by omega) (fun t ht => by rw [g, if_pos (by omega)]; congr 1; omega)]
      rw [seg_eq d (upRun d a (i - 1)) i b i b rfl (fun t ht => by rw [g, if_neg (by omega), if_neg (by omega)])]
      simp
    · rw [if_neg c1]
      by_cases c2 : b - m = 1
      · rw [if_pos c2]
        have hm : b = m + 1 := by omega
        have hbl := bs_le (fun h => !lt d[m]! d[h]!) a m (by omega)
        have hbs := bs_spec (fun h => !lt d[m]! d[h]!) a m (by omega) (fun s t q1 q2 q3 q4 => by
          by_cases e : s = t
          · rw [e]; exact q4
          · exact R d[s]! d[t]! d[m]! (seg_at s1 s t q1 (by omega) q3) q4)
        generalize bs (fun h => !lt d[m]! d[h]!) a m = i at hbl hbs ⊢
        have g := downRun_get i m d hbl.2 (by omega)
        refine ⟨?_, fun t ht => by rw [g, if_neg (by omega), if_neg (by omega)]⟩
        rw [seg_one d m b hm, mrg_one (seg d a m) d[m]! (seg d a i) (seg d i m) (seg_split d a i m hbl.1 hbl.2) (fun u hu => by
            obtain ⟨t, t1, t2, rfl⟩ := seg_mem hu
            exact hbs.1 t t1 t2) (fun v hv => by
            obtain ⟨t, t1, t2, rfl⟩ := seg_mem hv
            exact hbs.2 t t1 t2)]
        rw [seg_split _ a i b hbl.1 (by omega), seg_split _ i (i + 1) b (by omega) (by omega), seg_one _ i (i + 1) rfl]
        rw [g i, if_neg (by omega), if_pos rfl]
        rw [seg_eq d (downRun d m i) a i a i rfl (fun t ht => by rw [g, if_neg (by omega), if_neg (by omega)])]
        rw [seg_eq d (downRun d m i) i m (i + 1) b (by omega) (fun t ht => by rw [g, if_pos (by omega)]; congr 1; omega)]
        simp
      · rw [if_neg c2]
        simp only []
        have hb := symS_bd lt d a m b h1 h2
        obtain ⟨p1, p2⟩ := symS_spec R d a m b h1 h2 s1 s2
        generalize symS lt d a m b = s at hb p1 p2 ⊢
        generalize hmid : (a + b) / 2 = mid at hb p1 p2 ⊢
        obtain ⟨e, he⟩ : ∃ e, e = mid + m - s := ⟨_, rfl⟩
        rw [← he] at p1 p2 ⊢
        have z1 : (symR d s m e).size = d.size := symR_size _ _ _ _
        -- the row behind the turning
        have g : ∀ t, (symR d s m e)[t]! = if s ≤ t ∧ t < e then (if t < mid then d[t + (m - s)]! else d[t - (e - m)]!) else d[t]! := by
          intro t
          unfold symR
          by_cases c : s < m ∧ m < e
          · rw [if_pos c, rot_get _ m (m - s) (e - m) d (Nat.le_refl _) (by omega) (by omega) (by omega) (by omega)]
            (repeat' split) <;> first | rfl | (exfalso; omega) | (congr 1; omega)
          · rw [if_neg c]
            (repeat' split) <;> first | rfl | (exfalso; omega) | (congr 1; omega)
        have b1 : seg (symR d s m e) a s = seg d a s := seg_eq _ _ _ _ _ _ rfl fun t ht => by rw [g, if_neg (by omega)]
        have b2 : seg (symR d s m e) s mid = seg d m e := seg_eq _ _ _ _ _ _ (by omega) fun t ht => by rw [g, if_pos (by omega), if_pos (by omega)]; congr 1; omega
        have b3 : seg (symR d s m e) mid e = seg d s m := seg_eq _ _ _ _ _ _ (by omega) fun t ht => by rw [g, if_pos (by omega), if_neg (by omega)]; congr 1; omega
        have b4 : seg (symR d s m e) e b = seg d e b := seg_eq _ _ _ _ _ _ rfl fun t ht => by rw [g, if_neg (by omega)]
        have out : ∀ t, t < a ∨ b ≤ t → (symR d s m e)[t]! = d[t]! := fun t ht => by rw [g, if_neg (by omega)]
        generalize symR d s m e = d1 at z1 b1 b2 b3 b4 out ⊢
        have S1 := sorted_part s1 (Nat.le_refl a) (show a ≤ s by omega) (show s ≤ m by omega)
        have S2 := sorted_part s2 (Nat.le_refl m) (show m ≤ e by omega) (show e ≤ b by omega)
        have S3 := sorted_part s1 (show a ≤ s by omega) (show s ≤ m by omega) (Nat.le_refl m)
        have S4 := sorted_part s2 (show m ≤ e by omega) (show e ≤ b by omega) (Nat.le_refl b)
        -- the first half
        obtain ⟨d2, hd2⟩ : ∃ d2, d2 = (if a < s ∧ s < mid then sym lt f d1 a s mid else d1) := ⟨_, rfl⟩
        have f1 : d2.size = d1.size ∧ seg d2 a mid = mrg (leOf lt) (seg d a s) (seg d m e) ∧ ∀ t, t < a ∨ mid ≤ t → d2[t]! = d1[t]! := by
          rw [hd2]
          by_cases c : a < s ∧ s < mid
          · rw [if_pos c]
            have := ih d1 a s mid c.1 c.2 (by omega) (by omega) (by rw [b1]; exact S1) (by rw [b2]; exact S2)
            rw [b1, b2] at this
            exact ⟨sym_size _ _ _ _ _ _, this.1, this.2⟩
          · rw [if_neg c]
            refine ⟨rfl, ?_, fun _ _ => rfl⟩
            rw [seg_split d1 a s mid (by omega) (by omega), b1, b2]
            by_cases c3 : a < s
            · rw [seg_nil d m e (by omega), mrg_nil]; simp
            · rw [seg_nil d a s (by omega), nil_mrg]; simp
        rw [← hd2]
        obtain ⟨f1, f2, f3⟩ := f1
        have q3 : seg d2 mid e = seg d s m := by rw [← b3]; exact seg_eq _ _ _ _ _ _ rfl fun t ht => f3 _ (by omega)
        have q4 : seg d2 e b = seg d e b := by rw [← b4]; exact seg_eq _ _ _ _ _ _ rfl fun t ht => f3 _ (by omega)
        clear hd2 b1 b2 b3 b4
        obtain ⟨d3, hd3⟩ : ∃ d3, d3 = (if mid < e ∧ e < b then sym lt f d2 mid e b else d2) := ⟨_, rfl⟩
        have k : seg d3 mid b = mrg (leOf lt) (seg d s m) (seg d e b) ∧ ∀ t, t < mid ∨ b ≤ t → d3[t]! = d2[t]! := by
          rw [hd3]
          by_cases c : mid < e ∧ e < b
          · rw [if_pos c]
            have := ih d2 mid e b c.1 c.2 (by omega) (by omega) (by rw [q3]; exact S3) (by rw [q4]; exact S4)
            rw [q3, q4] at this
            exact this
          · rw [if_neg c]
            refine ⟨?_, fun _ _ => rfl⟩
            rw [seg_split d2 mid e b (by omega) (by omega), q3, q4]
            by_cases c3 : mid < e
            · rw [seg_nil d e b (by omega), mrg_nil]; simp
            · rw [seg_nil d s m (by omega), nil_mrg]; simp
        rw [← hd3]
        refine ⟨?_, fun t ht => by rw [k.2 t (by omega), f3 t (by omega), out t ht]⟩
        rw [seg_split d3 a mid b (by omega) (by omega), k.1, show seg d3 a mid = seg d2 a mid from seg_eq _ _ _ _ _ _ rfl fun t ht => k.2 _ (by omega), f2]
        rw [seg_split d a s m (by omega) (by omega), seg_split d m e b (by omega) (by omega), mrg_split _ _ _ _ _ p1 p2]
end Stb
end Go.Proofs.YtackpcohmmlkeaaGreatDoor
end

/- StI: slices' stable sort, whole: what comes out is the row sorted stably. -/
section
namespace Go.Proofs.YtackpcohmmlkeaaGreatDoor
open Go.Sort
namespace Stb
variable {α : Type} [Inhabited α] {lt : α → α → Bool}
theorem insInner_law (R : Trans (leOf lt)) (a : Nat) : ∀ (j : Nat) (d : Array α), a ≤ j → j < d.size → Sorted (leOf lt) (seg d a j) →
    seg (insInner lt a j d) a (j + 1) = mrg (leOf lt) (seg d a j) [d[j]!] ∧ (∀ t, t < a ∨ j < t → (insInner lt a j d)[t]! = d[t]!) ∧ (insInner lt a j d).size = d.size := by
  intro j
  induction j with
  | zero =>
    intro d h1 h2 h3
    have : a = 0 := by omega
    subst this
    exact ⟨by rw [insInner, seg_nil d 0 0 (by omega), nil_mrg, seg_one d 0 1 rfl], fun _ _ => by rw [insInner], by rw [insInner]⟩
  | succ j ih =>
    intro d h1 h2 h3
    rw [insInner]
    by_cases c : (decide (j + 1 > a) && lt d[j + 1]! d[j]!) = true
    · rw [if_pos c]
      have c' : j + 1 > a ∧ lt d[j + 1]! d[j]! = true := by simpa using c
      have g := swp_get d (show j + 1 < d.size by omega) (show j < d.size by omega)
      have e1 : seg (swp d (j + 1) j) a j = seg d a j := seg_eq _ _ _ _ _ _ rfl fun t ht => by rw [g, if_neg (by omega), if_neg (by omega)]
      obtain ⟨q1, q2, q3⟩ := ih (swp d (j + 1) j) (by omega) (by rw [swp_size]; omega) (by rw [e1]; exact sorted_part h3 (Nat.le_refl a) (by omega) (by omega))
      refine ⟨?_, fun t ht => by rw [q2 t (by omega), g, if_neg (by omega), if_neg (by omega)], by rw [q3, swp_size]⟩
      rw [seg_split _ a (j + 1) (j + 1 + 1) (by omega) (by omega), q1, e1, seg_one _ (j + 1) (j + 1 + 1) rfl, q2 (j + 1) (by omega), g, g, if_pos rfl, if_neg (by omega), if_pos rfl]
      have := mrg_split (leOf lt) (seg d a j) [d[j]!] [d[j + 1]!] [] (by simp) (fun y hy x hx => by
        rw [List.mem_singleton.1 hy, List.mem_singleton.1 hx, leOf, c'.2]; rfl)
      rw [mrg_nil, List.append_nil] at this
      rw [seg_split d a j (j + 1) (by omega) (by omega), seg_one d j (j + 1) rfl, this]
    · rw [if_neg c]
      refine ⟨?_, fun _ _ => rfl, rfl⟩
      rw [seg_split d a (j + 1) (j + 1 + 1) h1 (by omega), seg_one d (j + 1) (j + 1 + 1) rfl]
      rw [mrg_one (seg d a (j + 1)) d[j + 1]! (seg d a (j + 1)) [] (by simp) (fun u hu => by
        obtain ⟨t, t1, t2, rfl⟩ := seg_mem hu
        have hl : leOf lt d[j]! d[j + 1]! = true := by
          have : lt d[j + 1]! d[j]! = false := by
            cases hq : lt d[j + 1]! d[j]! with
            | false => rfl
            | true => exact absurd (by rw [hq]; simp; omega) c
          rw [leOf, this]; rfl
        by_cases e : t = j
        · rw [e]; exact hl
        · exact R _ _ _ (seg_at h3 t j t1 (by omega) (by omega)) hl) (by simp)]
theorem insOuter_law (T : Total (leOf lt)) (R : Trans (leOf lt)) (d0 : Array α) (a b : Nat) (hb : b ≤ d0.size) : ∀ (i : Nat) (d : Array α), a < i → i ≤ b → seg d a i = isort (leOf lt) (seg d0 a i) → (∀ t, t < a ∨ i ≤ t → d[t]! = d0[t]!) → d.size = d0.size →
    seg (insOuter lt a b i d) a b = isort (leOf lt) (seg d0 a b) ∧ (∀ t, t < a ∨ b ≤ t → (insOuter lt a b i d)[t]! = d0[t]!) ∧ (insOuter lt a b i d).size = d0.size := by
  intro i
  induction h : b - i generalizing i with
  | zero =>
    intro d h1 h2 h3 h4 h5
    have : i = b := by omega
    subst this
    rw [insOuter, if_neg (by omega)]
    exact ⟨h3, h4, h5⟩
  | succ n ih =>
    intro d h1 h2 h3 h4 h5
    rw [insOuter, if_pos (by omega)]
    obtain ⟨q1, q2, q3⟩ := insInner_law R a i d (by omega) (by omega) (by rw [h3]; exact isort_sorted T R _)
    refine ih (i + 1) (by omega) _ (by omega) (by omega) ?_ (fun t ht => by rw [q2 t (by omega), h4 t (by omega)]) (by rw [q3, h5])
    rw [q1, h3, h4 i (by omega), seg_split d0 a i (i + 1) (by omega) (by omega), seg_one d0 i (i + 1) rfl, ← mrg_isort T R]
    rfl
theorem insertionSort_law (T : Total (leOf lt)) (R : Trans (leOf lt)) (d : Array α) (a b : Nat) (hab : a ≤ b) (hb : b ≤ d.size) :
    seg (insertionSort lt d a b) a b = isort (leOf lt) (seg d a b) ∧ (∀ t, t < a ∨ b ≤ t → (insertionSort lt d a b)[t]! = d[t]!) ∧ (insertionSort lt d a b).size = d.size := by
  unfold insertionSort
  by_cases c : a < b
  · exact insOuter_law T R d a b hb (a + 1) d (by omega) (by omega) (by rw [seg_one d a (a + 1) rfl]; rfl) (fun _ _ => rfl) rfl
  · rw [insOuter, if_neg (by omega), seg_nil d a b (by omega)]
    exact ⟨rfl, fun _ _ => rfl, rfl⟩
/-- Every block of z is sorted by itself. -/
def Bl (lt : α → α → Bool) (z n : Nat) (d d0 : Array α) (p : Nat → Prop) : Prop := ∀ c, z ∣ c → p c → seg d c (min n (c + z)) = isort (leOf lt) (seg d0 c (min n (c + z)))
theorem blk_law (T : Total (leOf lt)) (R : Trans (leOf lt)) (d0 : Array α) (n : Nat) (hn : n ≤ d0.size) : ∀ (k a : Nat) (d : Array α), n - a ≤ k → 20 ∣ a → a ≤ n → d.size = d0.size → Bl lt 20 n d d0 (· < a) → (∀ t, a ≤ t → d[t]! = d0[t]!) →
    Bl lt 20 n (blk lt d a (a + 20) n) d0 (fun _ => True) ∧ (blk lt d a (a + 20) n).size = d0.size ∧ ((∀ t, n ≤ t → d[t]! = d0[t]!) → ∀ t, n ≤ t → (blk lt d a (a + 20) n)[t]! = d0[t]!) := by
  intro k
  induction k with
  | zero =>
    intro a d h1 h2 h3 h4 h5 h6
    rw [blk, if_neg (by omega)]
    obtain ⟨q1, q2, q3⟩ := insertionSort_law T R d a n h3 (by omega)
    refine ⟨fun c hc _ => ?_, by rw [q3, h4], fun ht t h => by rw [q2 t (by omega), ht t h]⟩
    by_cases e : c < a
    · rw [← h5 c hc e]
      exact seg_eq _ _ _ _ _ _ rfl fun t ht => q2 _ (by omega)
    · rw [seg_nil _ c _ (by omega), seg_nil _ c _ (by omega)]; rfl
  | succ k ih =>
    intro a d h1 h2 h3 h4 h5 h6
    rw [blk]
    by_cases hc : a + 20 ≤ n
    · rw [if_pos hc]
      obtain ⟨q1, q2, q3⟩ := insertionSort_law T R d a (a + 20) (by omega) (by omega)
      have := ih (a + 20) (insertionSort lt d a (a + 20)) (by omega) (by omega) hc (by rw [q3, h4]) (fun c hcd hca => by
        by_cases e : c < a
        · rw [← h5 c hcd e]
          exact seg_eq _ _ _ _ _ _ rfl fun t ht => q2 _ (by omega)
        · have : c = a := by omega
          subst this
          rw [show min n (c + 20) = c + 20 by omega, q1]
          congr 1
          exact seg_eq _ _ _ _ _ _ rfl fun t ht => h6 _ (by omega)) (fun t ht => by rw [q2 t (by omega), h6 t (by omega)])
      exact ⟨this.1, this.2.1, fun ht => this.2.2 fun t h => by rw [q2 t (by omega), ht t h]⟩
    · rw [if_neg hc]
      obtain ⟨q1, q2, q3⟩ := insertionSort_law T R d a n h3 (by omega)
      refine ⟨fun c hcd _ => ?_, by rw [q3, h4], fun ht t h => by rw [q2 t (by omega), ht t h]⟩
      by_cases e : c < a
      · rw [← h5 c hcd e]
        exact seg_eq _ _ _ _ _ _ rfl fun t ht => q2 _ (by omega)
      · by_cases e2 : c = a
        · subst e2
          rw [show min n (c + 20) = n by omega, q1]
          congr 1
          exact seg_eq _ _ _ _ _ _ rfl fun t ht => h6 _ (by omega)
        · rw [seg_nil _ c _ (by omega), seg_nil _ c _ (by omega)]; rfl
theorem mloop_law (T : Total (leOf lt)) (R : Trans (leOf lt)) (d0 : Array α) (n z : Nat) (hn : n ≤ d0.size) (hz : 0 < z) : ∀ (k a : Nat) (d : Array α), n - a ≤ k → 2 * z ∣ a → a ≤ n → d.size = d0.size → Bl lt (2 * z) n d d0 (· < a) → Bl lt z n d d0 (a ≤ ·) →
    Bl lt (2 * z) n (mloop lt z d a (a + 2 * z) n) d0 (fun _ => True) ∧ (mloop lt z d a (a + 2 * z) n).size = d0.size := by
  have one : ∀ (a e : Nat) (d : Array α), 2 * z ∣ a → a + z < e → e = min n (a + 2 * z) → d.size = d0.size → Bl lt (2 * z) n d d0 (· < a) → Bl lt z n d d0 (a ≤ ·) →
      seg (sym lt (e - a) d a (a + z) e) a e = isort (leOf lt) (seg d0 a e) ∧ (∀ t, t < a ∨ e ≤ t → (sym lt (e - a) d a (a + z) e)[t]! = d[t]!) ∧ (sym lt (e - a) d a (a + z) e).size = d0.size := by
    intro a e d h1 h2 h3 h4 h5 h6
    have za : z ∣ a := Nat.dvd_trans ⟨2, by omega⟩ h1
    have u1 := h6 a za (Nat.le_refl a)
    have u2 := h6 (a + z) (Nat.dvd_add za (Nat.dvd_refl z)) (by show a ≤ a + z; omega)
    rw [show min n (a + z) = a + z by omega] at u1
    rw [show min n (a + z + z) = e by omega] at u2
    have := sym_law R (e - a) d a (a + z) e (by omega) h2 (by omega) (Nat.le_refl _) (by rw [u1]; exact isort_sorted T R _) (by rw [u2]; exact isort_sorted T R _)
    rw [u1, u2, mrg_isort T R, ← seg_split d0 a (a + z) e (by omega) (by omega)] at this
    exact ⟨this.1, this.2, by rw [sym_size, h4]⟩
  intro k
  induction k with
  | zero =>
    intro a d h1 h2 h3 h4 h5 h6
    rw [mloop, dif_neg (by omega), if_neg (by omega)]
    refine ⟨fun c hc _ => ?_, h4⟩
    by_cases e : c < a
    · exact h5 c hc e
    · rw [seg_nil _ c _ (by omega), seg_nil _ c _ (by omega)]; rfl
  | succ k ih =>
    intro a d h1 h2 h3 h4 h5 h6
    rw [mloop]
    by_cases hc : a + 2 * z ≤ n ∧ 0 < z
    · rw [dif_pos hc]
      obtain ⟨q1, q2, q3⟩ := one a (a + 2 * z) d h2 (by omega) (by omega) h4 h5 h6
      refine ih (a + 2 * z) _ (by omega) (Nat.dvd_add h2 (Nat.dvd_refl _)) hc.1 q3 (fun c hcd hca => ?_) (fun c hcd hca => ?_)
      · by_cases e : c < a
        · rw [← h5 c hcd e]
          exact seg_eq _ _ _ _ _ _ rfl fun t ht => q2 _ (by
            obtain ⟨x, rfl⟩ := hcd; obtain ⟨y, rfl⟩ := h2
            have : 2 * z * x + 2 * z ≤ 2 * z * y := by
              have hxy : x < y := Nat.lt_of_mul_lt_mul_left e
              calc 2 * z * x + 2 * z = 2 * z * (x + 1) := by rw [Nat.mul_add, Nat.mul_one]
                _ ≤ 2 * z * y := Nat.mul_le_mul_left _ hxy
            omega)
        · have : c = a := by
            obtain ⟨x, rfl⟩ := hcd; obtain ⟨y, rfl⟩ := h2
            have h' : ¬ 2 * z * x < 2 * z * y := e
            have hxy : x < y + 1 := Nat.lt_of_mul_lt_mul_left (show 2 * z * x < 2 * z * (y + 1) by rw [Nat.mul_add, Nat.mul_one]; exact hca)
            have hyx : y ≤ x := Nat.le_of_not_lt fun h => h' (Nat.mul_lt_mul_of_pos_left h (by omega))
            rw [show x = y by omega]
          subst this
          rw [show min n (c + 2 * z) = c + 2 * z by omega, q1]
      · rw [← h6 c hcd (by show a ≤ c; have : a + 2 * z ≤ c := hca; omega)]
        exact seg_eq _ _ _ _ _ _ rfl fun t ht => q2 _ (by have : a + 2 * z ≤ c := hca; omega)
    · rw [dif_neg hc]
      have hn2 : n < a + 2 * z := by omega
      have far : ∀ c, 2 * z ∣ c → ¬ c < a → c ≠ a → n ≤ c := fun c hcd h1 h3 => by
        obtain ⟨x, rfl⟩ := hcd; obtain ⟨y, rfl⟩ := h2
        have hyx : y < x := by
          rcases Nat.lt_trichotomy x y with h | h | h
          · exact absurd (Nat.mul_lt_mul_of_pos_left h (by omega)) h1
          · exact absurd (by rw [h]) h3
          · exact h
        have := Nat.mul_le_mul_left (2 * z) (show y + 1 ≤ x from hyx)
        rw [Nat.mul_add, Nat.mul_one] at this
        omega
      have near : ∀ c, 2 * z ∣ c → c < a → c + 2 * z ≤ a := fun c hcd h => by
        obtain ⟨x, rfl⟩ := hcd; obtain ⟨y, rfl⟩ := h2
        have hxy : x < y := Nat.lt_of_mul_lt_mul_left h
        have := Nat.mul_le_mul_left (2 * z) (show x + 1 ≤ y from hxy)
        rw [Nat.mul_add, Nat.mul_one] at this
        exact this
      by_cases hc2 : a + z < n
      · rw [if_pos hc2]
        obtain ⟨q1, q2, q3⟩ := one a n d h2 hc2 (by omega) h4 h5 h6
        refine ⟨fun c hcd _ => ?_, q3⟩
        by_cases e : c < a
        · rw [← h5 c hcd e]
          exact seg_eq _ _ _ _ _ _ rfl fun t ht => q2 _ (by have := near c hcd e; omega)
        · by_cases e2 : c = a
          · subst e2
            rw [show min n (c + 2 * z) = n by omega, q1]
          · have := far c hcd e e2
            rw [seg_nil _ c _ (by omega), seg_nil _ c _ (by omega)]; rfl
      · rw [if_neg hc2]
        refine ⟨fun c hcd _ => ?_, h4⟩
        by_cases e : c < a
        · exact h5 c hcd e
        · by_cases e2 : c = a
          · subst e2
            have := h6 c (Nat.dvd_trans ⟨2, by omega⟩ hcd) (Nat.le_refl c)
            rw [show min n (c + z) = n by omega] at this
            rw [show min n (c + 2 * z) = n by omega, this]
          · have := far c hcd e e2
            rw [seg_nil _ c _ (by omega), seg_nil _ c _ (by omega)]; rfl
theorem outer_law (T : Total (leOf lt)) (R : Trans (leOf lt)) (d0 : Array α) (n : Nat) (hn : n ≤ d0.size) : ∀ (k z : Nat) (d : Array α), n - z ≤ k → 0 < z → d.size = d0.size → Bl lt z n d d0 (fun _ => True) →
    seg (outer lt z d n) 0 n = isort (leOf lt) (seg d0 0 n) ∧ (outer lt z d n).size = d0.size := by
  intro k
  induction k with
  | zero =>
    intro z d h1 h2 h3 h4
    rw [outer, dif_neg (by omega)]
    have := h4 0 (Nat.dvd_zero z) trivial
    rw [show min n (0 + z) = n by omega] at this
    exact ⟨this, h3⟩
  | succ k ih =>
    intro z d h1 h2 h3 h4
    rw [outer]
    by_cases c : z < n ∧ 0 < z
    · rw [dif_pos c]
      have := mloop_law T R d0 n z hn h2 n 0 d (by omega) (Nat.dvd_zero _) (by omega) h3 (fun c _ h => absurd h (Nat.not_lt_zero c)) (fun c hcd _ => h4 c hcd trivial)
      rw [Nat.zero_add] at this
      exact ih (2 * z) _ (by omega) (by omega) this.2 this.1
    · rw [dif_neg c]
      have := h4 0 (Nat.dvd_zero z) trivial
      rw [show min n (0 + z) = n by omega] at this
      exact ⟨this, h3⟩
/-- The whole. -/
theorem stab_law (T : Total (leOf lt)) (R : Trans (leOf lt)) (d : Array α) : (stab lt d d.size).toList = isort (leOf lt) d.toList := by
  have h1 := blk_law T R d d.size (Nat.le_refl _) d.size 0 d (by omega) (by omega) (by omega) rfl (fun c _ h => absurd h (Nat.not_lt_zero c)) (fun _ _ => rfl)
  rw [Nat.zero_add] at h1
  have h2 := outer_law T R d d.size (Nat.le_refl _) d.size 20 (blk lt d 0 20 d.size) (by omega) (by omega) h1.2.1 h1.1
  have h3 := h2.1
  rw [seg_full] at h3
  unfold stab
  rw [← h3, ← seg_full]
  rw [h2.2]
theorem stab_size (T : Total (leOf lt)) (R : Trans (leOf lt)) (d : Array α) : (stab lt d d.size).size = d.size := by
  have h1 := blk_law T R d d.size (Nat.le_refl _) d.size 0 d (by omega) (by omega) (by omega) rfl (fun c _ h => absurd h (Nat.not_lt_zero c)) (fun _ _ => rfl)
  rw [Nat.zero_add] at h1
  exact (outer_law T R d d.size (Nat.le_refl _) d.size 20 (blk lt d 0 20 d.size) (by omega) (by omega) h1.2.1 h1.1).2
end Stb
end Go.Proofs.YtackpcohmmlkeaaGreatDoor
end
