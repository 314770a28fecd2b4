/- Days: one day and the next; months; the plain part. -/
import Derived.Test.YtefbedineniejaaDoorDayX
namespace Go.Proofs.YtefbedineniejaaDoor.Dy

theorem is_next {n y d : Int} {m : Nat} (h : Is n y m d) (hd : d < len y m) : Is (n + 1) y m (d + 1) := by
  obtain ⟨⟨h1, h2, h3, h4, h5, h6⟩, h7⟩ := h
  simp only [Int.toNat_natCast] at h6
  refine ⟨⟨h1, h2, h3, h4, by omega, by simp only [Int.toNat_natCast]; omega⟩, ?_⟩
  unfold num at *
  omega
theorem is_first {n y d : Int} {m : Nat} (h : Is n y m d) (hd : d = len y m) (hm : m < 12) : Is (n + 1) y (m + 1 : Nat) 1 := by
  obtain ⟨⟨h1, h2, h3, h4, h5, h6⟩, h7⟩ := h
  have hl := len_pos y (m + 1) (by omega) (by omega)
  refine ⟨⟨h1, h2, by omega, by omega, by omega, by simp only [Int.toNat_natCast]; omega⟩, ?_⟩
  unfold num at *
  simp only [Int.toNat_natCast] at *
  rw [ms_succ y m (by omega)]
  omega
theorem is_year {n y d : Int} (h : Is n y 12 d) (hd : d = len y 12) (hy : y < 2200) : Is (n + 1) (y + 1) (1 : Nat) 1 := by
  obtain ⟨⟨h1, h2, h3, h4, h5, h6⟩, h7⟩ := h
  have hl := len_pos (y + 1) 1 (by omega) (by omega)
  refine ⟨⟨by omega, by omega, by omega, by omega, by omega, by simp only [Int.toNat_natCast]; omega⟩, ?_⟩
  have a1 := ms_succ y 12 (by omega)
  have a2 := ms_13 y
  rw [show 12 + 1 = 13 from rfl] at a1
  have a3 := ys_succ y
  unfold num at *
  simp only [Int.toNat_natCast, ms_one] at *
  rw [show (12 : Int).toNat = 12 from rfl] at h7
  omega
theorem is_y {n y m d : Int} (h : Is n y m d) (hn : n ≤ 99999) : y ≤ 2180 := by
  obtain ⟨⟨h1, h2, h3, h4, h5, h6⟩, h7⟩ := h
  have a := ms_le y m.toNat (by omega)
  unfold num at h7
  exact ys_bd y h1 (by omega)

/-- Every day has its parts; the next one's follow from them. -/
theorem next_cases {n y d : Int} {m : Nat} (h : Is n y m d) (hn : n ≤ 99999) :
    (d < len y m ∧ Is (n + 1) y m (d + 1)) ∨ (d = len y m ∧ m < 12 ∧ Is (n + 1) y (m + 1 : Nat) 1) ∨ (d = len y m ∧ m = 12 ∧ Is (n + 1) (y + 1) (1 : Nat) 1) := by
  have hy := is_y h hn
  have h6 := h.1.2.2.2.2.2
  have h4 := h.1.2.2.2.1
  simp only [Int.toNat_natCast] at h6
  by_cases hd : d < len y m
  · exact Or.inl ⟨hd, is_next h hd⟩
  · have e : d = len y m := by omega
    by_cases hm : m < 12
    · exact Or.inr (Or.inl ⟨e, hm, is_first h e hm⟩)
    · have em : m = 12 := by omega
      subst em
      exact Or.inr (Or.inr ⟨e, rfl, is_year h e (by omega)⟩)
theorem parts_nat (k : Nat) (h : (k : Int) ≤ 99999) : ∃ (y d : Int) (m : Nat), Is k y m d := by
  induction k with
  | zero => exact ⟨1900, 1, 1, by constructor <;> decide⟩
  | succ k ih =>
    obtain ⟨y, d, m, hi⟩ := ih (by omega)
    rw [show ((k + 1 : Nat) : Int) = (k : Int) + 1 from by omega]
    rcases next_cases hi (by omega) with ⟨-, h1⟩ | ⟨-, -, h1⟩ | ⟨-, -, h1⟩
    all_goals exact ⟨_, _, _, h1⟩
theorem parts_ex (n : Int) (h0 : 0 ≤ n) (h1 : n ≤ 99999) : ∃ (y d : Int) (m : Nat), Is n y m d := by
  obtain ⟨k, rfl⟩ : ∃ k : Nat, n = k := ⟨n.toNat, by omega⟩
  exact parts_nat k h1

/-- The number of a month. -/
def mo (y m : Int) : Int := (y - 1900) * 12 + m - 1
theorem is_lt {n y m d n' y' m' d' : Int} (h : Is n y m d) (h' : Is n' y' m' d') (hl : mo y m < mo y' m') : n < n' := by
  obtain ⟨⟨h1, h2, h3, h4, h5, h6⟩, h7⟩ := h
  obtain ⟨⟨k1, k2, k3, k4, k5, k6⟩, k7⟩ := h'
  unfold mo at hl
  have a1 := ms_mono y m.toNat 13 (by omega) (by omega) (by omega)
  rw [ms_13] at a1
  have b2 := ms_le y' m'.toNat (by omega)
  unfold num at h7 k7
  by_cases e : y = y'
  · subst e
    have := ms_mono y m.toNat m'.toNat (by omega) (by omega) (by omega)
    omega
  · have := ys_mono (show y < y' by omega)
    omega
theorem mo_mono {n y m d n' y' m' d' : Int} (h : Is n y m d) (h' : Is n' y' m' d') (hl : n ≤ n') : mo y m ≤ mo y' m' := by
  apply Classical.byContradiction
  intro hc
  have := is_lt h' h (by omega)
  omega

theorem month_top (y : Int) (m : Nat) (h1 : 1900 ≤ y) (h3 : 1 ≤ m) (h4 : m ≤ 12) (h : mo y m < 3285) : num y m 1 + len y m ≤ 99985 := by
  unfold mo at h
  unfold num
  simp only [Int.toNat_natCast]
  by_cases e : y = 2173
  · subst e
    have a1 : ms 2173 10 = 273 := by decide
    have a2 := ms_mono 2173 m 10 h3 (by omega) (by omega)
    have a3 : ys 2173 = 99712 := by decide
    omega
  · have a1 := ms_mono y m 13 h3 (by omega) (by omega)
    rw [ms_13] at a1
    have a2 := ys_mono (show y < 2173 by omega)
    have a3 : ys 2173 = 99712 := by decide
    omega

theorem text_back {n : Int} {l : List UInt8} (h : Text n l) : ∃ Y m D : Nat, Is n Y m D ∧ Lib.atoi (l.take 4) = some (Y : Int) ∧ Lib.atoi ((l.drop 5).take 2) = some (m : Int) ∧ Lib.atoi (l.drop 8) = some (D : Int) := by
  obtain ⟨y, d, m, hi, rfl⟩ := h
  obtain ⟨Y, rfl⟩ : ∃ Y : Nat, y = Y := ⟨y.toNat, by have := hi.1.1; omega⟩
  obtain ⟨D, rfl⟩ : ∃ D : Nat, d = D := ⟨d.toNat, by have := hi.1.2.2.2.2.1; omega⟩
  have hlen : ((D : Int)) ≤ 31 := by
    have a1 := hi.1.2.2.2.2.2
    have a2 := len_pos Y m (by have := hi.1.2.2.1; omega) (by have := hi.1.2.2.2.1; omega)
    simp at a1
    omega
  obtain ⟨b1, b2, b3, b4, b5, -⟩ := hi.1
  exact ⟨Y, m, D, hi, atoi_four4 Y (by omega), atoi_two2 m (by omega), atoi_two2 D (by omega)⟩
end Go.Proofs.YtefbedineniejaaDoor.Dy
