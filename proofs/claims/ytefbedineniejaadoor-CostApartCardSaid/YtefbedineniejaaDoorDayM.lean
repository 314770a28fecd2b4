/- Days: the plain arithmetic. -/
import Derived.Test.YtefbedineniejaaDoorRows
namespace Go.Proofs.YtefbedineniejaaDoor.Dy

def leap (y : Int) : Bool := decide (y % 4 = 0) && (!decide (y % 100 = 0) || decide (y % 400 = 0))
def lens : List Int := [0, 31, 28, 31, 30, 31, 30, 31, 31, 30, 31, 30, 31]
/-- How many days a month has. -/
def len (y : Int) (m : Nat) : Int := if m = 2 ∧ leap y = true then 29 else lens.getD m 0
/-- The days ahead of a year, ahead of a month in its year. -/
def ys (y : Int) : Int := (y - 1900) * 365 + (y - 1) / 4 - (y - 1) / 100 + (y - 1) / 400 - 460
def ms (y : Int) : Nat → Int
  | 0 => 0
  | 1 => 0
  | m + 2 => ms y (m + 1) + len y (m + 1)
/-- These are a day's year, month and day. -/
def Ok (y m d : Int) : Prop := 1900 ≤ y ∧ y ≤ 2200 ∧ 1 ≤ m ∧ m ≤ 12 ∧ 1 ≤ d ∧ d ≤ len y m.toNat
instance (y m d : Int) : Decidable (Ok y m d) := by unfold Ok; infer_instance
def num (y m d : Int) : Int := d - 1 + ms y m.toNat + ys y
/-- A day's number. -/
def ofN (y m d : Int) : Option Int := if Ok y m d ∧ num y m d ≤ 99999 then some (num y m d) else none
/-- n is the day y, m, d. -/
def Is (n y m d : Int) : Prop := Ok y m d ∧ num y m d = n

theorem ms_one (y : Int) : ms y 1 = 0 := rfl
theorem ms_succ (y : Int) (m : Nat) (h : 1 ≤ m) : ms y (m + 1) = ms y m + len y m := by
  cases m with
  | zero => omega
  | succ m => rfl
theorem len_pos (y : Int) (m : Nat) (h1 : 1 ≤ m) (h2 : m ≤ 12) : 28 ≤ len y m ∧ len y m ≤ 31 := by
  unfold len
  split
  · omega
  · have : ∀ m : Fin 13, 1 ≤ m.val → 28 ≤ lens.getD m.val 0 ∧ lens.getD m.val 0 ≤ 31 := by decide
    exact this ⟨m, by omega⟩ h1
def yl (y : Int) : Int := if leap y = true then 366 else 365
theorem ms_13 (y : Int) : ms y 13 = yl y := by
  simp only [ms, len, yl, lens]
  by_cases h : leap y = true <;> simp [h]
theorem leap_iff (y : Int) : leap y = true ↔ (y % 4 = 0 ∧ (¬ y % 100 = 0 ∨ y % 400 = 0)) := by simp [leap]
theorem ys_succ (y : Int) : ys (y + 1) = ys y + yl y := by
  unfold ys yl
  by_cases h : leap y = true
  · rw [if_pos h]; rw [leap_iff] at h; omega
  · rw [if_neg h]; rw [leap_iff] at h; omega
theorem yl_ge (y : Int) : 365 ≤ yl y ∧ yl y ≤ 366 := by unfold yl; split <;> omega
theorem ys_1900 : ys 1900 = 0 := by decide
theorem ys_bd (y : Int) (_ : 1900 ≤ y) (h2 : ys y ≤ 99999) : y ≤ 2180 := by unfold ys at h2; omega
theorem ys_le (y : Int) (h1 : 1900 ≤ y) (h2 : y ≤ 2200) : 0 ≤ ys y ∧ ys y ≤ 200000 := by unfold ys; omega
theorem ms_le (y : Int) (m : Nat) (h : m ≤ 13) : 0 ≤ ms y m ∧ ms y m ≤ 31 * m := by
  induction m with
  | zero => simp [ms]
  | succ m ih =>
    by_cases hm : 1 ≤ m
    · rw [ms_succ y m hm]
      have := len_pos y m hm (by omega)
      have := ih (by omega)
      omega
    · obtain rfl : m = 0 := by omega
      simp [ms]
theorem num_bd {y m d : Int} (h : Ok y m d) : 0 ≤ num y m d := by
  obtain ⟨h1, h2, h3, h4, h5, h6⟩ := h
  have := ms_le y m.toNat (by omega)
  have := ys_le y h1 h2
  unfold num
  omega
theorem ofN_some {n y m d : Int} (h : ofN y m d = some n) : Is n y m d ∧ 0 ≤ n ∧ n ≤ 99999 := by
  unfold ofN at h
  split at h
  · rename_i hc
    cases h
    exact ⟨⟨hc.1, rfl⟩, num_bd hc.1, hc.2⟩
  · cases h
theorem ofN_is {n y m d : Int} (h : Is n y m d) (hn : n ≤ 99999) : ofN y m d = some n := by
  unfold ofN
  rw [h.2, if_pos ⟨h.1, hn⟩]

theorem ms_mono (y : Int) (a b : Nat) (h1 : 1 ≤ a) (h : a < b) (hb : b ≤ 13) : ms y a + len y a ≤ ms y b := by
  induction b with
  | zero => omega
  | succ b ih =>
    rw [ms_succ y b (by omega)]
    by_cases e : a = b
    · subst e; omega
    · have := ih (by omega) (by omega)
      have := len_pos y b (by omega) (by omega)
      omega
theorem ys_mono {a b : Int} (h : a < b) : ys a + yl a ≤ ys b := by
  have h1 := ys_succ a
  have : ys (a + 1) ≤ ys b := by unfold ys; omega
  omega
/-- A day's parts are the only ones. -/
theorem is_uniq {n y m d y' m' d' : Int} (h : Is n y m d) (h' : Is n y' m' d') : y = y' ∧ m = m' ∧ d = d' := by
  obtain ⟨⟨h1, h2, h3, h4, h5, h6⟩, h7⟩ := h
  obtain ⟨⟨k1, k2, k3, k4, k5, k6⟩, k7⟩ := h'
  unfold num at h7 k7
  have a1 := ms_mono y m.toNat 13 (by omega) (by omega) (by omega)
  have a2 := ms_mono y' m'.toNat 13 (by omega) (by omega) (by omega)
  rw [ms_13] at a1 a2
  have b1 := ms_le y m.toNat (by omega)
  have b2 := ms_le y' m'.toNat (by omega)
  have e : y = y' := by
    rcases Int.lt_trichotomy y y' with h | h | h
    · have := ys_mono h; omega
    · exact h
    · have := ys_mono h; omega
  subst e
  have em : m = m' := by
    rcases Int.lt_trichotomy m m' with h | h | h
    · have := ms_mono y m.toNat m'.toNat (by omega) (by omega) (by omega); omega
    · exact h
    · have := ms_mono y m'.toNat m.toNat (by omega) (by omega) (by omega); omega
  subst em
  exact ⟨rfl, rfl, by omega⟩
end Go.Proofs.YtefbedineniejaaDoor.Dy
