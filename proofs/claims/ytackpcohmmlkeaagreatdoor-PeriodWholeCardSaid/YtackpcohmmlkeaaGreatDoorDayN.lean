/- Joined: DayM, DayX, DayN. -/
import Derived.Test.YtackpcohmmlkeaaGreatDoorRows
import Derived.Lib.Atoi
import Derived.Lib.ItoaNum

/- DayM: Days: the plain arithmetic. -/
section
namespace Go.Proofs.YtackpcohmmlkeaaGreatDoor.Dy

def leap (y : Int) : Bool := decide (y % 4 = 0) && (!decide (y % 100 = 0) || decide (y % 400 = 0))
def lens : List Int := [0, 31, 28, 31, 30, 31, 30, 31, 31, 30, 31, 30, 31]
/-- How many days a month has. -/
def len (y : Int) (m : Nat) : Int := if m = 2 ∧ leap y = true then 29 else lens.getD m 0
/-- The days ahead of a year, ahead of a month in its year. -/
def ys (y : Int) : Int := (y - 1900) * 365 + (y - 1) / 4 - (y - 1) / 100 + (y - 1) / 400 - 460
def ms (y : Int) : Nat → Int
  | 0 => 0
  | 1 => 0
  | m + 2 => ms y (m + 1) + len y (m + 1)
/-- These are a day's year, month and day. -/
def Ok (y m d : Int) : Prop := 1900 ≤ y ∧ y ≤ 2200 ∧ 1 ≤ m ∧ m ≤ 12 ∧ 1 ≤ d ∧ d ≤ len y m.toNat
instance (y m d : Int) : Decidable (Ok y m d) := by unfold Ok; infer_instance
def num (y m d : Int) : Int := d - 1 + ms y m.toNat + ys y
/-- A day's number. -/
def ofN (y m d : Int) : Option Int := if Ok y m d ∧ num y m d ≤ 99999 then some (num y m d) else none
/-- n is the day y, m, d. -/
def Is (n y m d : Int) : Prop := Ok y m d ∧ num y m d = n

theorem ms_one (y : Int) : ms y 1 = 0 := rfl
theorem ms_succ (y : Int) (m : Nat) (h : 1 ≤ m) : ms y (m + 1) = ms y m + len y m := by
  cases m with
  | zero => omega
  | succ m => rfl
theorem len_pos (y : Int) (m : Nat) (h1 : 1 ≤ m) (h2 : m ≤ 12) : 28 ≤ len y m ∧ len y m ≤ 31 := by
  unfold len
  split
  · omega
  · have : ∀ m : Fin 13, 1 ≤ m.val → 28 ≤ lens.getD m.val 0 ∧ lens.getD m.val 0 ≤ 31 := by decide
    exact this ⟨m, by omega⟩ h1
def yl (y : Int) : Int := if leap y = true then 366 else 365
theorem ms_13 (y : Int) : ms y 13 = yl y := by
  simp only [ms, len, yl, lens]
  by_cases h : leap y = true <;> simp [h]
theorem leap_iff (y : Int) : leap y = true ↔ (y % 4 = 0 ∧ (¬ y % 100 = 0 ∨ y % 400 = 0)) := by simp [leap]
theorem ys_succ (y : Int) : ys (y + 1) = ys y + yl y := by
  unfold ys yl
  by_cases h : leap y = true
  · rw [if_pos h]; rw [leap_iff] at h; omega
  · rw [if_neg h]; rw [leap_iff] at h; omega
theorem yl_ge (y : Int) : 365 ≤ yl y ∧ yl y ≤ 366 := by unfold yl; split <;> omega
theorem ys_1900 : ys 1900 = 0 := by decide
theorem ys_bd (y : Int) (_ : 1900 ≤ y) (h2 : ys y ≤ 99999) : y ≤ 2180 := by unfold ys at h2; omega
theorem ys_le (y : Int) (h1 : 1900 ≤ y) (h2 : y ≤ 2200) : 0 ≤ ys y ∧ ys y ≤ 200000 := by unfold ys; omega
theorem ms_le (y : Int) (m : Nat) (h : m ≤ 13) : 0 ≤ ms y m ∧ ms y m ≤ 31 * m := by
  induction m with
  | zero => simp [ms]
  | succ m ih =>
    by_cases hm : 1 ≤ m
    · rw [ms_succ y m hm]
      have := len_pos y m hm (by omega)
      have := ih (by omega)
      omega
    · obtain rfl : m = 0 := by omega
      simp [ms]
theorem num_bd {y m d : Int} (h : Ok y m d) : 0 ≤ num y m d := by
  obtain ⟨h1, h2, h3, h4, h5, h6⟩ := h
  have := ms_le y m.toNat (by omega)
  have := ys_le y h1 h2
  unfold num
  omega
theorem ofN_some {n y m d : Int} (h : ofN y m d = some n) : Is n y m d ∧ 0 ≤ n ∧ n ≤ 99999 := by
  unfold ofN at h
  split at h
  · rename_i hc
    cases h
    exact ⟨⟨hc.1, rfl⟩, num_bd hc.1, hc.2⟩
  · cases h
theorem ofN_is {n y m d : Int} (h : Is n y m d) (hn : n ≤ 99999) : ofN y m d = some n := by
  unfold ofN
  rw [h.2, if_pos ⟨h.1, hn⟩]

theorem ms_mono (y : Int) (a b : Nat) (h1 : 1 ≤ a) (h : a < b) (hb : b ≤ 13) : ms y a + len y a ≤ ms y b := by
  induction b with
  | zero => omega
  | succ b ih =>
    rw [ms_succ y b (by omega)]
    by_cases e : a = b
    · subst e; omega
    · have := ih (by omega) (by omega)
      have := len_pos y b (by omega) (by omega)
      omega
theorem ys_mono {a b : Int} (h : a < b) : ys a + yl a ≤ ys b := by
  have h1 := ys_succ a
  have : ys (a + 1) ≤ ys b := by unfold ys; omega
  omega
/-- A day's parts are the only ones. -/
theorem is_uniq {n y m d y' m' d' : Int} (h : Is n y m d) (h' : Is n y' m' d') : y = y' ∧ m = m' ∧ d = d' := by
  obtain ⟨⟨h1, h2, h3, h4, h5, h6⟩, h7⟩ := h
  obtain ⟨⟨k1, k2, k3, k4, k5, k6⟩, k7⟩ := h'
  unfold num at h7 k7
  have a1 := ms_mono y m.toNat 13 (by omega) (by omega) (by omega)
  have a2 := ms_mono y' m'.toNat 13 (by omega) (by omega) (by omega)
  rw [ms_13] at a1 a2
  have b1 := ms_le y m.toNat (by omega)
  have b2 := ms_le y' m'.toNat (by omega)
  have e : y = y' := by
    rcases Int.lt_trichotomy y y' with h | h | h
    · have := ys_mono h; omega
    · exact h
    · have := ys_mono h; omega
  subst e
  have em : m = m' := by
    rcases Int.lt_trichotomy m m' with h | h | h
    · have := ms_mono y m.toNat m'.toNat (by omega) (by omega) (by omega); omega
    · exact h
    · have := ms_mono y m'.toNat m.toNat (by omega) (by omega) (by omega); omega
  subst em
  exact ⟨rfl, rfl, by omega⟩
end Go.Proofs.YtackpcohmmlkeaaGreatDoor.Dy
end

/- DayX: Days as text: the plain part. -/
section
namespace Go.Proofs.YtackpcohmmlkeaaGreatDoor.Dy

def dg (k : Nat) : UInt8 := UInt8.ofNat (48 + k)
def two2 (n : Nat) : List UInt8 := [dg (n / 10), dg (n % 10)]
def four4 (n : Nat) : List UInt8 := [dg (n / 1000), dg (n / 100 % 10), dg (n / 10 % 10), dg (n % 10)]
def txt (y m d : Nat) : List UInt8 := four4 y ++ [45] ++ two2 m ++ [45] ++ two2 d
/-- l is how the day n is written. -/
def Text (n : Int) (l : List UInt8) : Prop := ∃ (y d : Int) (m : Nat), Is n y m d ∧ l = txt y.toNat m d.toNat

theorem dec4 (n : Nat) (h1 : 1000 ≤ n) (h2 : n < 10000) : Lib.decDigits n = four4 n := by
  rw [Lib.decDigits, dif_neg (by omega), Lib.decDigits, dif_neg (by omega), Lib.decDigits_two (by omega) (by omega)]
  simp only [four4, dg, List.cons_append, List.nil_append, Nat.div_div_eq_div_mul]
theorem dec2 (n : Nat) (h1 : ¬ n < 10) (h2 : n < 100) : Lib.decDigits n = two2 n := Lib.decDigits_two h1 h2
theorem dec1 (n : Nat) (h1 : n < 10) : [48] ++ Lib.decDigits n = two2 n := by
  rw [Lib.decDigits_one h1, two2, Nat.div_eq_of_lt h1, Nat.mod_eq_of_lt h1]; rfl
theorem digitVal_dg (k : Nat) (h : k < 10) : Lib.digitVal (dg k) = some k := by
  unfold Lib.digitVal dg
  rw [UInt8.toNat_ofNat', if_pos (by omega)]
  congr 1
  omega
theorem dg_ne (k : Nat) (h : k < 10) (c : UInt8) (hc : c.toNat < 48) : dg k ≠ c := by
  intro e
  have := congrArg UInt8.toNat e
  unfold dg at this
  rw [UInt8.toNat_ofNat'] at this
  omega
theorem atoi_two2 (n : Nat) (h : n < 100) : Lib.atoi (two2 n) = some (n : Int) := by
  have a1 := dg_ne (n / 10) (by omega) 45 (by decide)
  have a2 := dg_ne (n / 10) (by omega) 43 (by decide)
  simp only [two2, Lib.atoi, beq_iff_eq, if_neg a1, if_neg a2, Lib.decNat, List.isEmpty_cons, Lib.decFrom, digitVal_dg _ (show n / 10 < 10 by omega), digitVal_dg _ (show n % 10 < 10 by omega)]
  simp
  omega
theorem atoi_four4 (n : Nat) (h : n < 10000) : Lib.atoi (four4 n) = some (n : Int) := by
  have a1 := dg_ne (n / 1000) (by omega) 45 (by decide)
  have a2 := dg_ne (n / 1000) (by omega) 43 (by decide)
  simp only [four4, Lib.atoi, beq_iff_eq, if_neg a1, if_neg a2, Lib.decNat, List.isEmpty_cons, Lib.decFrom, digitVal_dg _ (show n / 1000 < 10 by omega), digitVal_dg _ (show n / 100 % 10 < 10 by omega), digitVal_dg _ (show n / 10 % 10 < 10 by omega), digitVal_dg _ (show n % 10 < 10 by omega)]
  simp
  omega
theorem txt_len (y m d : Nat) : (txt y m d).length = 10 := rfl
theorem text_uniq {n : Int} {l l' : List UInt8} (h : Text n l) (h' : Text n l') : l = l' := by
  obtain ⟨y, d, m, hi, rfl⟩ := h
  obtain ⟨y', d', m', hi', rfl⟩ := h'
  obtain ⟨rfl, e, rfl⟩ := is_uniq hi hi'
  obtain rfl : m = m' := by omega
  rfl
end Go.Proofs.YtackpcohmmlkeaaGreatDoor.Dy
end

/- DayN: Days: one day and the next; months; the plain part. -/
section
namespace Go.Proofs.YtackpcohmmlkeaaGreatDoor.Dy

theorem is_next {n y d : Int} {m : Nat} (h : Is n y m d) (hd : d < len y m) : Is (n + 1) y m (d + 1) := by
  obtain ⟨⟨h1, h2, h3, h4, h5, h6⟩, h7⟩ := h
  simp only [Int.toNat_natCast] at h6
  refine ⟨⟨h1, h2, h3, h4, by omega, by simp only [Int.toNat_natCast]; omega⟩, ?_⟩
  unfold num at *
  omega
theorem is_first {n y d : Int} {m : Nat} (h : Is n y m d) (hd : d = len y m) (hm : m < 12) : Is (n + 1) y (m + 1 : Nat) 1 := by
  obtain ⟨⟨h1, h2, h3, h4, h5, h6⟩, h7⟩ := h
  have hl := len_pos y (m + 1) (by omega) (by omega)
  refine ⟨⟨h1, h2, by omega, by omega, by omega, by simp only [Int.toNat_natCast]; omega⟩, ?_⟩
  unfold num at *
  simp only [Int.toNat_natCast] at *
  rw [ms_succ y m (by omega)]
  omega
theorem is_year {n y d : Int} (h : Is n y 12 d) (hd : d = len y 12) (hy : y < 2200) : Is (n + 1) (y + 1) (1 : Nat) 1 := by
  obtain ⟨⟨h1, h2, h3, h4, h5, h6⟩, h7⟩ := h
  have hl := len_pos (y + 1) 1 (by omega) (by omega)
  refine ⟨⟨by omega, by omega, by omega, by omega, by omega, by simp only [Int.toNat_natCast]; omega⟩, ?_⟩
  have a1 := ms_succ y 12 (by omega)
  have a2 := ms_13 y
  rw [show 12 + 1 = 13 from rfl] at a1
  have a3 := ys_succ y
  unfold num at *
  simp only [Int.toNat_natCast, ms_one] at *
  rw [show (12 : Int).toNat = 12 from rfl] at h7
  omega
theorem is_y {n y m d : Int} (h : Is n y m d) (hn : n ≤ 99999) : y ≤ 2180 := by
  obtain ⟨⟨h1, h2, h3, h4, h5, h6⟩, h7⟩ := h
  have a := ms_le y m.toNat (by omega)
  unfold num at h7
  exact ys_bd y h1 (by omega)

/-- Every day has its parts; the next one's follow from them. -/
theorem next_cases {n y d : Int} {m : Nat} (h : Is n y m d) (hn : n ≤ 99999) :
    (d < len y m ∧ Is (n + 1) y m (d + 1)) ∨ (d = len y m ∧ m < 12 ∧ Is (n + 1) y (m + 1 : Nat) 1) ∨ (d = len y m ∧ m = 12 ∧ Is (n + 1) (y + 1) (1 : Nat) 1) := by
  have hy := is_y h hn
  have h6 := h.1.2.2.2.2.2
  have h4 := h.1.2.2.2.1
  simp only [Int.toNat_natCast] at h6
  by_cases hd : d < len y m
  · exact Or.inl ⟨hd, is_next h hd⟩
  · have e : d = len y m := by omega
    by_cases hm : m < 12
    · exact Or.inr (Or.inl ⟨e, hm, is_first h e hm⟩)
    · have em : m = 12 := by omega
      subst em
      exact Or.inr (Or.inr ⟨e, rfl, is_year h e (by omega)⟩)
theorem parts_nat (k : Nat) (h : (k : Int) ≤ 99999) : ∃ (y d : Int) (m : Nat), Is k y m d := by
  induction k with
  | zero => exact ⟨1900, 1, 1, by constructor <;> decide⟩
  | succ k ih =>
    obtain ⟨y, d, m, hi⟩ := ih (by omega)
    rw [show ((k + 1 : Nat) : Int) = (k : Int) + 1 from by omega]
    rcases next_cases hi (by omega) with ⟨-, h1⟩ | ⟨-, -, h1⟩ | ⟨-, -, h1⟩
    all_goals exact ⟨_, _, _, h1⟩
theorem parts_ex (n : Int) (h0 : 0 ≤ n) (h1 : n ≤ 99999) : ∃ (y d : Int) (m : Nat), Is n y m d := by
  obtain ⟨k, rfl⟩ : ∃ k : Nat, n = k := ⟨n.toNat, by omega⟩
  exact parts_nat k h1

/-- The number of a month. -/
def mo (y m : Int) : Int := (y - 1900) * 12 + m - 1
theorem is_lt {n y m d n' y' m' d' : Int} (h : Is n y m d) (h' : Is n' y' m' d') (hl : mo y m < mo y' m') : n < n' := by
  obtain ⟨⟨h1, h2, h3, h4, h5, h6⟩, h7⟩ := h
  obtain ⟨⟨k1, k2, k3, k4, k5, k6⟩, k7⟩ := h'
  unfold mo at hl
  have a1 := ms_mono y m.toNat 13 (by omega) (by omega) (by omega)
  rw [ms_13] at a1
  have b2 := ms_le y' m'.toNat (by omega)
  unfold num at h7 k7
  by_cases e : y = y'
  · subst e
    have := ms_mono y m.toNat m'.toNat (by omega) (by omega) (by omega)
    omega
  · have := ys_mono (show y < y' by omega)
    omega
theorem mo_mono {n y m d n' y' m' d' : Int} (h : Is n y m d) (h' : Is n' y' m' d') (hl : n ≤ n') : mo y m ≤ mo y' m' := by
  apply Classical.byContradiction
  intro hc
  have := is_lt h' h (by omega)
  omega

theorem month_top (y : Int) (m : Nat) (h1 : 1900 ≤ y) (h3 : 1 ≤ m) (h4 : m ≤ 12) (h : mo y m < 3285) : num y m 1 + len y m ≤ 99985 := by
  unfold mo at h
  unfold num
  simp only [Int.toNat_natCast]
  by_cases e : y = 2173
  · subst e
    have a1 : ms 2173 10 = 273 := by decide
    have a2 := ms_mono 2173 m 10 h3 (by omega) (by omega)
    have a3 : ys 2173 = 99712 := by decide
    omega
  · have a1 := ms_mono y m 13 h3 (by omega) (by omega)
    rw [ms_13] at a1
    have a2 := ys_mono (show y < 2173 by omega)
    have a3 : ys 2173 = 99712 := by decide
    omega

theorem text_back {n : Int} {l : List UInt8} (h : Text n l) : ∃ Y m D : Nat, Is n Y m D ∧ Lib.atoi (l.take 4) = some (Y : Int) ∧ Lib.atoi ((l.drop 5).take 2) = some (m : Int) ∧ Lib.atoi (l.drop 8) = some (D : Int) := by
  obtain ⟨y, d, m, hi, rfl⟩ := h
  obtain ⟨Y, rfl⟩ : ∃ Y : Nat, y = Y := ⟨y.toNat, by have := hi.1.1; omega⟩
  obtain ⟨D, rfl⟩ : ∃ D : Nat, d = D := ⟨d.toNat, by have := hi.1.2.2.2.2.1; omega⟩
  have hlen : ((D : Int)) ≤ 31 := by
    have a1 := hi.1.2.2.2.2.2
    have a2 := len_pos Y m (by have := hi.1.2.2.1; omega) (by have := hi.1.2.2.2.1; omega)
    simp at a1
    omega
  obtain ⟨b1, b2, b3, b4, b5, -⟩ := hi.1
  exact ⟨Y, m, D, hi, atoi_four4 Y (by omega), atoi_two2 m (by omega), atoi_two2 D (by omega)⟩
end Go.Proofs.YtackpcohmmlkeaaGreatDoor.Dy
end
