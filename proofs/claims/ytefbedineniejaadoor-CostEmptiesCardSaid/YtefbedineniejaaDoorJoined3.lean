/- Joined: DayM, MoneyM. -/
import Derived.Test.YtefbedineniejaaDoorRows
import Derived.Lib.ItoaNum
import Derived.Sort.Defs
import Derived.WalkKit

section
/- Days: the plain arithmetic. -/
namespace Go.Proofs.YtefbedineniejaaDoor.Dy

def leap (y : Int) : Bool := decide (y % 4 = 0) && (!decide (y % 100 = 0) || decide (y % 400 = 0))
def lens : List Int := [0, 31, 28, 31, 30, 31, 30, 31, 31, 30, 31, 30, 31]
/-- How many days a month has. -/
def len (y : Int) (m : Nat) : Int := if m = 2 ∧ leap y = true then 29 else lens.getD m 0
/-- The days ahead of a year, ahead of a month in its year. -/
def ys (y : Int) : Int := (y - 1900) * 365 + (y - 1) / 4 - (y - 1) / 100 + (y - 1) / 400 - 460
def ms (y : Int) : Nat → Int
  | 0 => 0
  | 1 => 0
  | m + 2 => ms y (m + 1) + len y (m + 1)
/-- These are a day's year, month and day. -/
def Ok (y m d : Int) : Prop := 1900 ≤ y ∧ y ≤ 2200 ∧ 1 ≤ m ∧ m ≤ 12 ∧ 1 ≤ d ∧ d ≤ len y m.toNat
instance (y m d : Int) : Decidable (Ok y m d) := by unfold Ok; infer_instance
def num (y m d : Int) : Int := d - 1 + ms y m.toNat + ys y
/-- A day's number. -/
def ofN (y m d : Int) : Option Int := if Ok y m d ∧ num y m d ≤ 99999 then some (num y m d) else none
/-- n is the day y, m, d. -/
def Is (n y m d : Int) : Prop := Ok y m d ∧ num y m d = n

theorem ms_one (y : Int) : ms y 1 = 0 := rfl
theorem ms_succ (y : Int) (m : Nat) (h : 1 ≤ m) : ms y (m + 1) = ms y m + len y m := by
  cases m with
  | zero => omega
  | succ m => rfl
theorem len_pos (y : Int) (m : Nat) (h1 : 1 ≤ m) (h2 : m ≤ 12) : 28 ≤ len y m ∧ len y m ≤ 31 := by
  unfold len
  split
  · omega
  · have : ∀ m : Fin 13, 1 ≤ m.val → 28 ≤ lens.getD m.val 0 ∧ lens.getD m.val 0 ≤ 31 := by decide
    exact this ⟨m, by omega⟩ h1
def yl (y : Int) : Int := if leap y = true then 366 else 365
theorem ms_13 (y : Int) : ms y 13 = yl y := by
  simp only [ms, len, yl, lens]
  by_cases h : leap y = true <;> simp [h]
theorem leap_iff (y : Int) : leap y = true ↔ (y % 4 = 0 ∧ (¬ y % 100 = 0 ∨ y % 400 = 0)) := by simp [leap]
theorem ys_succ (y : Int) : ys (y + 1) = ys y + yl y := by
  unfold ys yl
  by_cases h : leap y = true
  · rw [if_pos h]; rw [leap_iff] at h; omega
  · rw [if_neg h]; rw [leap_iff] at h; omega
theorem yl_ge (y : Int) : 365 ≤ yl y ∧ yl y ≤ 366 := by unfold yl; split <;> omega
theorem ys_1900 : ys 1900 = 0 := by decide
theorem ys_bd (y : Int) (_ : 1900 ≤ y) (h2 : ys y ≤ 99999) : y ≤ 2180 := by unfold ys at h2; omega
theorem ys_le (y : Int) (h1 : 1900 ≤ y) (h2 : y ≤ 2200) : 0 ≤ ys y ∧ ys y ≤ 200000 := by unfold ys; omega
theorem ms_le (y : Int) (m : Nat) (h : m ≤ 13) : 0 ≤ ms y m ∧ ms y m ≤ 31 * m := by
  induction m with
  | zero => simp [ms]
  | succ m ih =>
    by_cases hm : 1 ≤ m
    · rw [ms_succ y m hm]
      have := len_pos y m hm (by omega)
      have := ih (by omega)
      omega
    · obtain rfl : m = 0 := by omega
      simp [ms]
theorem num_bd {y m d : Int} (h : Ok y m d) : 0 ≤ num y m d := by
  obtain ⟨h1, h2, h3, h4, h5, h6⟩ := h
  have := ms_le y m.toNat (by omega)
  have := ys_le y h1 h2
  unfold num
  omega
theorem ofN_some {n y m d : Int} (h : ofN y m d = some n) : Is n y m d ∧ 0 ≤ n ∧ n ≤ 99999 := by
  unfold ofN at h
  split at h
  · rename_i hc
    cases h
    exact ⟨⟨hc.1, rfl⟩, num_bd hc.1, hc.2⟩
  · cases h
theorem ofN_is {n y m d : Int} (h : Is n y m d) (hn : n ≤ 99999) : ofN y m d = some n := by
  unfold ofN
  rw [h.2, if_pos ⟨h.1, hn⟩]

theorem ms_mono (y : Int) (a b : Nat) (h1 : 1 ≤ a) (h : a < b) (hb : b ≤ 13) : ms y a + len y a ≤ ms y b := by
  induction b with
  | zero => omega
  | succ b ih =>
    rw [ms_succ y b (by omega)]
    by_cases e : a = b
    · subst e; omega
    · have := ih (by omega) (by omega)
      have := len_pos y b (by omega) (by omega)
      omega
theorem ys_mono {a b : Int} (h : a < b) : ys a + yl a ≤ ys b := by
  have h1 := ys_succ a
  have : ys (a + 1) ≤ ys b := by unfold ys; omega
  omega
/-- A day's parts are the only ones. -/
theorem is_uniq {n y m d y' m' d' : Int} (h : Is n y m d) (h' : Is n y' m' d') : y = y' ∧ m = m' ∧ d = d' := by
  obtain ⟨⟨h1, h2, h3, h4, h5, h6⟩, h7⟩ := h
  obtain ⟨⟨k1, k2, k3, k4, k5, k6⟩, k7⟩ := h'
  unfold num at h7 k7
  have a1 := ms_mono y m.toNat 13 (by omega) (by omega) (by omega)
  have a2 := ms_mono y' m'.toNat 13 (by omega) (by omega) (by omega)
  rw [ms_13] at a1 a2
  have b1 := ms_le y m.toNat (by omega)
  have b2 := ms_le y' m'.toNat (by omega)
  have e : y = y' := by
    rcases Int.lt_trichotomy y y' with h | h | h
    · have := ys_mono h; omega
    · exact h
    · have := ys_mono h; omega
  subst e
  have em : m = m' := by
    rcases Int.lt_trichotomy m m' with h | h | h
    · have := ms_mono y m.toNat m'.toNat (by omega) (by omega) (by omega); omega
    · exact h
    · have := ms_mono y m'.toNat m.toNat (by omega) (by omega) (by omega); omega
  subst em
  exact ⟨rfl, rfl, by omega⟩
end Go.Proofs.YtefbedineniejaaDoor.Dy
end

section
/- Amounts as text: plain laws. -/
namespace Go.Proofs.YtefbedineniejaaDoor
namespace Mn

def dg (U k : Nat) : Int := ((48 + U / 10 ^ k % 10 : Nat) : Int)
def rd (U : Nat) : Nat → List Int
  | 0 => []
  | k + 1 => rd U k ++ (if k = 2 then [46] else []) ++ [dg U k]

/-- units, a point, two digits. -/
def pr (U : Nat) : List UInt8 := Lib.decDigits (U / 100) ++ [46, UInt8.ofNat (48 + U / 10 % 10), UInt8.ofNat (48 + U % 10)]
/-- What money.Print writes. -/
def prt (n : Int) : List UInt8 := if n < 0 then 45 :: pr n.natAbs else pr n.natAbs

theorem rd_len (U k : Nat) : (rd U k).length = k + (if 2 < k then 1 else 0) := by
  induction k with
  | zero => rfl
  | succ k ih =>
    simp only [rd, List.length_append, ih]
    by_cases h : k = 2
    · subst h; rfl
    · rw [if_neg h]; simp
      by_cases h2 : 2 < k
      · rw [if_pos h2, if_pos (by omega)]
      · rw [if_neg h2, if_neg (by omega)]

theorem rd_le (U k : Nat) : (rd U k).length ≤ k + 1 := by rw [rd_len]; split <;> omega

theorem rd_three (U m : Nat) : rd U (m + 3) = [dg U 0, dg U 1, 46] ++ (List.range (m + 1)).map fun j => dg U (j + 2) := by
  induction m with
  | zero => rfl
  | succ m ih =>
    rw [show m + 1 + 3 = (m + 3) + 1 from rfl, rd, ih, if_neg (by omega), List.range_succ (n := m + 1), List.map_append]
    simp

theorem dg_u8 (U k : Nat) : UInt8.ofNat (dg U k).toNat = Lib.dg U k := by unfold dg Lib.dg; rw [Int.toNat_natCast]

theorem rd_end (U K : Nat) (h3 : 3 ≤ K) (h0 : U / 10 ^ K = 0) (hm : K = 3 ∨ 0 < U / 10 ^ (K - 1)) : (rd U K).reverse.map (fun x => UInt8.ofNat x.toNat) = pr U := by
  obtain ⟨m, rfl⟩ : ∃ m, K = m + 3 := ⟨K - 3, by omega⟩
  have hU : U < 10 ^ (m + 3) := by
    by_cases h : U < 10 ^ (m + 3)
    · exact h
    · have := Nat.div_pos (Nat.le_of_not_lt h) (Nat.pow_pos (n := m + 3) (by decide : 0 < 10)); omega
  have hp3 : 10 ^ (m + 3) = 10 ^ (m + 1) * 100 := by rw [Nat.pow_succ, Nat.pow_succ]; omega
  have hn : Lib.nDigits (U / 100) = m + 1 := by
    rcases hm with h | h
    · obtain rfl : m = 0 := by omega
      exact Lib.nDigits_small (by omega)
    · apply Lib.nDigits_unique
      · have : 10 ^ (m + 3 - 1) ≤ U := by
          by_cases g : 10 ^ (m + 3 - 1) ≤ U
          · exact g
          · rw [Nat.div_eq_of_lt (by omega)] at h; omega
        have e : 10 ^ (m + 3 - 1) = 10 ^ m * 100 := by rw [show m + 3 - 1 = m + 2 from rfl, Nat.pow_succ, Nat.pow_succ]; omega
        omega
      · omega
  rw [rd_three, pr, Lib.decDigits_eq, hn]
  simp only [List.reverse_append, List.map_append]
  congr 1
  · apply List.ext_getElem
    · simp
    · intro i h1 h2
      simp at h1 h2
      simp only [List.getElem_map, List.getElem_reverse, List.length_map, List.length_range, List.getElem_range, dg_u8]
      rw [show m + 1 - 1 - i + 2 = (m + 1 - 1 - i) + 1 + 1 from rfl, Lib.dg_succ, Lib.dg_succ, Nat.div_div_eq_div_mul]
  · simp only [List.reverse_cons, List.reverse_nil, List.nil_append, List.cons_append, List.map_cons, List.map_nil, dg_u8]
    simp [Lib.dg]

theorem dg_int (U k q : Nat) (hq : q = U / 10 ^ k) : dg U k = 48 + (q : Int) % 10 := by subst hq; unfold dg; omega
open Go.RowKit in
theorem rd_own {w : World} {base e : Nat} {v : Value} (U k q : Nat) (hq : q = U / 10 ^ k) (hk : k ≠ 2)
    (h : w.ownsRow base e 1 v ((rd U k).length + 1) ((rd U k).map (Value.int .u8) ++ [.int .u8 (48 + (q : Int) % 10)])) : w.ownsRow base e 1 v (rd U (k + 1)).length ((rd U (k + 1)).map (Value.int .u8)) := by
  simp only [rd, if_neg hk, List.append_nil, List.length_append, List.map_append, List.length_cons, List.length_nil, List.map_cons, List.map_nil, dg_int U k q hq]
  exact h
open Go.RowKit in
theorem rd_own2 {w : World} {base e : Nat} {v : Value} (U q : Nat) (hq : q = U / 10 ^ 2)
    (h : w.ownsRow base e 1 v ((rd U 2).length + 1 + 1) ((rd U 2).map (Value.int .u8) ++ [.int .u8 46] ++ [.int .u8 (48 + (q : Int) % 10)])) : w.ownsRow base e 1 v (rd U 3).length ((rd U 3).map (Value.int .u8)) := by
  have e1 : rd U 3 = rd U 2 ++ [46] ++ [dg U 2] := rfl
  rw [e1]
  simp only [List.length_append, List.map_append, List.length_cons, List.length_nil, List.map_cons, List.map_nil, dg_int U 2 q hq]
  exact h

theorem u64_div (U k q : Nat) (hU : U < 10 ^ 19) (hq : q = U / 10 ^ k) (hq1 : q / 10 = U / 10 ^ (k + 1)) : Value.int .u64 (IntKind.u64.wrap ((q : Int) / 10)) = .int .u64 ((U / 10 ^ (k + 1) : Nat) : Int) := by
  have h : q ≤ U := by rw [hq]; exact Nat.div_le_self _ _
  rw [IntKind.wrap_u64, ← hq1]
  congr 1
  omega

theorem wrap_u64_pos (n : Int) (h0 : 0 ≤ n) (h1 : n ≤ 9223372036854775807) : IntKind.u64.wrap n = (n.natAbs : Int) := by
  rw [IntWalk.u64_in _ ⟨by omega, by omega⟩]; omega
theorem wrap_u64_neg (n : Int) (h0 : n < 0) (h1 : -9223372036854775808 ≤ n) : IntKind.u64.wrap (-IntKind.u64.wrap n) = (n.natAbs : Int) := by
  simp only [IntKind.wrap_u64]
  omega
end Mn
end Go.Proofs.YtefbedineniejaaDoor
end
