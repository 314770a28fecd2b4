/- Days as text: the plain part. -/
import Derived.Test.YtefbedineniejaaDoorDayM
import Derived.Lib.Atoi
import Derived.Lib.ItoaNum
namespace Go.Proofs.YtefbedineniejaaDoor.Dy

def dg (k : Nat) : UInt8 := UInt8.ofNat (48 + k)
def two2 (n : Nat) : List UInt8 := [dg (n / 10), dg (n % 10)]
def four4 (n : Nat) : List UInt8 := [dg (n / 1000), dg (n / 100 % 10), dg (n / 10 % 10), dg (n % 10)]
def txt (y m d : Nat) : List UInt8 := four4 y ++ [45] ++ two2 m ++ [45] ++ two2 d
/-- l is how the day n is written. -/
def Text (n : Int) (l : List UInt8) : Prop := ∃ (y d : Int) (m : Nat), Is n y m d ∧ l = txt y.toNat m d.toNat

theorem dec4 (n : Nat) (h1 : 1000 ≤ n) (h2 : n < 10000) : Lib.decDigits n = four4 n := by
  rw [Lib.decDigits, dif_neg (by omega), Lib.decDigits, dif_neg (by omega), Lib.decDigits_two (by omega) (by omega)]
  simp only [four4, dg, List.cons_append, List.nil_append, Nat.div_div_eq_div_mul]
theorem dec2 (n : Nat) (h1 : ¬ n < 10) (h2 : n < 100) : Lib.decDigits n = two2 n := Lib.decDigits_two h1 h2
theorem dec1 (n : Nat) (h1 : n < 10) : [48] ++ Lib.decDigits n = two2 n := by
  rw [Lib.decDigits_one h1, two2, Nat.div_eq_of_lt h1, Nat.mod_eq_of_lt h1]; rfl
theorem digitVal_dg (k : Nat) (h : k < 10) : Lib.digitVal (dg k) = some k := by
  unfold Lib.digitVal dg
  rw [UInt8.toNat_ofNat', if_pos (by omega)]
  congr 1
  omega
theorem dg_ne (k : Nat) (h : k < 10) (c : UInt8) (hc : c.toNat < 48) : dg k ≠ c := by
  intro e
  have := congrArg UInt8.toNat e
  unfold dg at this
  rw [UInt8.toNat_ofNat'] at this
  omega
theorem atoi_two2 (n : Nat) (h : n < 100) : Lib.atoi (two2 n) = some (n : Int) := by
  have a1 := dg_ne (n / 10) (by omega) 45 (by decide)
  have a2 := dg_ne (n / 10) (by omega) 43 (by decide)
  simp only [two2, Lib.atoi, beq_iff_eq, if_neg a1, if_neg a2, Lib.decNat, List.isEmpty_cons, Lib.decFrom, digitVal_dg _ (show n / 10 < 10 by omega), digitVal_dg _ (show n % 10 < 10 by omega)]
  simp
  omega
theorem atoi_four4 (n : Nat) (h : n < 10000) : Lib.atoi (four4 n) = some (n : Int) := by
  have a1 := dg_ne (n / 1000) (by omega) 45 (by decide)
  have a2 := dg_ne (n / 1000) (by omega) 43 (by decide)
  simp only [four4, Lib.atoi, beq_iff_eq, if_neg a1, if_neg a2, Lib.decNat, List.isEmpty_cons, Lib.decFrom, digitVal_dg _ (show n / 1000 < 10 by omega), digitVal_dg _ (show n / 100 % 10 < 10 by omega), digitVal_dg _ (show n / 10 % 10 < 10 by omega), digitVal_dg _ (show n % 10 < 10 by omega)]
  simp
  omega
theorem txt_len (y m d : Nat) : (txt y m d).length = 10 := rfl
theorem text_uniq {n : Int} {l l' : List UInt8} (h : Text n l) (h' : Text n l') : l = l' := by
  obtain ⟨y, d, m, hi, rfl⟩ := h
  obtain ⟨y', d', m', hi', rfl⟩ := h'
  obtain ⟨rfl, e, rfl⟩ := is_uniq hi hi'
  obtain rfl : m = m' := by omega
  rfl
end Go.Proofs.YtefbedineniejaaDoor.Dy
