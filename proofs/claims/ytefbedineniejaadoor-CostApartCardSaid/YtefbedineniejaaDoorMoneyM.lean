/- Amounts as text: plain laws. -/
import Derived.Lib.ItoaNum
import Derived.Sort.Defs
import Derived.WalkKit
namespace Go.Proofs.YtefbedineniejaaDoor
namespace Mn

def dg (U k : Nat) : Int := ((48 + U / 10 ^ k % 10 : Nat) : Int)
def rd (U : Nat) : Nat → List Int
  | 0 => []
  | k + 1 => rd U k ++ (if k = 2 then [46] else []) ++ [dg U k]

/-- units, a point, two digits. -/
def pr (U : Nat) : List UInt8 := Lib.decDigits (U / 100) ++ [46, UInt8.ofNat (48 + U / 10 % 10), UInt8.ofNat (48 + U % 10)]
/-- What money.Print writes. -/
def prt (n : Int) : List UInt8 := if n < 0 then 45 :: pr n.natAbs else pr n.natAbs

theorem rd_len (U k : Nat) : (rd U k).length = k + (if 2 < k then 1 else 0) := by
  induction k with
  | zero => rfl
  | succ k ih =>
    simp only [rd, List.length_append, ih]
    by_cases h : k = 2
    · subst h; rfl
    · rw [if_neg h]; simp
      by_cases h2 : 2 < k
      · rw [if_pos h2, if_pos (by omega)]
      · rw [if_neg h2, if_neg (by omega)]

theorem rd_le (U k : Nat) : (rd U k).length ≤ k + 1 := by rw [rd_len]; split <;> omega

theorem rd_three (U m : Nat) : rd U (m + 3) = [dg U 0, dg U 1, 46] ++ (List.range (m + 1)).map fun j => dg U (j + 2) := by
  induction m with
  | zero => rfl
  | succ m ih =>
    rw [show m + 1 + 3 = (m + 3) + 1 from rfl, rd, ih, if_neg (by omega), List.range_succ (n := m + 1), List.map_append]
    simp

theorem dg_u8 (U k : Nat) : UInt8.ofNat (dg U k).toNat = Lib.dg U k := by unfold dg Lib.dg; rw [Int.toNat_natCast]

theorem rd_end (U K : Nat) (h3 : 3 ≤ K) (h0 : U / 10 ^ K = 0) (hm : K = 3 ∨ 0 < U / 10 ^ (K - 1)) : (rd U K).reverse.map (fun x => UInt8.ofNat x.toNat) = pr U := by
  obtain ⟨m, rfl⟩ : ∃ m, K = m + 3 := ⟨K - 3, by omega⟩
  have hU : U < 10 ^ (m + 3) := by
    by_cases h : U < 10 ^ (m + 3)
    · exact h
    · have := Nat.div_pos (Nat.le_of_not_lt h) (Nat.pow_pos (n := m + 3) (by decide : 0 < 10)); omega
  have hp3 : 10 ^ (m + 3) = 10 ^ (m + 1) * 100 := by rw [Nat.pow_succ, Nat.pow_succ]; omega
  have hn : Lib.nDigits (U / 100) = m + 1 := by
    rcases hm with h | h
    · obtain rfl : m = 0 := by omega
      exact Lib.nDigits_small (by omega)
    · apply Lib.nDigits_unique
      · have : 10 ^ (m + 3 - 1) ≤ U := by
          by_cases g : 10 ^ (m + 3 - 1) ≤ U
          · exact g
          · rw [Nat.div_eq_of_lt (by omega)] at h; omega
        have e : 10 ^ (m + 3 - 1) = 10 ^ m * 100 := by rw [show m + 3 - 1 = m + 2 from rfl, Nat.pow_succ, Nat.pow_succ]; omega
        omega
      · omega
  rw [rd_three, pr, Lib.decDigits_eq, hn]
  simp only [List.reverse_append, List.map_append]
  congr 1
  · apply List.ext_getElem
    · simp
    · intro i h1 h2
      simp at h1 h2
      simp only [List.getElem_map, List.getElem_reverse, List.length_map, List.length_range, List.getElem_range, dg_u8]
      rw [show m + 1 - 1 - i + 2 = (m + 1 - 1 - i) + 1 + 1 from rfl, Lib.dg_succ, Lib.dg_succ, Nat.div_div_eq_div_mul]
  · simp only [List.reverse_cons, List.reverse_nil, List.nil_append, List.cons_append, List.map_cons, List.map_nil, dg_u8]
    simp [Lib.dg]

theorem dg_int (U k q : Nat) (hq : q = U / 10 ^ k) : dg U k = 48 + (q : Int) % 10 := by subst hq; unfold dg; omega
open Go.RowKit in
theorem rd_own {w : World} {base e : Nat} {v : Value} (U k q : Nat) (hq : q = U / 10 ^ k) (hk : k ≠ 2)
    (h : w.ownsRow base e 1 v ((rd U k).length + 1) ((rd U k).map (Value.int .u8) ++ [.int .u8 (48 + (q : Int) % 10)])) : w.ownsRow base e 1 v (rd U (k + 1)).length ((rd U (k + 1)).map (Value.int .u8)) := by
  simp only [rd, if_neg hk, List.append_nil, List.length_append, List.map_append, List.length_cons, List.length_nil, List.map_cons, List.map_nil, dg_int U k q hq]
  exact h
open Go.RowKit in
theorem rd_own2 {w : World} {base e : Nat} {v : Value} (U q : Nat) (hq : q = U / 10 ^ 2)
    (h : w.ownsRow base e 1 v ((rd U 2).length + 1 + 1) ((rd U 2).map (Value.int .u8) ++ [.int .u8 46] ++ [.int .u8 (48 + (q : Int) % 10)])) : w.ownsRow base e 1 v (rd U 3).length ((rd U 3).map (Value.int .u8)) := by
  have e1 : rd U 3 = rd U 2 ++ [46] ++ [dg U 2] := rfl
  rw [e1]
  simp only [List.length_append, List.map_append, List.length_cons, List.length_nil, List.map_cons, List.map_nil, dg_int U 2 q hq]
  exact h

theorem u64_div (U k q : Nat) (hU : U < 10 ^ 19) (hq : q = U / 10 ^ k) (hq1 : q / 10 = U / 10 ^ (k + 1)) : Value.int .u64 (IntKind.u64.wrap ((q : Int) / 10)) = .int .u64 ((U / 10 ^ (k + 1) : Nat) : Int) := by
  have h : q ≤ U := by rw [hq]; exact Nat.div_le_self _ _
  rw [IntKind.wrap_u64, ← hq1]
  congr 1
  omega

theorem wrap_u64_pos (n : Int) (h0 : 0 ≤ n) (h1 : n ≤ 9223372036854775807) : IntKind.u64.wrap n = (n.natAbs : Int) := by
  rw [IntWalk.u64_in _ ⟨by omega, by omega⟩]; omega
theorem wrap_u64_neg (n : Int) (h0 : n < 0) (h1 : -9223372036854775808 ≤ n) : IntKind.u64.wrap (-IntKind.u64.wrap n) = (n.natAbs : Int) := by
  simp only [IntKind.wrap_u64]
  omega
end Mn
end Go.Proofs.YtefbedineniejaaDoor
