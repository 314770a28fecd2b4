/- Amounts: what is written is read again. -/
import Derived.Test.YtefbedineniejaaDoorMoneyR
namespace Go.Proofs.YtefbedineniejaaDoor.Mn

theorem isDg_of {d : Nat} (h : d < 10) : isDg (UInt8.ofNat (48 + d)) = true := by
  unfold isDg
  rw [decide_eq_true_eq, UInt8.toNat_ofNat']
  omega
theorem dig_val {d : Nat} (h : d < 10) : ((UInt8.ofNat (48 + d)).toNat : Int) - 48 = d := by
  rw [UInt8.toNat_ofNat']; omega
theorem pstep_dig (st : Int × Nat) {d : Nat} (h : d < 10) (hs : st.2 < 16) : pstep st (UInt8.ofNat (48 + d)) = (st.1 * 10 + d, st.2 + 1) := by
  rw [pstep, if_pos (by rw [Bool.and_eq_true]; exact ⟨isDg_of h, by simpa using hs⟩), dig_val h]
theorem fold_dec (u : Nat) : ∀ st : Int × Nat, st.2 + Lib.nDigits u ≤ 16 → (Lib.decDigits u).foldl pstep st = (st.1 * 10 ^ Lib.nDigits u + u, st.2 + Lib.nDigits u) := by
  induction u using Nat.strongRecOn with
  | _ u ih =>
    intro st hs
    by_cases h : u < 10
    · rw [Lib.decDigits_one h, Lib.nDigits_small h] at *
      rw [List.foldl_cons, List.foldl_nil, pstep_dig st h (by omega)]
      simp
    · rw [Lib.decDigits, dif_neg h, List.foldl_append]
      rw [Lib.nDigits_big h] at hs ⊢
      rw [ih (u / 10) (by omega) st (by omega), List.foldl_cons, List.foldl_nil, pstep_dig _ (by omega) (by simp; omega)]
      simp only [Prod.mk.injEq]
      refine ⟨?_, by omega⟩
      rw [Int.pow_succ, Int.add_mul, Int.mul_assoc]
      omega
theorem nDigits_le (k u : Nat) (h : u < 10 ^ k) (hk : 1 ≤ k) : Lib.nDigits u ≤ k := by
  induction k generalizing u with
  | zero => omega
  | succ k ih =>
    by_cases h1 : u < 10
    · rw [Lib.nDigits_small h1]; omega
    · rw [Lib.nDigits_big h1]
      by_cases hk0 : k = 0
      · subst hk0; simp at h; omega
      · have := ih (u / 10) (by rw [Nat.pow_succ] at h; omega) (by omega)
        omega
theorem fold_pr (U : Nat) (h : U < 10 ^ 15) (st : Int × Nat) (h0 : st = (0, 0)) : (pr U).foldl pstep st = ((U : Int), Lib.nDigits (U / 100) + 2) := by
  subst h0
  have hn := nDigits_le 13 (U / 100) (by omega) (by omega)
  rw [pr, List.foldl_append, fold_dec _ _ (by simp; omega)]
  simp only [List.foldl_cons, List.foldl_nil]
  have e46 : ∀ s : Int × Nat, pstep s 46 = s := fun s => by rw [pstep, if_neg (by simp [isDg])]
  rw [e46, pstep_dig (d := U / 10 % 10) _ (by omega) (show 0 + Lib.nDigits (U / 100) < 16 by omega), pstep_dig (d := U % 10) _ (by omega) (show 0 + Lib.nDigits (U / 100) + 1 < 16 by omega)]
  simp
  omega
theorem pst_prt (n : Int) (h : n.natAbs < 10 ^ 15) : (pst (prt n)).1 = n.natAbs := by
  unfold pst prt
  by_cases hn : n < 0
  · rw [if_pos hn, List.foldl_cons, show pstep (0, 0) 45 = (0, 0) from by rw [pstep, if_neg (by simp [isDg])], fold_pr _ h _ rfl]
  · rw [if_neg hn, fold_pr _ h _ rfl]
theorem dec_head (u : Nat) : ∃ d r, d < 10 ∧ Lib.decDigits u = UInt8.ofNat (48 + d) :: r := by
  induction u using Nat.strongRecOn with
  | _ u ih =>
    by_cases h : u < 10
    · exact ⟨u, [], h, Lib.decDigits_one h⟩
    · obtain ⟨d, r, hd, e⟩ := ih (u / 10) (by omega)
      exact ⟨d, r ++ [UInt8.ofNat (48 + u % 10)], hd, by rw [Lib.decDigits, dif_neg h, e]; rfl⟩
theorem prt_head (n : Int) : (prt n).head? = some 45 ↔ n < 0 := by
  unfold prt
  by_cases hn : n < 0
  · simp [hn]
  · rw [if_neg hn]
    obtain ⟨d, r, hd, e⟩ := dec_head (n.natAbs / 100)
    rw [pr, e]
    constructor
    · intro h
      simp only [List.cons_append, List.head?_cons, Option.some.injEq] at h
      have h2 := congrArg UInt8.toNat h
      rw [UInt8.toNat_ofNat'] at h2
      have : UInt8.toNat 45 = 45 := rfl
      omega
    · intro h; exact absurd h hn
theorem pv_prt (n : Int) (h : n.natAbs < 10 ^ 15) : pv (prt n) = n := by
  unfold pv
  rw [pst_prt n h]
  by_cases hn : n < 0
  · rw [if_pos ((prt_head n).2 hn)]; omega
  · rw [if_neg (fun h => hn ((prt_head n).1 h))]; omega
theorem parse_prt (n : Int) (h1 : -1000000000000 ≤ n) (h2 : n ≤ 1000000000000) : parse (prt n) = some n := by
  unfold parse
  rw [pv_prt n (by omega), if_pos ⟨h1, h2, rfl⟩]
theorem parse_back {l : List UInt8} {v : Int} (h : parse l = some v) : prt v = l ∧ -1000000000000 ≤ v ∧ v ≤ 1000000000000 := by
  unfold parse at h
  split at h
  · rename_i hc
    cases h
    exact ⟨hc.2.2, hc.1, hc.2.1⟩
  · cases h
theorem prt_len (n : Int) (h1 : -1000000000000 ≤ n) (h2 : n ≤ 1000000000000) : (prt n).length ≤ 30 := by
  have hn := nDigits_le 13 (n.natAbs / 100) (by omega) (by omega)
  unfold prt pr
  split <;> simp [Lib.decDigits_length] <;> omega
end Go.Proofs.YtefbedineniejaaDoor.Mn
