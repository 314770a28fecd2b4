/- a times b by c, from the greatest digit of b on: the plain arithmetic. -/
import Derived.Lib.ItoaNum
namespace Go.Proofs.YtpbbbiifeihkaaaGreatDoor.Md

/-- What a row of digits says. -/
def val (l : List UInt8) : Nat := l.foldl (fun a c => 10 * a + (c.toNat - 48)) 0
theorem val_snoc (l : List UInt8) (c : UInt8) : val (l ++ [c]) = 10 * val l + (c.toNat - 48) := by simp [val]
theorem val_le (l m : List UInt8) : val l ≤ val (l ++ m) := by
  induction m generalizing l with
  | nil => simp
  | cons c m ih =>
    have h := ih (l ++ [c])
    rw [val_snoc] at h
    rw [show l ++ c :: m = l ++ [c] ++ m by simp]
    omega
theorem val_dec (n : Nat) : val (Lib.decDigits n) = n := by
  induction n using Nat.strongRecOn with
  | _ n ih =>
    by_cases h : n < 10
    · rw [Lib.decDigits_one h]
      simp only [val, List.foldl_cons, List.foldl_nil, UInt8.toNat_ofNat']
      omega
    · rw [Lib.decDigits, dif_neg h, val_snoc, ih (n / 10) (by omega), UInt8.toNat_ofNat']
      omega
theorem val_take (n k : Nat) : val ((Lib.decDigits n).take k) ≤ n := by
  have h := val_le ((Lib.decDigits n).take k) ((Lib.decDigits n).drop k)
  rw [List.take_append_drop, val_dec] at h
  exact h
theorem dec_dig (n : Nat) : ∀ c ∈ Lib.decDigits n, 48 ≤ c.toNat ∧ c.toNat ≤ 57 := by
  induction n using Nat.strongRecOn with
  | _ n ih =>
    intro c hc
    by_cases h : n < 10
    · rw [Lib.decDigits_one h] at hc
      rw [List.mem_singleton] at hc
      subst hc
      rw [UInt8.toNat_ofNat']
      omega
    · rw [Lib.decDigits, dif_neg h] at hc
      simp only [List.mem_append, List.mem_singleton] at hc
      rcases hc with hc | hc
      · exact ih (n / 10) (by omega) c hc
      · subst hc
        rw [UInt8.toNat_ofNat']
        omega

theorem step (a p d c q r : Int) (hc : 1 ≤ c) (hq : q = a * p / c) (hr : r = a * p % c) :
    q * 10 + a * d / c + (r * 10 + a * d % c) / c = a * (10 * p + d) / c ∧ (r * 10 + a * d % c) % c = a * (10 * p + d) % c := by
  have h1 := Int.mul_ediv_add_emod (a * p) c
  have h2 := Int.mul_ediv_add_emod (a * d) c
  rw [← hq, ← hr] at h1
  obtain ⟨u, hu⟩ : ∃ u, u = a * d / c := ⟨_, rfl⟩
  obtain ⟨v, hv⟩ : ∃ v, v = a * d % c := ⟨_, rfl⟩
  rw [← hu, ← hv] at h2 ⊢
  have e : a * (10 * p + d) = (r * 10 + v) + (q * 10 + u) * c := by
    rw [Int.mul_add, show a * (10 * p) = 10 * (a * p) by rw [Int.mul_left_comm], ← h1, ← h2, Int.mul_add, Int.add_mul, Int.mul_comm c q, Int.mul_comm c u, Int.mul_assoc q 10 c, Int.mul_comm 10 c, ← Int.mul_assoc q c 10]
    omega
  rw [e, Int.add_mul_ediv_right _ _ (by omega), Int.add_mul_emod_self_right]
  exact ⟨by omega, rfl⟩
theorem bd (a p c : Int) (ha : 0 ≤ a) (hc : 1 ≤ c) (hp : 0 ≤ p) (hpc : p ≤ c) : 0 ≤ a * p / c ∧ a * p / c ≤ a ∧ 0 ≤ a * p % c ∧ a * p % c < c := by
  refine ⟨Int.ediv_nonneg (Int.mul_nonneg ha hp) (by omega), ?_, Int.emod_nonneg _ (by omega), Int.emod_lt_of_pos _ (by omega)⟩
  have h : a * p ≤ a * c := Int.mul_le_mul_of_nonneg_left hpc ha
  calc a * p / c ≤ a * c / c := Int.ediv_le_ediv (by omega) h
    _ = a := Int.mul_ediv_cancel _ (by omega)
theorem dig_bd (a d : Int) (ha : 0 ≤ a) (h0 : 0 ≤ d) (h9 : d ≤ 9) : 0 ≤ a * d ∧ a * d ≤ 9 * a := by
  refine ⟨Int.mul_nonneg ha h0, ?_⟩
  rw [Int.mul_comm 9 a]
  exact Int.mul_le_mul_of_nonneg_left h9 ha
end Go.Proofs.YtpbbbiifeihkaaaGreatDoor.Md
