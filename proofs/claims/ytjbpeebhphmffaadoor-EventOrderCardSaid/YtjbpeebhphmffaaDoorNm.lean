/- Numbers as text: what strconv.Itoa writes, strconv.Atoi reads, at every int; plain laws. -/
import Derived.Lib.AtoiAll
import Derived.Lib.AtoiAllCases
import Derived.Lib.ItoaLen
namespace Go.Proofs.YtjbpeebhphmffaaDoor.Nm

theorem pow_pos10 (k : Nat) : 0 < 10 ^ k := Nat.pow_pos (by decide)
theorem parse10_dec (u : Nat) : ∀ (acc : Nat) (r : List UInt8), acc * 10 ^ Lib.nDigits u + u < 18446744073709551616 → Lib.parseUint10 acc (Lib.decDigits u ++ r) = Lib.parseUint10 (acc * 10 ^ Lib.nDigits u + u) r := by
  induction u using Nat.strongRecOn with
  | _ u ih =>
    intro acc r h
    have step : ∀ (a d : Nat) (r : List UInt8), d < 10 → a * 10 + d < 18446744073709551616 → Lib.parseUint10 a (UInt8.ofNat (48 + d) :: r) = Lib.parseUint10 (a * 10 + d) r := by
      intro a d r hd hb
      have e : (UInt8.ofNat (48 + d)).toNat = 48 + d := by rw [UInt8.toNat_ofNat']; omega
      rw [Lib.parseUint10, e, if_pos (by omega), if_neg (by omega), if_neg (by omega), show 48 + d - 48 = d by omega]
    by_cases hu : u < 10
    · rw [Lib.nDigits_small hu] at h ⊢
      rw [Lib.decDigits_one hu, List.singleton_append, step acc u r hu (by omega)]
    · rw [Lib.nDigits_big hu, Nat.pow_succ] at h ⊢
      rw [Lib.decDigits, dif_neg hu, List.append_assoc, ih (u / 10) (by omega) acc _ (by
        have hp := pow_pos10 (Lib.nDigits (u / 10))
        have e : acc * (10 ^ Lib.nDigits (u / 10) * 10) = acc * 10 ^ Lib.nDigits (u / 10) * 10 := by rw [Nat.mul_assoc]
        omega), List.singleton_append]
      have e : acc * (10 ^ Lib.nDigits (u / 10) * 10) = acc * 10 ^ Lib.nDigits (u / 10) * 10 := by rw [Nat.mul_assoc]
      rw [step _ (u % 10) r (by omega) (by omega)]
      congr 1
      omega
theorem dec_head (u : Nat) : ∃ d r, d < 10 ∧ Lib.decDigits u = UInt8.ofNat (48 + d) :: r := by
  induction u using Nat.strongRecOn with
  | _ u ih =>
    by_cases h : u < 10
    · exact ⟨u, [], h, Lib.decDigits_one h⟩
    · obtain ⟨d, r, hd, e⟩ := ih (u / 10) (by omega)
      exact ⟨d, r ++ [UInt8.ofNat (48 + u % 10)], hd, by rw [Lib.decDigits, dif_neg h, e]; rfl⟩
theorem parseMag_dec (u : Nat) (h : u < 18446744073709551616) : Lib.parseMag (Lib.decDigits u) = .ok u := by
  obtain ⟨d, r, hd, e⟩ := dec_head u
  unfold Lib.parseMag
  rw [if_neg (by rw [e]; simp)]
  have := parse10_dec u 0 [] (by omega)
  simp only [List.append_nil, Nat.zero_mul, Nat.zero_add] at this
  rw [this]
  rfl
/-- What is written is read. -/
theorem atoi_itoa (n : Int) (h0 : -9223372036854775808 ≤ n) (h1 : n ≤ 9223372036854775807) : Lib.atoiAll (Lib.itoa n) = .ok n := by
  by_cases hneg : n < 0
  · obtain ⟨u, rfl⟩ : ∃ u : Nat, n = -(u : Int) := ⟨n.natAbs, by omega⟩
    rw [Lib.itoa_neg u (by omega), Lib.atoiAll_minus, parseMag_dec u (by omega)]
    simp only [Lib.signed]
    rw [if_neg (by omega)]
  · obtain ⟨u, rfl⟩ : ∃ u : Nat, n = u := ⟨n.toNat, by omega⟩
    rw [Lib.itoa_nonneg]
    have hm := parseMag_dec u (by omega)
    obtain ⟨d, r, hd, e⟩ := dec_head u
    rw [e] at hm ⊢
    have ed : (UInt8.ofNat (48 + d)).toNat = 48 + d := by rw [UInt8.toNat_ofNat']; omega
    rw [Lib.atoiAll_plain _ _ (by omega) (by omega), hm]
    simp only [Lib.signless]
    rw [if_neg (by omega)]
theorem itoa_inj {a b : Int} (a0 : -9223372036854775808 ≤ a) (a1 : a ≤ 9223372036854775807) (b0 : -9223372036854775808 ≤ b) (b1 : b ≤ 9223372036854775807) (h : Lib.itoa a = Lib.itoa b) : a = b := by
  have := atoi_itoa a a0 a1
  rw [h, atoi_itoa b b0 b1] at this
  injection this with this
  exact this.symm
theorem dec_ge (u : Nat) : ∀ b ∈ Lib.decDigits u, 48 ≤ b.toNat ∧ b.toNat ≤ 57 := by
  induction u using Nat.strongRecOn with
  | _ u ih =>
    intro b hb
    by_cases h : u < 10
    · rw [Lib.decDigits_one h, List.mem_singleton] at hb
      subst hb
      rw [UInt8.toNat_ofNat']; omega
    · rw [Lib.decDigits, dif_neg h, List.mem_append, List.mem_singleton] at hb
      rcases hb with hb | hb
      · exact ih (u / 10) (by omega) b hb
      · subst hb; rw [UInt8.toNat_ofNat']; omega
theorem itoa_mem (n : Int) : ∀ b ∈ Lib.itoa n, b.toNat = 45 ∨ (48 ≤ b.toNat ∧ b.toNat ≤ 57) := by
  intro b hb
  unfold Lib.itoa at hb
  split at hb
  · simp only [List.mem_cons] at hb
    rcases hb with rfl | hb
    · exact Or.inl rfl
    · exact Or.inr (dec_ge _ b hb)
  · exact Or.inr (dec_ge _ b hb)
theorem itoa_no (n : Int) (c : UInt8) (hc : c.toNat < 45) : c ∉ Lib.itoa n := by
  intro h
  have := itoa_mem n c h
  omega
theorem itoa_len (n : Int) (h0 : -9223372036854775808 ≤ n) (h1 : n ≤ 9223372036854775807) : (Lib.itoa n).length ≤ 21 := Lib.itoa_length_le n h0 h1

/-- l is a number as it is written. -/
def Is (l : List UInt8) (v : Int) : Prop := -9223372036854775808 ≤ v ∧ v ≤ 9223372036854775807 ∧ Lib.itoa v = l
def No (l : List UInt8) : Prop := ∀ v, ¬ Is l v
theorem Is.uniq {l : List UInt8} {a b : Int} (h : Is l a) (h' : Is l b) : a = b := itoa_inj h.1 h.2.1 h'.1 h'.2.1 (h.2.2.trans h'.2.2.symm)
end Go.Proofs.YtjbpeebhphmffaaDoor.Nm
