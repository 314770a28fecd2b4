/- Amounts as the document writes them: plain laws. -/
import Derived.Test.YtjmeefmofbpbnaaGreatDoorJoined2
import Derived.Lib.Replace
import Derived.Lib.Atoi
namespace Go.Proofs.YtjmeefmofbpbnaaGreatDoor.Mn

/-- The digits, three at least. -/
def pad (U : Nat) : List UInt8 := if U < 10 then 48 :: 48 :: Lib.decDigits U else if U < 100 then 48 :: Lib.decDigits U else Lib.decDigits U
theorem pad_eq (U : Nat) : pad U = Lib.decDigits (U / 100) ++ [UInt8.ofNat (48 + U / 10 % 10), UInt8.ofNat (48 + U % 10)] := by
  unfold pad
  by_cases h1 : U < 10
  · rw [if_pos h1, Lib.decDigits_one h1, Nat.div_eq_of_lt (show U < 100 by omega), Lib.decDigits_one (by omega), Nat.div_eq_of_lt h1, Nat.mod_eq_of_lt h1]
    rfl
  · by_cases h2 : U < 100
    · rw [if_neg h1, if_pos h2, Lib.decDigits_two h1 h2, Nat.div_eq_of_lt h2, Lib.decDigits_one (by omega), Nat.mod_eq_of_lt (show U / 10 < 10 by omega)]
      rfl
    · rw [if_neg h1, if_neg h2, Lib.decDigits, dif_neg h1, Lib.decDigits, dif_neg (by omega), Nat.div_div_eq_div_mul]
      simp
theorem pad_len (U : Nat) : 3 ≤ (pad U).length := by
  rw [pad_eq, List.length_append, Lib.decDigits_length]
  have := Lib.nDigits_pos (U / 100)
  simp
  omega
theorem pad_take (U : Nat) : (pad U).take ((pad U).length - 2) ++ [46] ++ (pad U).drop ((pad U).length - 2) = pr U := by
  rw [pad_eq, pr, List.length_append]
  simp only [List.length_cons, List.length_nil, Nat.add_sub_cancel]
  rw [List.take_left' rfl, List.drop_left' rfl]
  simp

theorem dec_ne (u : Nat) (c : UInt8) (hc : c.toNat < 48) : ∀ b ∈ Lib.decDigits u, (b == c) = false := by
  induction u using Nat.strongRecOn with
  | _ u ih =>
    intro b hb
    by_cases h : u < 10
    · rw [Lib.decDigits_one h] at hb
      rw [List.mem_singleton] at hb
      subst hb
      rw [beq_eq_false_iff_ne]
      intro e
      have := congrArg UInt8.toNat e
      rw [UInt8.toNat_ofNat'] at this
      omega
    · rw [Lib.decDigits, dif_neg h] at hb
      simp only [List.mem_append, List.mem_singleton] at hb
      rcases hb with hb | hb
      · exact ih (u / 10) (by omega) b hb
      · subst hb
        rw [beq_eq_false_iff_ne]
        intro e
        have := congrArg UInt8.toNat e
        rw [UInt8.toNat_ofNat'] at this
        omega
theorem ofNat_ne (d : Nat) (h : d < 10) (c : UInt8) (hc : c.toNat < 48) : (UInt8.ofNat (48 + d) == c) = false := by
  rw [beq_eq_false_iff_ne]
  intro e
  have := congrArg UInt8.toNat e
  rw [UInt8.toNat_ofNat'] at this
  omega
theorem decNat_fold (u : Nat) : ∀ acc r, Lib.decFrom acc (Lib.decDigits u ++ r) = Lib.decFrom (acc * 10 ^ Lib.nDigits u + u) r := by
  induction u using Nat.strongRecOn with
  | _ u ih =>
    intro acc r
    have dv : ∀ d, d < 10 → Lib.digitVal (UInt8.ofNat (48 + d)) = some d := by
      intro d hd
      unfold Lib.digitVal
      rw [UInt8.toNat_ofNat', if_pos (by omega)]
      congr 1
      omega
    by_cases h : u < 10
    · rw [Lib.decDigits_one h, Lib.nDigits_small h]
      simp only [List.cons_append, List.nil_append, Lib.decFrom, dv u h, Nat.pow_one]
    · rw [Lib.decDigits, dif_neg h, Lib.nDigits_big h, List.append_assoc, ih (u / 10) (by omega)]
      simp only [List.cons_append, List.nil_append, Lib.decFrom, dv (u % 10) (by omega)]
      rw [Nat.pow_succ, Nat.add_mul, Nat.mul_assoc]
      congr 1
      omega
/-- The digits without the point, as Atoi reads them. -/
theorem atoi_pad (U : Nat) : Lib.atoi (pad U) = some (U : Int) ∧ Lib.atoi (45 :: pad U) = some (-(U : Int)) := by
  have hd : Lib.decNat (pad U) = some U := by
    have e : Lib.decFrom 0 (pad U) = some U := by
      have hb := decNat_fold U 0 []
      simp only [List.append_nil, Nat.zero_mul, Nat.zero_add, Lib.decFrom] at hb
      have dz : ∀ l, Lib.decFrom 0 (48 :: l) = Lib.decFrom 0 l := by intro l; simp [Lib.decFrom, Lib.digitVal]
      unfold pad
      split
      · rw [dz, dz, hb]
      · split
        · rw [dz, hb]
        · exact hb
    unfold Lib.decNat
    rw [if_neg, e]
    have := pad_len U
    cases h : pad U with
    | nil => rw [h] at this; simp at this
    | cons _ _ => simp
  have hh : ∃ b r, pad U = b :: r ∧ (b == 45) = false ∧ (b == 43) = false := by
    rw [pad_eq]
    obtain ⟨d, r, hd, e⟩ := dec_head (U / 100)
    rw [e]
    exact ⟨_, _, rfl, ofNat_ne d hd 45 (by decide), ofNat_ne d hd 43 (by decide)⟩
  constructor
  · obtain ⟨b, r, e, h1, h2⟩ := hh
    rw [e] at hd ⊢
    simp only [Lib.atoi, h1, h2, hd]
    rfl
  · simp only [Lib.atoi, hd]
    rfl

theorem count_dec (u : Nat) : (Lib.decDigits u).count 46 = 0 := by
  rw [List.count_eq_zero]
  intro h
  have := dec_ne u 46 (by decide) 46 h
  simp at this
theorem index_skip (l r : List UInt8) (c : UInt8) (h : ∀ b ∈ l, (b == c) = false) : Lib.indexByte (l ++ c :: r) c = l.length := by
  induction l with
  | nil => simp [Lib.indexByte]
  | cons b l ih =>
    have hb := h b (by simp)
    have := ih (fun x hx => h x (by simp [hx]))
    simp only [List.cons_append, Lib.indexByte, hb, this]
    simp
/-- An amount's text without its point. -/
def bare (n : Int) : List UInt8 := if n < 0 then 45 :: pad n.natAbs else pad n.natAbs
theorem prt_count (n : Int) : Lib.count (prt n) [46] = 1 := by
  rw [Lib.count_one]
  have h1 : (pr n.natAbs).count 46 = 1 := by
    rw [pr, List.count_append, count_dec]
    simp only [List.count_cons, List.count_nil, ofNat_ne (n.natAbs / 10 % 10) (by omega) 46 (by decide), ofNat_ne (n.natAbs % 10) (by omega) 46 (by decide)]
    rfl
  unfold prt
  split
  · rw [List.count_cons, h1]; rfl
  · exact h1
theorem prt_replace (n : Int) : Lib.replace (prt n) [46] [] 1 = bare n := by
  have hn : Lib.replaceNum (prt n) [46] 1 = 1 := by
    unfold Lib.replaceNum
    rw [prt_count]
    rfl
  unfold Lib.replace
  rw [if_neg (by decide), hn]
  have key : ∀ (p r : List UInt8), (∀ b ∈ p, (b == 46) = false) → Lib.replaceK [46] [] 1 (p ++ 46 :: r) = p ++ r := by
    intro p r hp
    rw [Lib.replaceK_hit [46] [] 0 _ p.length (by rw [Lib.index_one]; exact index_skip p r 46 hp)]
    rw [List.take_left' rfl, Lib.replaceK]
    simp
  unfold prt bare
  split
  · rw [pr, pad_eq]
    have := key (45 :: Lib.decDigits (n.natAbs / 100)) [UInt8.ofNat (48 + n.natAbs / 10 % 10), UInt8.ofNat (48 + n.natAbs % 10)] (by
      intro b hb
      simp only [List.mem_cons] at hb
      rcases hb with rfl | hb
      · rfl
      · exact dec_ne _ 46 (by decide) b hb)
    simpa using this
  · rw [pr, pad_eq]
    exact key _ _ (dec_ne _ 46 (by decide))
theorem atoi_bare (n : Int) : Lib.atoi (bare n) = some n := by
  unfold bare
  split
  · rw [(atoi_pad _).2]; congr 1; omega
  · rw [(atoi_pad _).1]; congr 1; omega
theorem bare_len (n : Int) (h1 : -1000000000000 ≤ n) (h2 : n ≤ 1000000000000) : (bare n).length ≤ 18 := by
  have hn := nDigits_le 13 (n.natAbs / 100) (by omega) (by omega)
  unfold bare
  rw [pad_eq]
  split <;> simp [Lib.decDigits_length] <;> omega
end Go.Proofs.YtjmeefmofbpbnaaGreatDoor.Mn
