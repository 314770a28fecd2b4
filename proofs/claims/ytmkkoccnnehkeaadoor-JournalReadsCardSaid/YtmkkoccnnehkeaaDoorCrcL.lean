/- The document's sum, bit by bit, is the sum; a frame is read where it stands: plain laws. -/
import Derived.Test.YtmkkoccnnehkeaaDoorCrcT
namespace Go.Proofs.YtmkkoccnnehkeaaDoor.Cr

theorem xor_div2 (x y : Nat) : (x ^^^ y) / 2 = (x / 2) ^^^ (y / 2) := by
  apply Nat.eq_of_testBit_eq
  intro i
  simp [Nat.testBit_div_two]
theorem xor_mod2 (x y : Nat) : (x ^^^ y) % 2 = (x % 2 + y % 2) % 2 := by
  have h := Nat.testBit_xor x y 0
  rw [Nat.testBit_zero, Nat.testBit_zero, Nat.testBit_zero] at h
  rcases Nat.mod_two_eq_zero_or_one (x ^^^ y) with a | a <;> rcases Nat.mod_two_eq_zero_or_one x with b | b <;> rcases Nat.mod_two_eq_zero_or_one y with c | c
  all_goals
    rw [a, b, c] at h
    first
      | (rw [a, b, c]; done)
      | (rw [a, b, c]; revert h; decide)
theorem g_lin (x y : Nat) : g (x ^^^ y) = g x ^^^ g y := by
  unfold g
  rw [xor_mod2, xor_div2]
  by_cases hx : x % 2 = 1 <;> by_cases hy : y % 2 = 1
  · rw [if_neg (by omega), if_pos hx, if_pos hy, Nat.xor_assoc, ← Nat.xor_assoc poly, Nat.xor_comm poly (y / 2), Nat.xor_assoc (y / 2), Nat.xor_self, Nat.xor_zero]
  · rw [if_pos (by omega), if_pos hx, if_neg hy, Nat.xor_assoc, Nat.xor_comm (y / 2), ← Nat.xor_assoc]
  · rw [if_pos (by omega), if_neg hx, if_pos hy, Nat.xor_assoc]
  · rw [if_neg (by omega), if_neg hx, if_neg hy]
theorem gn_lin (k x y : Nat) : gn k (x ^^^ y) = gn k x ^^^ gn k y := by
  induction k with
  | zero => rfl
  | succ k ih => simp only [gn, ih, g_lin]
theorem g_dbl (y : Nat) : g (2 * y) = y := by unfold g; rw [if_neg (by omega)]; omega
theorem gn_succ' (k x : Nat) : gn (k + 1) x = gn k (g x) := by
  induction k with
  | zero => rfl
  | succ k ih => rw [gn, ih]; rfl
theorem gn_pow (k y : Nat) : gn k (2 ^ k * y) = y := by
  induction k generalizing y with
  | zero => simp [gn]
  | succ k ih => rw [gn_succ', Nat.pow_succ, Nat.mul_comm (2 ^ k) 2, Nat.mul_assoc, g_dbl, ih]
theorem join_xor (k a y : Nat) (h : a < 2 ^ k) : 2 ^ k * y + a = a ^^^ (2 ^ k * y) := by
  rw [Nat.two_pow_add_eq_or_of_lt h]
  apply Nat.eq_of_testBit_eq
  intro i
  rw [Nat.testBit_or, Nat.testBit_xor]
  by_cases hi : i < k
  · have : (2 ^ k * y).testBit i = false := by rw [Nat.testBit_two_pow_mul]; simp; omega
    rw [this]; simp
  · have : a.testBit i = false := Nat.testBit_lt_two_pow (Nat.lt_of_lt_of_le h (Nat.pow_le_pow_right (by omega) (by omega)))
    rw [this]; simp
/-- The state when k bits of a byte are in. -/
def bst (c b k : Nat) : Nat := gn k (c ^^^ (b % 2 ^ k))
theorem bst_zero (c b : Nat) : bst c b 0 = c := by simp [bst, gn, Nat.mod_one]
theorem bst_succ (c b k : Nat) : bst c b (k + 1) = g (bst c b k ^^^ (b / 2 ^ k % 2)) := by
  have h1 : b % 2 ^ (k + 1) = (b % 2 ^ k) ^^^ (2 ^ k * (b / 2 ^ k % 2)) := by
    rw [← join_xor k _ _ (Nat.mod_lt _ (Nat.two_pow_pos k)), Nat.pow_succ, Nat.mod_mul]
    omega
  unfold bst
  rw [gn, h1, ← Nat.xor_assoc, gn_lin, gn_pow]
theorem bst_step (c b k : Nat) : bst c b (k + 1) = if (bst c b k ^^^ (b / 2 ^ k % 2)) % 2 = 1 then (bst c b k / 2) ^^^ poly else bst c b k / 2 := by
  have h : (bst c b k ^^^ (b / 2 ^ k % 2)) / 2 = bst c b k / 2 := by
    rw [xor_div2, show b / 2 ^ k % 2 / 2 = 0 by omega, Nat.xor_zero]
  rw [bst_succ, g, h]
theorem bst_lt (c b k : Nat) (hc : c < 4294967296) (hb : b < 256) : bst c b k < 4294967296 := by
  unfold bst
  refine gn_lt _ _ (Nat.xor_lt_two_pow (n := 32) (by omega) ?_)
  have := Nat.mod_le b (2 ^ k)
  omega
theorem bst_eight (c : Nat) (b : UInt8) : bst c b.toNat 8 = sstep c b := by
  have hb := UInt8.toNat_lt b
  unfold bst sstep rem8
  rw [Nat.mod_eq_of_lt (show b.toNat < 2 ^ 8 from hb)]
  have e : c ^^^ b.toNat = ((c % 256) ^^^ b.toNat) ^^^ (2 ^ 8 * (c / 256)) := by
    have hc : c = (c % 256) ^^^ (2 ^ 8 * (c / 256)) := by
      rw [← join_xor 8 _ _ (show c % 256 < 2 ^ 8 from Nat.mod_lt _ (by omega))]
      omega
    rw [Nat.xor_assoc, Nat.xor_comm b.toNat, ← Nat.xor_assoc, ← hc]
  rw [e, gn_lin, gn_pow, Nat.xor_comm]

theorem four_get (l : List UInt8) (h : l.length = 4) : four (get l) = l := by
  match l, h with
  | [a, b, c, d], _ =>
    have ha := UInt8.toNat_lt a
    have hb := UInt8.toNat_lt b
    have hc := UInt8.toNat_lt c
    have hd := UInt8.toNat_lt d
    unfold four get
    simp only [List.getD_cons_zero, List.getD_cons_succ]
    have e : ∀ (x : Nat) (y : UInt8), x = y.toNat → UInt8.ofNat x = y := by
      intro x y h
      rw [h]
      simp
    rw [e _ a (by omega), e _ b (by omega), e _ c (by omega), e _ d (by omega)]
/-- Where a frame is read, it stands. -/
theorem one_stands {l : List UInt8} {n : Nat} {t : List UInt8} {m : Nat} (h : one l n = some (t, m)) : l.take m = frame n t ∧ m = 16 + t.length ∧ get l = t.length ∧ t = (l.take (12 + get l)).drop 12 ∧ t.length ≤ 200 ∧ m ≤ l.length := by
  have hbd := one_bd h
  unfold one at h
  split at h
  · cases h
  · rename_i h16
    split at h
    · cases h
    · rename_i h8
      split at h
      · cases h
      · rename_i h4
        split at h
        · cases h
        · rename_i hk
          split at h
          · cases h
          · rename_i hl
            split at h
            · cases h
            · rename_i hc
              obtain ⟨k, hk0⟩ : ∃ k, k = get l := ⟨_, rfl⟩
              rw [← hk0] at h hk hl hc
              cases h
              have htl : ((l.take (12 + k)).drop 12).length = k := by simp; omega
              simp only [ne_eq, Decidable.not_not] at h8 h4 hc
              have g4 : ∀ r : List UInt8, 4 ≤ r.length → four (get r) = r.take 4 := by
                intro r hr
                rw [← get_take r 4 (by omega) hr, four_get _ (by simp; omega)]
              have e0 : four k = l.take 4 := by rw [hk0]; exact g4 l (by omega)
              have e4 : four n = (l.drop 4).take 4 := by rw [← h4]; exact g4 _ (by simp; omega)
              have hh : head n ((l.take (12 + k)).drop 12) = l.take 8 := by
                unfold head
                rw [htl, e0, e4, ← List.take_add]
              have e8 : four (crc (l.take 8)) = (l.drop 8).take 4 := by rw [h8]; exact g4 _ (by simp; omega)
              have hb : body n ((l.take (12 + k)).drop 12) = l.take (12 + k) := by
                unfold body
                rw [hh, e8, ← List.append_assoc, ← List.take_add]
                have : l.take (8 + 4) = (l.take (12 + k)).take 12 := by rw [List.take_take, Nat.min_eq_left (by omega)]
                rw [this, List.take_append_drop]
              refine ⟨?_, by rw [htl], by rw [htl, ← hk0], by rw [← hk0], by rw [htl]; omega, hbd.2.1⟩
              unfold frame
              rw [hb, hc, g4 _ (by simp; omega), ← List.take_add, show 12 + k + 4 = 16 + k by omega]
theorem one_iff (l : List UInt8) (n : Nat) (hn : n < 4294967296) : one l n = if 16 ≤ l.length ∧ get l ≤ 200 ∧ 16 + get l ≤ l.length ∧ l.take (16 + get l) = frame n ((l.take (12 + get l)).drop 12) then some ((l.take (12 + get l)).drop 12, 16 + get l) else none := by
  rcases h : one l n with _ | ⟨t, m⟩
  · rw [if_neg]
    intro ⟨h1, h2, h3, h4⟩
    have htl : ((l.take (12 + get l)).drop 12).length = get l := by simp; omega
    have e : l = frame n ((l.take (12 + get l)).drop 12) ++ l.drop (16 + get l) := by rw [← h4, List.take_append_drop]
    have h5 := one_frame n ((l.take (12 + get l)).drop 12) (l.drop (16 + get l)) hn (by omega)
    rw [← e, h] at h5
    cases h5
  · obtain ⟨a, b, c, d, e, f⟩ := one_stands h
    rw [if_pos ⟨by have := (one_bd h).1; omega, by omega, by omega, by rw [← d, c, ← b]; exact a⟩, ← d, c, ← b]
theorem reads_le {l : List UInt8} {n : Nat} {ts : List (List UInt8)} {m : Nat} (h : Reads l n ts m) : 16 * ts.length ≤ m ∧ m ≤ l.length := by
  induction h with
  | stop _ => simp
  | go h _ ih =>
    have := one_bd h
    simp at ih ⊢
    omega
end Go.Proofs.YtmkkoccnnehkeaaDoor.Cr
