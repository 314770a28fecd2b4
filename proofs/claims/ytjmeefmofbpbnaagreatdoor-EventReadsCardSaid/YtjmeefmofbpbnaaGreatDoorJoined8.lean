/- Joined: EvM, Nm. -/
import Derived.Lib.SlTrimSet
import Derived.Lib.Atoi
import Derived.Test.YtjmeefmofbpbnaaGreatDoorJoined4
import Derived.Test.YtjmeefmofbpbnaaGreatDoorJoined2
import Derived.Test.YtjmeefmofbpbnaaGreatDoorSpl
import Derived.Lib.AtoiAll
import Derived.Lib.AtoiAllCases
import Derived.Lib.ItoaLen

section
/- Events: names, which may be, how they are written: the plain part. -/
namespace Go.Proofs.YtjmeefmofbpbnaaGreatDoor.Ev

def letters : List UInt8 := [97, 98, 99, 100, 101, 102, 103, 104, 105, 106, 107, 108, 109, 110, 111, 112, 113, 114, 115, 116, 117, 118, 119, 120, 121, 122]
def alnum : List UInt8 := letters ++ [48, 49, 50, 51, 52, 53, 54, 55, 56, 57]
/-- Whether an item may be called so. -/
def NameP (l : List UInt8) : Prop := l ≠ [] ∧ l.length ≤ 10 ∧ letters.contains (l.headD 0) = true ∧ ∀ b ∈ l, alnum.contains b = true
instance (l : List UInt8) : Decidable (NameP l) := by unfold NameP; infer_instance
def nameB (l : List UInt8) : Bool := decide (NameP l)

/-- Whether an event may be: its item, kind, quantity, price, of, day. -/
def RightP (s : List UInt8) (k q p o d : Int) : Prop := NameP s ∧ 0 ≤ d ∧ d ≤ 99999 ∧
  ((k = 1 ∧ 1 ≤ q ∧ q ≤ 100000 ∧ 0 ≤ p ∧ p ≤ 1000000 ∧ o = 0) ∨ (k = 2 ∧ q = 0 ∧ 1 ≤ p ∧ p ≤ 100000000000 ∧ 1 ≤ o) ∨ (k = 3 ∧ 1 ≤ q ∧ q ≤ 100000 ∧ p = 0 ∧ o = 0) ∨ (k = 4 ∧ 0 ≤ q ∧ q ≤ 100000 ∧ p = 0 ∧ o = 0))
instance (s : List UInt8) (k q p o d : Int) : Decidable (RightP s k q p o d) := by unfold RightP; infer_instance
def rightB (s : List UInt8) (k q p o d : Int) : Bool := decide (RightP s k q p o d)

theorem dw_nil (p : UInt8 → Bool) (l : List UInt8) : l.dropWhile p = [] ↔ ∀ x ∈ l, p x = true := by
  induction l with
  | nil => simp
  | cons a l ih =>
    cases h : p a with
    | true => rw [List.dropWhile_cons_of_pos h, ih]; simp [h]
    | false => rw [List.dropWhile_cons_of_neg (by simp [h])]; simp [h]
theorem tw_mem (p : UInt8 → Bool) (l : List UInt8) : ∀ x ∈ l.takeWhile p, p x = true := by
  induction l with
  | nil => simp
  | cons a l ih =>
    intro x hx
    cases h : p a with
    | true =>
      rw [List.takeWhile_cons_of_pos h, List.mem_cons] at hx
      rcases hx with rfl | hx
      · exact h
      · exact ih x hx
    | false =>
      rw [List.takeWhile_cons_of_neg (by simp [h])] at hx
      cases hx
theorem trimS_nil (l cs : List UInt8) : Lib.trimS l cs = [] ↔ ∀ b ∈ l, cs.contains b = true := by
  unfold Lib.trimS Lib.trimLeftS Lib.trimRightS
  constructor
  · intro h b hb
    have h1 := (dw_nil _ _).1 h
    apply Classical.byContradiction
    intro hc
    have h2 : b ∈ (List.dropWhile (cs.contains ·) l.reverse).reverse := by
      rw [List.mem_reverse]
      have hb2 : b ∈ l.reverse := by simpa using hb
      have hs := List.takeWhile_append_dropWhile (p := (cs.contains ·)) (l := l.reverse)
      rw [← hs, List.mem_append] at hb2
      rcases hb2 with h3 | h3
      · exact absurd (tw_mem _ _ b h3) hc
      · exact h3
    exact hc (h1 b h2)
  · intro h
    rw [dw_nil]
    intro b hb
    rw [List.mem_reverse] at hb
    have := (List.dropWhile_sublist _).subset hb
    exact h b (by simpa using this)
theorem indexByte_iff (l : List UInt8) (c : UInt8) : 0 ≤ Lib.indexByte l c ↔ l.contains c = true := by
  induction l with
  | nil => simp [Lib.indexByte]
  | cons b l ih =>
    have hge := Lib.indexByte_ge l c
    by_cases h : b = c
    · subst h
      simp [Lib.indexByte]
    · have h1 : (b == c) = false := by simpa using h
      have h2 : (c == b) = false := by simpa using fun e => h e.symm
      have e : Lib.indexByte (b :: l) c = if Lib.indexByte l c == -1 then -1 else Lib.indexByte l c + 1 := by
        simp only [Lib.indexByte, h1]; rfl
      rw [e, List.contains_cons, h2, Bool.false_or, ← ih]
      by_cases h3 : Lib.indexByte l c = -1
      · rw [h3]; simp
      · rw [if_neg (by simpa using h3)]; omega
theorem indexByte_mem (l : List UInt8) (c : UInt8) : decide (0 ≤ Lib.indexByte l c) = l.contains c := by
  cases h : l.contains c with
  | true => exact decide_eq_true ((indexByte_iff l c).2 h)
  | false => exact decide_eq_false (fun h2 => by rw [(indexByte_iff l c).1 h2] at h; cases h)

/-- A kind's word. -/
def word (k : Int) : List UInt8 := if k = 1 then [105, 110] else if k = 2 then [99, 104, 97, 114, 103, 101] else if k = 3 then [111, 117, 116] else [99, 111, 117, 110, 116]
def tail (k q p o : Int) : List UInt8 := if k = 1 then Lib.itoa q ++ [32, 97, 116, 32] ++ Mn.prt p else if k = 2 then Mn.prt p ++ [32, 102, 111, 114, 32] ++ Lib.itoa o else Lib.itoa q
/-- l is how the event is written. -/
def Text (s : List UInt8) (k q p o d : Int) (l : List UInt8) : Prop := ∃ dl, Dy.Text d dl ∧ l = dl ++ [32] ++ word k ++ [32] ++ s ++ [32] ++ tail k q p o
theorem text_uniq {s : List UInt8} {k q p o d : Int} {l l' : List UInt8} (h : Text s k q p o d l) (h' : Text s k q p o d l') : l = l' := by
  obtain ⟨a, ha, rfl⟩ := h
  obtain ⟨b, hb, rfl⟩ := h'
  rw [Dy.text_uniq ha hb]
end Go.Proofs.YtjmeefmofbpbnaaGreatDoor.Ev
end

section
/- Numbers as text: what strconv.Itoa writes, strconv.Atoi reads, at every int; plain laws. -/
namespace Go.Proofs.YtjmeefmofbpbnaaGreatDoor.Nm

theorem pow_pos10 (k : Nat) : 0 < 10 ^ k := Nat.pow_pos (by decide)
theorem parse10_dec (u : Nat) : ∀ (acc : Nat) (r : List UInt8), acc * 10 ^ Lib.nDigits u + u < 18446744073709551616 → Lib.parseUint10 acc (Lib.decDigits u ++ r) = Lib.parseUint10 (acc * 10 ^ Lib.nDigits u + u) r := by
  induction u using Nat.strongRecOn with
  | _ u ih =>
    intro acc r h
    have step : ∀ (a d : Nat) (r : List UInt8), d < 10 → a * 10 + d < 18446744073709551616 → Lib.parseUint10 a (UInt8.ofNat (48 + d) :: r) = Lib.parseUint10 (a * 10 + d) r := by
      intro a d r hd hb
      have e : (UInt8.ofNat (48 + d)).toNat = 48 + d := by rw [UInt8.toNat_ofNat']; omega
      rw [Lib.parseUint10, e, if_pos (by omega), if_neg (by omega), if_neg (by omega), show 48 + d - 48 = d by omega]
    by_cases hu : u < 10
    · rw [Lib.nDigits_small hu] at h ⊢
      rw [Lib.decDigits_one hu, List.singleton_append, step acc u r hu (by omega)]
    · rw [Lib.nDigits_big hu, Nat.pow_succ] at h ⊢
      rw [Lib.decDigits, dif_neg hu, List.append_assoc, ih (u / 10) (by omega) acc _ (by
        have hp := pow_pos10 (Lib.nDigits (u / 10))
        have e : acc * (10 ^ Lib.nDigits (u / 10) * 10) = acc * 10 ^ Lib.nDigits (u / 10) * 10 := by rw [Nat.mul_assoc]
        omega), List.singleton_append]
      have e : acc * (10 ^ Lib.nDigits (u / 10) * 10) = acc * 10 ^ Lib.nDigits (u / 10) * 10 := by rw [Nat.mul_assoc]
      rw [step _ (u % 10) r (by omega) (by omega)]
      congr 1
      omega
theorem dec_head (u : Nat) : ∃ d r, d < 10 ∧ Lib.decDigits u = UInt8.ofNat (48 + d) :: r := by
  induction u using Nat.strongRecOn with
  | _ u ih =>
    by_cases h : u < 10
    · exact ⟨u, [], h, Lib.decDigits_one h⟩
    · obtain ⟨d, r, hd, e⟩ := ih (u / 10) (by omega)
      exact ⟨d, r ++ [UInt8.ofNat (48 + u % 10)], hd, by rw [Lib.decDigits, dif_neg h, e]; rfl⟩
theorem parseMag_dec (u : Nat) (h : u < 18446744073709551616) : Lib.parseMag (Lib.decDigits u) = .ok u := by
  obtain ⟨d, r, hd, e⟩ := dec_head u
  unfold Lib.parseMag
  rw [if_neg (by rw [e]; simp)]
  have := parse10_dec u 0 [] (by omega)
  simp only [List.append_nil, Nat.zero_mul, Nat.zero_add] at this
  rw [this]
  rfl
/-- What is written is read. -/
theorem atoi_itoa (n : Int) (h0 : -9223372036854775808 ≤ n) (h1 : n ≤ 9223372036854775807) : Lib.atoiAll (Lib.itoa n) = .ok n := by
  by_cases hneg : n < 0
  · obtain ⟨u, rfl⟩ : ∃ u : Nat, n = -(u : Int) := ⟨n.natAbs, by omega⟩
    rw [Lib.itoa_neg u (by omega), Lib.atoiAll_minus, parseMag_dec u (by omega)]
    simp only [Lib.signed]
    rw [if_neg (by omega)]
  · obtain ⟨u, rfl⟩ : ∃ u : Nat, n = u := ⟨n.toNat, by omega⟩
    rw [Lib.itoa_nonneg]
    have hm := parseMag_dec u (by omega)
    obtain ⟨d, r, hd, e⟩ := dec_head u
    rw [e] at hm ⊢
    have ed : (UInt8.ofNat (48 + d)).toNat = 48 + d := by rw [UInt8.toNat_ofNat']; omega
    rw [Lib.atoiAll_plain _ _ (by omega) (by omega), hm]
    simp only [Lib.signless]
    rw [if_neg (by omega)]
theorem itoa_inj {a b : Int} (a0 : -9223372036854775808 ≤ a) (a1 : a ≤ 9223372036854775807) (b0 : -9223372036854775808 ≤ b) (b1 : b ≤ 9223372036854775807) (h : Lib.itoa a = Lib.itoa b) : a = b := by
  have := atoi_itoa a a0 a1
  rw [h, atoi_itoa b b0 b1] at this
  injection this with this
  exact this.symm
theorem dec_ge (u : Nat) : ∀ b ∈ Lib.decDigits u, 48 ≤ b.toNat ∧ b.toNat ≤ 57 := by
  induction u using Nat.strongRecOn with
  | _ u ih =>
    intro b hb
    by_cases h : u < 10
    · rw [Lib.decDigits_one h, List.mem_singleton] at hb
      subst hb
      rw [UInt8.toNat_ofNat']; omega
    · rw [Lib.decDigits, dif_neg h, List.mem_append, List.mem_singleton] at hb
      rcases hb with hb | hb
      · exact ih (u / 10) (by omega) b hb
      · subst hb; rw [UInt8.toNat_ofNat']; omega
theorem itoa_mem (n : Int) : ∀ b ∈ Lib.itoa n, b.toNat = 45 ∨ (48 ≤ b.toNat ∧ b.toNat ≤ 57) := by
  intro b hb
  unfold Lib.itoa at hb
  split at hb
  · simp only [List.mem_cons] at hb
    rcases hb with rfl | hb
    · exact Or.inl rfl
    · exact Or.inr (dec_ge _ b hb)
  · exact Or.inr (dec_ge _ b hb)
theorem itoa_no (n : Int) (c : UInt8) (hc : c.toNat < 45) : c ∉ Lib.itoa n := by
  intro h
  have := itoa_mem n c h
  omega
theorem itoa_len (n : Int) (h0 : -9223372036854775808 ≤ n) (h1 : n ≤ 9223372036854775807) : (Lib.itoa n).length ≤ 21 := Lib.itoa_length_le n h0 h1

/-- l is a number as it is written. -/
def Is (l : List UInt8) (v : Int) : Prop := -9223372036854775808 ≤ v ∧ v ≤ 9223372036854775807 ∧ Lib.itoa v = l
def No (l : List UInt8) : Prop := ∀ v, ¬ Is l v
theorem Is.uniq {l : List UInt8} {a b : Int} (h : Is l a) (h' : Is l b) : a = b := itoa_inj h.1 h.2.1 h'.1 h'.2.1 (h.2.2.trans h'.2.2.symm)
end Go.Proofs.YtjmeefmofbpbnaaGreatDoor.Nm
end
