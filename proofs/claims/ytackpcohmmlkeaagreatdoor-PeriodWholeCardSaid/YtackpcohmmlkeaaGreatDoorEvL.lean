/- Events: names, which may be: the plain part. -/
import Derived.Test.YtackpcohmmlkeaaGreatDoorRows
import Derived.Lib.SlTrimSet
import Derived.Lib.Atoi
import Derived.Lib.Bytealg
namespace Go.Proofs.YtackpcohmmlkeaaGreatDoor.Ev

def letters : List UInt8 := [97, 98, 99, 100, 101, 102, 103, 104, 105, 106, 107, 108, 109, 110, 111, 112, 113, 114, 115, 116, 117, 118, 119, 120, 121, 122]
def alnum : List UInt8 := letters ++ [48, 49, 50, 51, 52, 53, 54, 55, 56, 57]
/-- Whether an item may be called so. -/
def NameP (l : List UInt8) : Prop := l ≠ [] ∧ l.length ≤ 10 ∧ letters.contains (l.headD 0) = true ∧ ∀ b ∈ l, alnum.contains b = true
instance (l : List UInt8) : Decidable (NameP l) := by unfold NameP; infer_instance
def nameB (l : List UInt8) : Bool := decide (NameP l)

/-- Whether an event may be: its item, kind, quantity, price, of, day. -/
def RightP (s : List UInt8) (k q p o d : Int) : Prop := NameP s ∧ 0 ≤ d ∧ d ≤ 99999 ∧
  ((k = 1 ∧ 1 ≤ q ∧ q ≤ 100000 ∧ 0 ≤ p ∧ p ≤ 1000000 ∧ o = 0) ∨ (k = 2 ∧ q = 0 ∧ 1 ≤ p ∧ p ≤ 100000000000 ∧ 1 ≤ o) ∨ (k = 3 ∧ 1 ≤ q ∧ q ≤ 100000 ∧ p = 0 ∧ o = 0) ∨ (k = 4 ∧ 0 ≤ q ∧ q ≤ 100000 ∧ p = 0 ∧ o = 0))
instance (s : List UInt8) (k q p o d : Int) : Decidable (RightP s k q p o d) := by unfold RightP; infer_instance
def rightB (s : List UInt8) (k q p o d : Int) : Bool := decide (RightP s k q p o d)

theorem dw_nil (p : UInt8 → Bool) (l : List UInt8) : l.dropWhile p = [] ↔ ∀ x ∈ l, p x = true := by
  induction l with
  | nil => simp
  | cons a l ih =>
    cases h : p a with
    | true => rw [List.dropWhile_cons_of_pos h, ih]; simp [h]
    | false => rw [List.dropWhile_cons_of_neg (by simp [h])]; simp [h]
theorem tw_mem (p : UInt8 → Bool) (l : List UInt8) : ∀ x ∈ l.takeWhile p, p x = true := by
  induction l with
  | nil => simp
  | cons a l ih =>
    intro x hx
    cases h : p a with
    | true =>
      rw [List.takeWhile_cons_of_pos h, List.mem_cons] at hx
      rcases hx with rfl | hx
      · exact h
      · exact ih x hx
    | false =>
      rw [List.takeWhile_cons_of_neg (by simp [h])] at hx
      cases hx
theorem trimS_nil (l cs : List UInt8) : Lib.trimS l cs = [] ↔ ∀ b ∈ l, cs.contains b = true := by
  unfold Lib.trimS Lib.trimLeftS Lib.trimRightS
  constructor
  · intro h b hb
    have h1 := (dw_nil _ _).1 h
    apply Classical.byContradiction
    intro hc
    have h2 : b ∈ (List.dropWhile (cs.contains ·) l.reverse).reverse := by
      rw [List.mem_reverse]
      have hb2 : b ∈ l.reverse := by simpa using hb
      have hs := List.takeWhile_append_dropWhile (p := (cs.contains ·)) (l := l.reverse)
      rw [← hs, List.mem_append] at hb2
      rcases hb2 with h3 | h3
      · exact absurd (tw_mem _ _ b h3) hc
      · exact h3
    exact hc (h1 b h2)
  · intro h
    rw [dw_nil]
    intro b hb
    rw [List.mem_reverse] at hb
    have := (List.dropWhile_sublist _).subset hb
    exact h b (by simpa using this)
theorem indexByte_iff (l : List UInt8) (c : UInt8) : 0 ≤ Lib.indexByte l c ↔ l.contains c = true := by
  induction l with
  | nil => simp [Lib.indexByte]
  | cons b l ih =>
    have hge := Lib.indexByte_ge l c
    by_cases h : b = c
    · subst h
      simp [Lib.indexByte]
    · have h1 : (b == c) = false := by simpa using h
      have h2 : (c == b) = false := by simpa using fun e => h e.symm
      have e : Lib.indexByte (b :: l) c = if Lib.indexByte l c == -1 then -1 else Lib.indexByte l c + 1 := by
        simp only [Lib.indexByte, h1]; rfl
      rw [e, List.contains_cons, h2, Bool.false_or, ← ih]
      by_cases h3 : Lib.indexByte l c = -1
      · rw [h3]; simp
      · rw [if_neg (by simpa using h3)]; omega
theorem indexByte_mem (l : List UInt8) (c : UInt8) : decide (0 ≤ Lib.indexByte l c) = l.contains c := by
  cases h : l.contains c with
  | true => exact decide_eq_true ((indexByte_iff l c).2 h)
  | false => exact decide_eq_false (fun h2 => by rw [(indexByte_iff l c).1 h2] at h; cases h)
end Go.Proofs.YtackpcohmmlkeaaGreatDoor.Ev
