/- Postings, in plain Lean: how they are written, and those of figures. -/
import Derived.Test.YtefbedineniejaaMoneyM
import Derived.Test.YtefbedineniejaaBase
namespace Go.Proofs.Ytefbedineniejaa
open Go.RowKit

namespace Lg
structure P where
  d : ByteArray
  c : ByteArray
  n : Int
def cells (p : P) : List Value := [.string p.d, .string p.c, .int .i64 p.n]
def fl (L : List P) : List Value := L.flatMap cells
def line (p : P) : List UInt8 := Mn.prt p.n ++ [32] ++ p.d.data.toList ++ [32, 102, 114, 111, 109, 32] ++ p.c.data.toList ++ [10]
def text (L : List P) : List UInt8 := L.flatMap line
def one (d c : ByteArray) (n : Int) : List P := if 0 < n then [⟨d, c, n⟩] else if n < 0 then [⟨c, d, -n⟩] else []
def stock : ByteArray := ⟨#[115, 116, 111, 99, 107]⟩
def supply : ByteArray := ⟨#[115, 117, 112, 112, 108, 121]⟩
def sold : ByteArray := ⟨#[115, 111, 108, 100]⟩
def loss : ByteArray := ⟨#[108, 111, 115, 115]⟩
def gain : ByteArray := ⟨#[103, 97, 105, 110]⟩
def late : ByteArray := ⟨#[108, 97, 116, 101]⟩
def figs (i o l g t : Int) : List P := one stock supply i ++ one sold stock o ++ one loss stock l ++ one stock gain g ++ one late supply t

def InB (n : Int) : Prop := n ≤ 1000000000000 ∧ -1000000000000 ≤ n
theorem fl_nil : fl [] = [] := rfl
theorem fl_app (A B : List P) : fl (A ++ B) = fl A ++ fl B := by simp [fl]
theorem fl_one (p : P) : fl [p] = cells p := by simp [fl]
theorem fl_len (L : List P) : (fl L).length = L.length * 3 := by
  induction L with
  | nil => rfl
  | cons p L ih => simp only [fl, List.flatMap_cons, List.length_append, List.length_cons] at *; rw [ih]; simp [cells]; omega
theorem one_len (d c : ByteArray) (n : Int) : (one d c n).length ≤ 1 := by unfold one; split; · simp
                                                                           split <;> simp
theorem one_pos {d c : ByteArray} {n : Int} (h : 0 < n) : one d c n = [⟨d, c, n⟩] := by simp [one, h]
theorem one_neg {d c : ByteArray} {n : Int} (h : n < 0) : one d c n = [⟨c, d, -n⟩] := by simp [one, h, show ¬ 0 < n by omega]
theorem one_zero {d c : ByteArray} {n : Int} (h1 : ¬ 0 < n) (h2 : ¬ n < 0) : one d c n = [] := by simp [one, h1, h2]
theorem figs_len (i o l g t : Int) : (figs i o l g t).length ≤ 5 := by
  have h1 := one_len stock supply i
  have h2 := one_len sold stock o
  have h3 := one_len loss stock l
  have h4 := one_len stock gain g
  have h5 := one_len late supply t
  simp only [figs, List.length_append]; omega
theorem fl_cons_get (p : P) (L : List P) (m : Nat) (h : 3 ≤ m) : (fl (p :: L)).getD m undef = (fl L).getD (m - 3) undef := by
  have e : fl (p :: L) = cells p ++ fl L := by simp [fl]
  have e0 : (cells p).length = 3 := rfl
  rw [e, List.getD_eq_getElem?_getD, List.getD_eq_getElem?_getD, List.getElem?_append_right (by omega), e0]
theorem fl_get (L : List P) (k : Nat) (h : k < L.length) : (fl L).getD (k * 3) undef = .string (L[k]).d ∧ (fl L).getD (k * 3 + 1) undef = .string (L[k]).c ∧ (fl L).getD (k * 3 + 2) undef = .int .i64 (L[k]).n := by
  induction L generalizing k with
  | nil => simp at h
  | cons p L ih =>
    cases k with
    | zero => simp [fl, cells]
    | succ k =>
      obtain ⟨a, b, c⟩ := ih k (by simpa using h)
      refine ⟨?_, ?_, ?_⟩
      · rw [fl_cons_get p L _ (by omega), show (k + 1) * 3 - 3 = k * 3 by omega]; simpa using a
      · rw [fl_cons_get p L _ (by omega), show (k + 1) * 3 + 1 - 3 = k * 3 + 1 by omega]; simpa using b
      · rw [fl_cons_get p L _ (by omega), show (k + 1) * 3 + 2 - 3 = k * 3 + 2 by omega]; simpa using c
theorem text_app (A B : List P) : text (A ++ B) = text A ++ text B := by simp [text]
theorem text_one (p : P) : text [p] = line p := by simp [text]
theorem text_succ (L : List P) (k : Nat) (h : k < L.length) : text (L.take (k + 1)) = text (L.take k) ++ line L[k] := by
  rw [List.take_succ_eq_append_getElem h, text_app, text_one]
theorem text_take_le (L : List P) (k : Nat) : (text (L.take k)).length ≤ (text L).length := by
  have h := congrArg (fun X => (text X).length) (List.take_append_drop k L)
  simp only [text_app, List.length_append] at h
  omega
theorem line_le (L : List P) (k : Nat) (h : k < L.length) : (text (L.take k)).length + (line L[k]).length ≤ (text L).length := by
  have h1 := text_take_le L (k + 1)
  rw [text_succ L k h, List.length_append] at h1
  exact h1
theorem line_pos (p : P) : 1 ≤ (line p).length := by simp only [line, List.length_append, List.length_cons]; omega
theorem len_le (L : List P) : L.length ≤ (text L).length := by
  induction L with
  | nil => simp
  | cons p L ih => 
    have := line_pos p
    simp only [text, List.flatMap_cons, List.length_append, List.length_cons] at *; omega
end Lg
theorem Rd.posting {w : World} {a : Option Addr} {L : List Lg.P} (h : Rd w a (Lg.fl L)) (k : Nat) (hk : k < L.length) : ∃ b off, a = some ⟨b, off, none⟩ ∧ w.cell? ⟨b, off + k * 3, none⟩ = some (.string (L[k]).d) ∧ w.cell? ⟨b, off + k * 3 + 1, none⟩ = some (.string (L[k]).c) ∧ w.cell? ⟨b, off + k * 3 + 2, none⟩ = some (.int .i64 (L[k]).n) := by
  have hg := Lg.fl_get L k hk
  have hfl := Lg.fl_len L
  obtain ⟨b, off, rfl, c0⟩ := h.at (k * 3) (by omega)
  obtain ⟨b', off', e1, c1⟩ := h.at (k * 3 + 1) (by omega)
  obtain ⟨b'', off'', e2, c2⟩ := h.at (k * 3 + 2) (by omega)
  cases e1
  cases e2
  rw [hg.1] at c0
  rw [hg.2.1, ← Nat.add_assoc] at c1
  rw [hg.2.2, ← Nat.add_assoc] at c2
  exact ⟨b, off, rfl, c0, c1, c2⟩
end Go.Proofs.Ytefbedineniejaa
