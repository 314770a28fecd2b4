/- The journal's frames: plain laws on lists of bytes. -/
import Derived.Test.YtmkkoccnnehkeaaDoorCrcM
namespace Go.Proofs.YtmkkoccnnehkeaaDoor.Cr
open Go.RowKit

def head (n : Nat) (t : List UInt8) : List UInt8 := four t.length ++ four n
def body (n : Nat) (t : List UInt8) : List UInt8 := head n t ++ (four (crc (head n t)) ++ t)
/-- a line's frame. -/
def frame (n : Nat) (t : List UInt8) : List UInt8 := body n t ++ four (crc (body n t))
/-- the frame of number n at a text's beginning: its line, how many bytes it takes. -/
def one (l : List UInt8) (n : Nat) : Option (List UInt8 × Nat) :=
  if l.length < 16 then none
  else if crc (l.take 8) ≠ get (l.drop 8) then none
  else if get (l.drop 4) ≠ n then none
  else if 200 < get l then none
  else if l.length < 16 + get l then none
  else if crc (l.take (12 + get l)) ≠ get (l.drop (12 + get l)) then none
  else some ((l.take (12 + get l)).drop 12, 16 + get l)
/-- lines of frames, numbered from n on, and how many bytes they take. -/
inductive Reads : List UInt8 → Nat → List (List UInt8) → Nat → Prop
  | stop {l : List UInt8} {n : Nat} (h : one l n = none) : Reads l n [] 0
  | go {l : List UInt8} {n : Nat} {t : List UInt8} {m : Nat} {ts : List (List UInt8)} {k : Nat} (h : one l n = some (t, m)) (r : Reads (l.drop m) (n + 1) ts k) : Reads l n (t :: ts) (m + k)

theorem Reads.det {l : List UInt8} {n : Nat} {ts : List (List UInt8)} {m : Nat} (h : Reads l n ts m) : ∀ {ts' : List (List UInt8)} {m' : Nat}, Reads l n ts' m' → ts = ts' ∧ m = m' := by
  induction h with
  | stop h =>
    intro ts' m' h'
    cases h' with
    | stop _ => exact ⟨rfl, rfl⟩
    | go h2 _ => rw [h] at h2; cases h2
  | go h _ ih =>
    intro ts' m' h'
    cases h' with
    | stop h2 => rw [h] at h2; cases h2
    | go h2 r2 =>
      rw [h] at h2
      cases h2
      have := ih r2
      exact ⟨by rw [this.1], by rw [this.2]⟩

theorem get_append (a b : List UInt8) (h : 4 ≤ a.length) : get (a ++ b) = get a := by
  unfold get
  simp only [List.getD, List.getElem?_append_left (show 0 < a.length by omega), List.getElem?_append_left (show 1 < a.length by omega), List.getElem?_append_left (show 2 < a.length by omega), List.getElem?_append_left (show 3 < a.length by omega)]
theorem one_bd {l : List UInt8} {n : Nat} {t : List UInt8} {m : Nat} (h : one l n = some (t, m)) : 16 ≤ m ∧ m ≤ l.length ∧ t.length ≤ 200 ∧ m = 16 + t.length := by
  unfold one at h
  split at h
  · cases h
  · split at h
    · cases h
    · split at h
      · cases h
      · split at h
        · cases h
        · split at h
          · cases h
          · split at h
            · cases h
            · cases h
              simp
              omega
theorem head_len (n : Nat) (t : List UInt8) : (head n t).length = 8 := rfl
theorem body_len (n : Nat) (t : List UInt8) : (body n t).length = 12 + t.length := by simp [body, head_len, four_len]; omega
theorem frame_len (n : Nat) (t : List UInt8) : (frame n t).length = 16 + t.length := by simp [frame, body_len, four_len]; omega

/-- what a text begins with: a frame is read from it just as it was written. -/
theorem one_frame (n : Nat) (t r : List UInt8) (hn : n < 4294967296) (ht : t.length ≤ 200) : one (frame n t ++ r) n = some (t, 16 + t.length) := by
  have e0 : frame n t ++ r = four t.length ++ (four n ++ (four (crc (head n t)) ++ (t ++ (four (crc (body n t)) ++ r)))) := by simp [frame, body, head]
  have g0 : get (frame n t ++ r) = t.length := by rw [e0]; exact get_four _ (by omega) _
  have g4 : get ((frame n t ++ r).drop 4) = n := by rw [e0, List.drop_left' (four_len _)]; exact get_four _ hn _
  have e8 : (frame n t ++ r).drop 8 = four (crc (head n t)) ++ (t ++ (four (crc (body n t)) ++ r)) := by
    have : frame n t ++ r = head n t ++ (four (crc (head n t)) ++ (t ++ (four (crc (body n t)) ++ r))) := by simp [frame, body]
    rw [this, List.drop_left' (head_len n t)]
  have t8 : (frame n t ++ r).take 8 = head n t := by
    have : frame n t ++ r = head n t ++ (four (crc (head n t)) ++ (t ++ (four (crc (body n t)) ++ r))) := by simp [frame, body]
    rw [this, List.take_left' (head_len n t)]
  have eb : frame n t ++ r = body n t ++ (four (crc (body n t)) ++ r) := by simp [frame]
  have tb : (frame n t ++ r).take (12 + t.length) = body n t := by rw [eb, List.take_left' (body_len n t)]
  have db : (frame n t ++ r).drop (12 + t.length) = four (crc (body n t)) ++ r := by rw [eb, List.drop_left' (body_len n t)]
  unfold one
  rw [g0, g4, e8, t8, tb, db, get_four _ (crc_lt _), get_four _ (crc_lt _)]
  rw [if_neg (by rw [List.length_append, frame_len]; omega), if_neg (by simp), if_neg (by simp), if_neg (by omega), if_neg (by rw [List.length_append, frame_len]; omega), if_neg (by simp)]
  have : (body n t).drop 12 = t := by
    have e1 : body n t = (head n t ++ four (crc (head n t))) ++ t := by simp [body]
    rw [e1, List.drop_left' (by simp [head_len, four_len])]
  rw [this]
end Go.Proofs.YtmkkoccnnehkeaaDoor.Cr
