/- What was known, turn by turn: a row of rows of events. -/
import Derived.Test.YtpbbbiifeihkaaaDoorBkQ
import Derived.Test.YtpbbbiifeihkaaaDoorBkE
namespace Go.Proofs.YtpbbbiifeihkaaaDoor
open Go.RowKit
set_option linter.unusedVariables false

/-- A row of the call's own that holds slices, each a row of the call's own that holds events. -/
def PastW (w : World) (base : Nat) (v : Value) (ps : List (List Evt)) : Prop := ∃ vs : List Value, vs.length = ps.length ∧ w.ownsRow base 37 1 v ps.length vs ∧ ∀ k (hk : k < ps.length) (hk2 : k < vs.length), w.ownsRow base 34 7 vs[k] ps[k].length (flE ps[k])
theorem PastW.below {w w' : World} {base : Nat} {v : Value} {ps : List (List Evt)} (h : PastW w base v ps) (hb : Below w.heap.size w w') : PastW w' base v ps := by
  obtain ⟨vs, h1, h2, h3⟩ := h
  exact ⟨vs, h1, own_below h2 hb, fun k hk hk2 => own_below (h3 k hk hk2) hb⟩
theorem PastW.ch {w w' : World} {B base : Nat} {v : Value} {ps : List (List Evt)} (h : PastW w base v ps) (hc : Ch B w w') (hB : B < base) : PastW w' base v ps := by
  obtain ⟨vs, h1, h2, h3⟩ := h
  exact ⟨vs, h1, Ch.own h2 hc hB (by decide), fun k hk hk2 => Ch.own (h3 k hk hk2) hc hB (by decide)⟩
/-- What the law holds of the past: at each turn what the book tells of it now. -/
def told (b : Bk) : List (List Evt) := (List.range (b.turn.toNat + 1)).map fun (k : Nat) => b.as (k : Int)
theorem told_len (b : Bk) : (told b).length = b.turn.toNat + 1 := by simp [told]
theorem told_get (b : Bk) (k : Nat) (hk : k < (told b).length) : (told b)[k] = b.as k := by simp [told]
theorem told_zero : told bk0 = [[]] := rfl
theorem told_act (b : Bk) (x : ActV) (hI : BkI b) : told (b.act x).1 = if (b.act x).2 = none then told b ++ [(b.act x).1.as (-1)] else told b := by
  have h0 := hI.turn0
  rcases act_turn b x with ⟨h1, h2⟩ | ⟨h1, h2⟩
  · rw [if_pos h1]
    refine List.ext_getElem (by rw [List.length_append, told_len, told_len, h2]; simp only [List.length_cons, List.length_nil]; omega) fun k hk hk2 => ?_
    rw [told_get]
    rw [told_len, h2] at hk
    by_cases e : k < (told b).length
    · rw [List.getElem_append_left e, told_get]
      rw [told_len] at e
      exact act_as b x k (by omega) (by omega)
    · rw [told_len] at e
      rw [List.getElem_append_right (by rw [told_len]; omega)]
      have hk3 : (k : Int) = (b.act x).1.turn := by omega
      rw [hk3]
      simp only [List.getElem_singleton]
      exact (as_last _ (by omega)).symm
  · rw [if_neg h1, h2]
end Go.Proofs.YtpbbbiifeihkaaaDoor
