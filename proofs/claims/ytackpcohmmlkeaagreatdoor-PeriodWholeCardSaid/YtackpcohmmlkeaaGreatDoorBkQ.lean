/- What was known behind a turn stays so, plainly. -/
import Derived.Test.YtackpcohmmlkeaaGreatDoorBkL
namespace Go.Proofs.YtackpcohmmlkeaaGreatDoor
open Go.RowKit
set_option linter.unusedVariables false

theorem seen_write (b : Bk) (e : Evt) (k : Int) (hk : k ≤ b.turn) : seenV k (b.write e).l = seenV k b.l := by
  simp only [Bk.write]
  rw [seenV_snoc, if_neg]
  simp only [knownAt, Bool.and_eq_true, decide_eq_true_eq]
  omega
theorem seen_setTo (l : List Ver) (m : Nat) (t k : Int) (hm : m < l.length) (h0 : l[m].to = 0) (hk : 0 ≤ k) (hkt : k < t) : seenV k (setTo l m t) = seenV k l := by
  have h1 : ∀ (l : List Ver) (m : Nat) (hm : m < l.length), l[m].to = 0 → seenV k (setTo l m t) = seenV k l := by
    intro l
    induction l with
    | nil => intro m hm; simp at hm
    | cons x r ih =>
      intro m hm h0
      cases m with
      | zero =>
        simp only [setTo, List.modify_zero_cons, seenV, List.filter_cons]
        simp only [List.getElem_cons_zero] at h0
        have e : knownAt k ⟨x.ev, x.frm, t⟩ = knownAt k x := by
          simp only [knownAt, h0]
          have : decide (k < t) = true := by simpa using hkt
          rw [this]
          simp
        rw [e]
        split <;> simp
      | succ m =>
        simp only [setTo, List.modify_succ_cons, seenV, List.filter_cons]
        have := ih m (by simpa using hm) (by simpa using h0)
        simp only [setTo, seenV] at this
        split
        · simp only [List.map_cons, this]
        · exact this
  exact h1 l m hm h0
/-- One act: a turn, or nothing. -/
theorem act_turn (b : Bk) (x : ActV) : ((b.act x).2 = none ∧ (b.act x).1.turn = b.turn + 1) ∨ ((b.act x).2 ≠ none ∧ (b.act x).1 = b) := by
  have hp : ((b.post x.e).2.2 = none ∧ (b.post x.e).1.turn = b.turn + 1) ∨ ((b.post x.e).2.2 ≠ none ∧ (b.post x.e).1 = b) := by
    unfold Bk.post
    split
    · split
      · exact .inr ⟨nofun, rfl⟩
      · exact .inl ⟨rfl, rfl⟩
    · exact .inr ⟨nofun, rfl⟩
  have hc : ((b.correct x.id x.e).2 = none ∧ (b.correct x.id x.e).1.turn = b.turn + 1) ∨ ((b.correct x.id x.e).2 ≠ none ∧ (b.correct x.id x.e).1 = b) := by
    unfold Bk.correct
    split
    · exact .inr ⟨nofun, rfl⟩
    · split
      · split
        · exact .inr ⟨nofun, rfl⟩
        · exact .inl ⟨rfl, rfl⟩
      · exact .inr ⟨nofun, rfl⟩
  have hv : ((b.void x.id).2 = none ∧ (b.void x.id).1.turn = b.turn + 1) ∨ ((b.void x.id).2 ≠ none ∧ (b.void x.id).1 = b) := by
    unfold Bk.void
    split
    · exact .inr ⟨nofun, rfl⟩
    · exact .inl ⟨rfl, rfl⟩
  unfold Bk.act
  split
  · exact hp
  · split
    · exact hc
    · split
      · exact hv
      · exact .inr ⟨nofun, rfl⟩
/-- What was known stays known. -/
theorem act_seen (b : Bk) (x : ActV) (k : Int) (h0 : 0 ≤ k) (hk : k ≤ b.turn) : seenV k (b.act x).1.l = seenV k b.l := by
  have hp : seenV k (b.post x.e).1.l = seenV k b.l := by
    unfold Bk.post
    split
    · split
      · rfl
      · exact seen_write ⟨b.l, b.turn, b.next + 1⟩ _ k hk
    · rfl
  have hc : seenV k (b.correct x.id x.e).1.l = seenV k b.l := by
    unfold Bk.correct
    split
    · rfl
    · rename_i m hm
      split
      · split
        · rfl
        · obtain ⟨hml, hlive, -⟩ := live_spec hm
          simp only [isLive, Bool.and_eq_true, beq_iff_eq] at hlive
          have hml2 : m < (b.write (x.e.num x.id)).l.length := by simp only [Bk.write, List.length_append]; omega
          have hget : (b.write (x.e.num x.id)).l[m] = b.l[m] := by simp only [Bk.write, List.getElem_append_left hml]
          simp only
          rw [seen_setTo _ m _ k hml2 (by rw [hget]; exact hlive.2) h0 (by omega)]
          exact seen_write b _ k hk
      · rfl
  have hv : seenV k (b.void x.id).1.l = seenV k b.l := by
    unfold Bk.void
    split
    · rfl
    · rename_i m hm
      obtain ⟨hml, hlive, -⟩ := live_spec hm
      simp only [isLive, Bool.and_eq_true, beq_iff_eq] at hlive
      exact seen_setTo _ m _ k hml hlive.2 h0 (by omega)
  unfold Bk.act
  split
  · exact hp
  · split
    · exact hc
    · split
      · exact hv
      · rfl
/-- .. and so 'As' of a turn that was. -/
theorem act_as (b : Bk) (x : ActV) (k : Int) (h0 : 0 ≤ k) (hk : k ≤ b.turn) : (b.act x).1.as k = b.as k := by
  have ht : b.turn ≤ (b.act x).1.turn := by
    rcases act_turn b x with ⟨-, h⟩ | ⟨-, h⟩
    · omega
    · rw [h]; exact Int.le_refl _
  have e1 : b.at k = k := by unfold Bk.at; rw [if_neg (by omega)]
  have e2 : (b.act x).1.at k = k := by unfold Bk.at; rw [if_neg (by omega)]
  unfold Bk.as
  rw [e1, e2]
  exact congrArg _ (act_seen b x k h0 hk)
theorem as_last (b : Bk) (h : 0 ≤ b.turn) : b.as (-1) = b.as b.turn := by
  have e1 : b.at (-1) = b.turn := by unfold Bk.at; rw [if_pos (Or.inl (by omega))]
  have e2 : b.at b.turn = b.turn := by unfold Bk.at; rw [if_neg (by omega)]
  unfold Bk.as
  rw [e1, e2]
end Go.Proofs.YtackpcohmmlkeaaGreatDoor
