/- A book, plainly: versions, what is posted, corrected, voided; what was known behind a turn. -/
import Derived.Test.YtpbbbiifeihkaaaDoorEvW
namespace Go.Proofs.YtpbbbiifeihkaaaDoor
open Go.RowKit
set_option linter.unusedVariables false

structure Ver where
  ev : Evt
  frm : Int
  to : Int
structure Bk where
  l : List Ver
  turn : Int
  next : Int
def bk0 : Bk := ⟨[], 0, 0⟩
/-- The version of a number that is known yet. -/
def isLive (id : Int) (v : Ver) : Bool := v.ev.id == id && v.to == 0
def Bk.live (b : Bk) (id : Int) : Option Nat := b.l.findIdx? (isLive id)
def Evt.num (e : Evt) (z : Int) : Evt := ⟨z, e.item, e.kind, e.qty, e.price, e.ofn, e.day⟩
def setTo (l : List Ver) (k : Nat) (t : Int) : List Ver := l.modify k fun v => ⟨v.ev, v.frm, t⟩
def Bk.write (b : Bk) (e : Evt) : Bk := ⟨b.l ++ [⟨e, b.turn + 1, 0⟩], b.turn + 1, b.next⟩
/-- Post: the book behind it, the number, what is wrong. -/
def Bk.post (b : Bk) (e : Evt) : Bk × Int × Option Int :=
  if e.right then (if 120 ≤ b.l.length then (b, 0, some 12) else (Bk.write ⟨b.l, b.turn, b.next + 1⟩ (e.num (b.next + 1)), b.next + 1, none)) else (b, 0, some 1)
def Bk.correct (b : Bk) (id : Int) (e : Evt) : Bk × Option Int :=
  match b.live id with
  | none => (b, some 7)
  | some k => if e.right then (if 120 ≤ b.l.length then (b, some 12) else (⟨setTo (b.write (e.num id)).l k (b.turn + 1), b.turn + 1, b.next⟩, none)) else (b, some 1)
def Bk.void (b : Bk) (id : Int) : Bk × Option Int :=
  match b.live id with
  | none => (b, some 7)
  | some k => (⟨setTo b.l k (b.turn + 1), b.turn + 1, b.next⟩, none)
/-- Known behind a turn. -/
def knownAt (t : Int) (v : Ver) : Bool := decide (v.frm ≤ t) && (v.to == 0 || decide (t < v.to))
def Bk.at (b : Bk) (t : Int) : Int := if t < 0 ∨ b.turn < t then b.turn else t
def Bk.as (b : Bk) (t : Int) : List Evt := Stb.isort leE ((b.l.filter (knownAt (b.at t))).map Ver.ev)
/-- What holds of a version. -/
def OkV (t n : Int) (v : Ver) : Prop := 1 ≤ v.frm ∧ v.frm ≤ t ∧ (v.to = 0 ∨ (v.frm < v.to ∧ v.to ≤ t)) ∧ 1 ≤ v.ev.id ∧ v.ev.id ≤ n ∧ v.ev.right = true
theorem OkV.mono {t n t' n' : Int} {v : Ver} (h : OkV t n v) (ht : t ≤ t') (hn : n ≤ n') : OkV t' n' v := by
  obtain ⟨h1, h2, h3, h4, h5, h6⟩ := h
  exact ⟨h1, by omega, by omega, h4, by omega, h6⟩
/-- What holds of a book. -/
structure BkI (b : Bk) : Prop where
  len : b.l.length ≤ 120
  turn0 : 0 ≤ b.turn
  next0 : 0 ≤ b.next
  ok : ∀ v ∈ b.l, OkV b.turn b.next v
  apart : b.l.Pairwise fun x y => x.ev.id = y.ev.id → x.to ≠ 0 ∧ x.to ≤ y.frm
theorem bkI0 : BkI bk0 := ⟨by simp [bk0], Int.le_refl _, Int.le_refl _, fun v hv => (by cases hv), List.Pairwise.nil⟩
theorem BkI.uniq {b : Bk} (h : BkI b) (t : Int) : Uniq ((b.l.filter (knownAt t)).map Ver.ev) := by
  unfold Uniq
  rw [List.pairwise_map]
  refine List.Pairwise.imp_of_mem ?_ (List.Pairwise.filter _ h.apart)
  intro x y hx hy hxy e
  obtain ⟨h1, h2⟩ := hxy e
  have k1 := (List.mem_filter.1 hx).2
  have k2 := (List.mem_filter.1 hy).2
  simp only [knownAt, Bool.and_eq_true, Bool.or_eq_true, decide_eq_true_eq, beq_iff_eq] at k1 k2
  omega
theorem live_spec {b : Bk} {id : Int} {k : Nat} (h : b.live id = some k) : ∃ hk : k < b.l.length, isLive id b.l[k] = true ∧ ∀ j (hj : j < k), isLive id b.l[j] = false := by
  unfold Bk.live at h
  rw [List.findIdx?_eq_some_iff_getElem] at h
  obtain ⟨hk, h1, h2⟩ := h
  exact ⟨hk, h1, fun j hj => by have := h2 j hj; simpa using this⟩
theorem live_none {b : Bk} {id : Int} (h : b.live id = none) : ∀ v ∈ b.l, isLive id v = false := by
  unfold Bk.live at h
  rw [List.findIdx?_eq_none_iff] at h
  exact h
theorem num_right (e : Evt) (z : Int) : (e.num z).right = e.right := rfl
theorem setTo_len (l : List Ver) (k : Nat) (t : Int) : (setTo l k t).length = l.length := by simp [setTo]
theorem setTo_get (l : List Ver) (k : Nat) (t : Int) (j : Nat) (hj : j < l.length) : (setTo l k t)[j]'(by rw [setTo_len]; exact hj) = if k = j then ⟨l[j].ev, l[j].frm, t⟩ else l[j] := by
  simp only [setTo, List.getElem_modify]
theorem BkI.write {b : Bk} (h : BkI b) (e : Evt) (he : e.right = true) (hid : 1 ≤ e.id ∧ e.id ≤ b.next) (hlen : b.l.length < 120) (hno : ∀ v ∈ b.l, v.ev.id = e.id → v.to ≠ 0) : BkI (b.write e) := by
  refine ⟨by simp [Bk.write]; omega, by simp only [Bk.write]; have := h.turn0; omega, h.next0, fun v hv => ?_, ?_⟩
  · simp only [Bk.write] at hv ⊢
    rcases List.mem_append.1 hv with hv | hv
    · exact (h.ok v hv).mono (by omega) (Int.le_refl _)
    · rw [List.mem_singleton.1 hv]
      have := h.turn0
      exact ⟨by simp only; omega, by simp, Or.inl rfl, hid.1, hid.2, he⟩
  · simp only [Bk.write]
    refine List.pairwise_append.2 ⟨h.apart, List.pairwise_singleton _ _, fun x hx y hy hxy => ?_⟩
    rw [List.mem_singleton.1 hy] at hxy ⊢
    have h1 := hno x hx hxy
    obtain ⟨-, -, h2, -⟩ := h.ok x hx
    refine ⟨h1, ?_⟩
    simp only
    omega
theorem BkI.post {b : Bk} (h : BkI b) (e : Evt) : BkI (b.post e).1 := by
  unfold Bk.post
  split
  · rename_i hr
    split
    · exact h
    · refine BkI.write (b := ⟨b.l, b.turn, b.next + 1⟩) ⟨h.len, h.turn0, by have := h.next0; simp only; omega, fun v hv => (h.ok v hv).mono (Int.le_refl _) (by simp only; omega), h.apart⟩ _ (by rw [num_right]; exact hr) ⟨by simp only [Evt.num]; have := h.next0; omega, Int.le_refl _⟩ (by simp only; omega) (fun v hv hid => ?_)
      · obtain ⟨-, -, -, -, h5, -⟩ := h.ok v hv; simp only [Evt.num] at hid; omega
  · exact h
theorem BkI.correct {b : Bk} (h : BkI b) (id : Int) (e : Evt) : BkI (b.correct id e).1 := by
  unfold Bk.correct
  split
  · exact h
  · rename_i k hk
    split
    · rename_i hr
      split
      · exact h
      · rename_i hlen
        obtain ⟨hkl, hlive, hbef⟩ := live_spec hk
        simp only [isLive, Bool.and_eq_true, beq_iff_eq] at hlive
        obtain ⟨k1, k2, k3, k4, k5, k6⟩ := h.ok _ (List.getElem_mem hkl)
        have hg : ∀ j (hj : j < (setTo (b.write (e.num id)).l k (b.turn + 1)).length), (j = b.l.length ∧ (setTo (b.write (e.num id)).l k (b.turn + 1))[j] = ⟨e.num id, b.turn + 1, 0⟩) ∨ ∃ hj' : j < b.l.length, (setTo (b.write (e.num id)).l k (b.turn + 1))[j] = if k = j then ⟨b.l[j].ev, b.l[j].frm, b.turn + 1⟩ else b.l[j] := by
          intro j hj
          rw [setTo_len] at hj
          simp only [Bk.write, List.length_append, List.length_cons, List.length_nil] at hj
          rw [setTo_get _ _ _ _ (by simp [Bk.write]; omega)]
          by_cases e1 : j < b.l.length
          · right
            refine ⟨e1, ?_⟩
            simp only [Bk.write, List.getElem_append_left e1]
          · left
            have e2 : j = b.l.length := by omega
            subst e2
            refine ⟨rfl, ?_⟩
            rw [if_neg (by omega)]
            simp [Bk.write]
        refine ⟨by rw [setTo_len]; simp [Bk.write]; omega, by simp only; have := h.turn0; omega, h.next0, fun v hv => ?_, ?_⟩
        · obtain ⟨j, hj, rfl⟩ := List.getElem_of_mem hv
          rcases hg j hj with ⟨-, h1⟩ | ⟨hj', h1⟩
          · rw [h1]
            have := h.turn0
            exact ⟨by simp only; omega, Int.le_refl _, Or.inl rfl, by simp only [Evt.num]; omega, by simp only [Evt.num]; omega, by rw [num_right]; exact hr⟩
          · rw [h1]
            have ho := h.ok _ (List.getElem_mem hj')
            split
            · obtain ⟨o1, o2, o3, o4⟩ := ho
              exact ⟨o1, by simp only; omega, Or.inr ⟨by simp only; omega, by simp only; omega⟩, o4⟩
            · exact ho.mono (by simp only; omega) (Int.le_refl _)
        · rw [List.pairwise_iff_getElem]
          intro i j hi hj hij
          have hap := List.pairwise_iff_getElem.1 h.apart
          rcases hg i hi with ⟨hi1, h1⟩ | ⟨hi', h1⟩
          · rcases hg j hj with ⟨hj1, -⟩ | ⟨hj', -⟩
            · omega
            · omega
          · rcases hg j hj with ⟨hj1, h2⟩ | ⟨hj', h2⟩
            · rw [h1, h2]
              split
              · intro _; simp only; have := h.turn0; omega
              · rename_i hne
                intro hid
                simp only [Evt.num] at hid
                obtain ⟨-, -, hoi, -⟩ := h.ok _ (List.getElem_mem hi')
                have : b.l[i].to ≠ 0 := by
                  intro h0
                  rcases Nat.lt_trichotomy i k with hlt | heq | hgt
                  · have := hbef i hlt
                    simp [isLive, hid, h0] at this
                  · exact hne heq.symm
                  · have := hap k i hkl hi' hgt (by rw [hlive.1, hid])
                    exact this.1 hlive.2
                refine ⟨this, ?_⟩
                simp only
                omega
            · rw [h1, h2]
              have h3 := hap i j hi' hj' hij
              intro hid
              have hid' : b.l[i].ev.id = b.l[j].ev.id := by
                revert hid
                split <;> split <;> exact fun h => h
              have h4 := h3 hid'
              split
              · rename_i e1
                subst e1
                exact absurd hlive.2 h4.1
              · split
                · exact h4
                · exact h4
    · exact h
theorem BkI.void {b : Bk} (h : BkI b) (id : Int) : BkI (b.void id).1 := by
  unfold Bk.void
  split
  · exact h
  · rename_i k hk
    obtain ⟨hkl, hlive, hbef⟩ := live_spec hk
    simp only [isLive, Bool.and_eq_true, beq_iff_eq] at hlive
    obtain ⟨k1, k2, k3, k4, k5, k6⟩ := h.ok _ (List.getElem_mem hkl)
    have hap := List.pairwise_iff_getElem.1 h.apart
    refine ⟨by rw [setTo_len]; exact h.len, by simp only; have := h.turn0; omega, h.next0, fun v hv => ?_, ?_⟩
    · obtain ⟨j, hj, rfl⟩ := List.getElem_of_mem hv
      have hj' : j < b.l.length := by rw [setTo_len] at hj; exact hj
      rw [setTo_get _ _ _ _ hj']
      have ho := h.ok _ (List.getElem_mem hj')
      split
      · obtain ⟨o1, o2, o3, o4⟩ := ho
        exact ⟨o1, by simp only; omega, Or.inr ⟨by simp only; omega, by simp only; omega⟩, o4⟩
      · exact ho.mono (by simp only; omega) (Int.le_refl _)
    · rw [List.pairwise_iff_getElem]
      intro i j hi hj hij
      have hi' : i < b.l.length := by rw [setTo_len] at hi; exact hi
      have hj' : j < b.l.length := by rw [setTo_len] at hj; exact hj
      rw [setTo_get _ _ _ _ hi', setTo_get _ _ _ _ hj']
      have h3 := hap i j hi' hj' hij
      intro hid
      have hid' : b.l[i].ev.id = b.l[j].ev.id := by
        revert hid
        split <;> split <;> exact fun h => h
      have h4 := h3 hid'
      split
      · rename_i e1
        subst e1
        exact absurd hlive.2 h4.1
      · split
        · exact h4
        · exact h4
end Go.Proofs.YtpbbbiifeihkaaaDoor
