/- Events with numbers of their own: their order is one. -/
import Derived.Test.YtpbbbiifeihkaaaDoorEvS
namespace Go.Proofs.YtpbbbiifeihkaaaDoor
open Go.RowKit
set_option linter.unusedVariables false

/-- The event of a line's number, if there is one. -/
def evOf (M : List Evt) (z : Int) : Option Evt := M.find? fun e => e.id == z
/-- Numbers are given once. -/
def Uniq (M : List Evt) : Prop := M.Pairwise fun x y => x.id ≠ y.id
theorem Uniq.find {M : List Evt} (h : Uniq M) {e : Evt} (he : e ∈ M) : evOf M e.id = some e := by
  induction M with
  | nil => cases he
  | cons x M ih =>
    rw [evOf, List.find?_cons]
    rcases List.mem_cons.1 he with rfl | he
    · simp
    · have h1 := (List.pairwise_cons.1 h).1 e he
      rw [show (x.id == e.id) = false by simpa using h1]
      exact ih (List.pairwise_cons.1 h).2 he
theorem Uniq.filter {M : List Evt} (h : Uniq M) (p : Evt → Bool) : Uniq (M.filter p) := List.Pairwise.filter p h
theorem ins_perm (x : Evt) (l : List Evt) : (Stb.ins leE x l).Perm (x :: l) := by
  induction l with
  | nil => exact List.Perm.refl _
  | cons y l ih =>
    rw [Stb.ins]
    split
    · exact List.Perm.refl _
    · exact (List.Perm.cons y ih).trans (List.Perm.swap x y l)
theorem isort_perm (l : List Evt) : (Stb.isort leE l).Perm l := by
  induction l with
  | nil => exact List.Perm.refl _
  | cons x l ih => rw [Stb.isort]; exact (ins_perm x _).trans (List.Perm.cons x ih)
theorem leE_anti {x y : Evt} (h1 : leE x y = true) (h2 : leE y x = true) : x.id = y.id := by
  rw [leE_iff] at h1 h2
  omega
theorem Uniq.eq {M : List Evt} (h : Uniq M) {x y : Evt} (hx : x ∈ M) (hy : y ∈ M) (he : x.id = y.id) : x = y := by
  have h1 := h.find hx
  have h2 := h.find hy
  rw [he, h2] at h1
  exact (Option.some.inj h1).symm
/-- In whichever order they are told. -/
theorem isort_same {M T : List Evt} (hu : Uniq M) (hp : T.Perm M) : Stb.isort leE T = Stb.isort leE M := by
  refine List.Perm.eq_of_pairwise (le := fun x y => leE x y = true) ?_ (Stb.isort_sorted leE_total leE_trans T) (Stb.isort_sorted leE_total leE_trans M) (((isort_perm T).trans hp).trans (isort_perm M).symm)
  intro a b ha hb h1 h2
  exact hu.eq (hp.mem_iff.1 ((isort_perm T).mem_iff.1 ha)) ((isort_perm M).mem_iff.1 hb) (leE_anti h1 h2)
theorem ins_filter (p : Evt → Bool) (x : Evt) (l : List Evt) (hs : Stb.Sorted leE l) : (Stb.ins leE x l).filter p = if p x then Stb.ins leE x (l.filter p) else l.filter p := by
  induction l with
  | nil => rw [Stb.ins]; simp only [List.filter_cons, List.filter_nil, Stb.ins]
  | cons y l ih =>
    obtain ⟨h1, h2⟩ := List.pairwise_cons.1 hs
    rw [Stb.ins]
    by_cases hxy : leE x y = true
    · rw [if_pos hxy, List.filter_cons]
      by_cases hpx : p x = true
      · rw [if_pos hpx, if_pos hpx]
        by_cases hpy : p y = true
        · rw [List.filter_cons, if_pos hpy, Stb.ins, if_pos hxy]
        · rw [List.filter_cons, if_neg hpy]
          cases hl : l.filter p with
          | nil => rfl
          | cons z r =>
            have hz : z ∈ l := (List.mem_filter.1 (by rw [hl]; simp : z ∈ l.filter p)).1
            rw [Stb.ins, if_pos (leE_trans x y z hxy (h1 z hz))]
      · rw [if_neg hpx, if_neg hpx]
    · rw [if_neg hxy, List.filter_cons, ih h2]
      by_cases hpx : p x = true
      · rw [if_pos hpx, if_pos hpx]
        by_cases hpy : p y = true
        · rw [if_pos hpy, List.filter_cons, if_pos hpy, Stb.ins, if_neg hxy]
        · rw [if_neg hpy, List.filter_cons, if_neg hpy]
      · rw [if_neg hpx, if_neg hpx, List.filter_cons]
theorem isort_filter (p : Evt → Bool) (l : List Evt) : Stb.isort leE (l.filter p) = (Stb.isort leE l).filter p := by
  induction l with
  | nil => rfl
  | cons x l ih =>
    rw [List.filter_cons, Stb.isort, ins_filter p x _ (Stb.isort_sorted leE_total leE_trans l)]
    by_cases h : p x = true
    · rw [if_pos h, if_pos h, Stb.isort, ih]
    · rw [if_neg h, if_neg h, ih]
end Go.Proofs.YtpbbbiifeihkaaaDoor
