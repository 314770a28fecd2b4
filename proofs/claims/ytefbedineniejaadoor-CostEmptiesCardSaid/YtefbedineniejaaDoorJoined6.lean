/- Joined: StbM, EvN. -/
import Derived.Sort.LotA
import Derived.Shelf.Strings.SlTrimAscii
import Derived.Deep.QuietTactic
import Derived.BigQuiet
import Derived.Handy
import Derived.WalkSpells
import Derived.WalkLawsBesides
import Derived.Lib.Hide
import Derived.Test.YtefbedineniejaaDoorJoined5
import Derived.Test.YtefbedineniejaaDoorShelf
import Derived.Test.YtefbedineniejaaDoorJoined11

section
/- Stable sort, plain: insertion from the right; merging two sorted lists is sorting both. -/
namespace Go.Proofs.YtefbedineniejaaDoor
namespace Stb
variable {α : Type} (le : α → α → Bool)
/-- x ahead of all that it may stand ahead of. -/
def ins (x : α) : List α → List α
  | [] => [x]
  | y :: l => if le x y then x :: y :: l else y :: ins x l
def isort : List α → List α
  | [] => []
  | x :: l => ins le x (isort l)
/-- Merging: the left one first, where it may be. -/
def mrg : List α → List α → List α
  | [], b => b
  | a, [] => a
  | x :: a, y :: b => if le x y then x :: mrg a (y :: b) else y :: mrg (x :: a) b
termination_by a b => a.length + b.length
theorem mrg_nil (a : List α) : mrg le a [] = a := by cases a <;> simp [mrg]
theorem nil_mrg (b : List α) : mrg le [] b = b := by simp [mrg]
theorem mrg_cons (x y : α) (a b : List α) : mrg le (x :: a) (y :: b) = if le x y then x :: mrg le a (y :: b) else y :: mrg le (x :: a) b := by rw [mrg]
/-- What is split well is merged part by part. -/
theorem mrg_split (A1 A2 B1 B2 : List α) (h1 : ∀ x ∈ A1, ∀ y ∈ B2, le x y = true) (h2 : ∀ y ∈ B1, ∀ x ∈ A2, le x y = false) : mrg le (A1 ++ A2) (B1 ++ B2) = mrg le A1 B1 ++ mrg le A2 B2 := by
  induction A1 generalizing B1 with
  | nil =>
    induction B1 with
    | nil => simp [nil_mrg]
    | cons b B1 ih =>
      have ih' := ih fun y hy => h2 y (List.mem_cons_of_mem _ hy)
      simp only [List.nil_append, nil_mrg, List.cons_append] at ih' ⊢
      cases A2 with
      | nil => simp [nil_mrg]
      | cons a A2 =>
        rw [mrg_cons, if_neg (by rw [h2 b (by simp) a (by simp)]; simp), ih']
  | cons a A1 ih =>
    have hA := fun B1 h2 => ih B1 (fun x hx => h1 x (List.mem_cons_of_mem _ hx)) h2
    induction B1 with
    | nil =>
      have := hA [] (by simp)
      simp only [List.nil_append, mrg_nil, List.cons_append] at this ⊢
      cases B2 with
      | nil => simp [mrg_nil]
      | cons b B2 => rw [mrg_cons, if_pos (h1 a (by simp) b (by simp)), this]
    | cons b B1 ihb =>
      have e1 := hA (b :: B1) h2
      have e2 := ihb fun y hy => h2 y (List.mem_cons_of_mem _ hy)
      simp only [List.cons_append] at e1 e2 ⊢
      rw [mrg_cons, mrg_cons, e1, e2]
      split <;> simp
def Total : Prop := ∀ x y, le x y = true ∨ le y x = true
def Trans : Prop := ∀ x y z, le x y = true → le y z = true → le x z = true
def Sorted (l : List α) : Prop := l.Pairwise fun x y => le x y = true
variable {le}
theorem ins_sorted (T : Total le) (R : Trans le) (x : α) (l : List α) (h : Sorted le l) : Sorted le (ins le x l) ∧ ∀ z, z ∈ ins le x l ↔ z = x ∨ z ∈ l := by
  induction l with
  | nil => simp [ins, Sorted]
  | cons y l ih =>
    have h' := List.pairwise_cons.1 h
    obtain ⟨i1, i2⟩ := ih h'.2
    by_cases hxy : le x y = true
    · rw [ins, if_pos hxy]
      refine ⟨List.pairwise_cons.2 ⟨fun z hz => ?_, h⟩, fun z => by simp⟩
      rcases List.mem_cons.1 hz with rfl | hz
      · exact hxy
      · exact R _ _ _ hxy (h'.1 z hz)
    · rw [ins, if_neg hxy]
      have hyx : le y x = true := (T x y).resolve_left hxy
      refine ⟨List.pairwise_cons.2 ⟨fun z hz => ?_, i1⟩, fun z => ?_⟩
      · rcases (i2 z).1 hz with rfl | hz
        · exact hyx
        · exact h'.1 z hz
      · simp only [List.mem_cons, i2]; constructor
        · rintro (h | h | h) <;> simp [h]
        · rintro (h | h | h) <;> simp [h]
theorem isort_sorted (T : Total le) (R : Trans le) (l : List α) : Sorted le (isort le l) := by
  induction l with
  | nil => exact List.Pairwise.nil
  | cons x l ih => exact (ins_sorted T R x _ ih).1
theorem isort_mem (T : Total le) (R : Trans le) (l : List α) (z : α) : z ∈ isort le l ↔ z ∈ l := by
  induction l with
  | nil => rfl
  | cons x l ih => rw [isort, (ins_sorted T R x _ (isort_sorted T R l)).2, ih]; simp
theorem ins_mrg (T : Total le) (R : Trans le) (x : α) (X Y : List α) (hX : Sorted le X) : ins le x (mrg le X Y) = mrg le (ins le x X) Y := by
  induction Y generalizing X with
  | nil => simp [mrg_nil]
  | cons y Y ih =>
    induction X with
    | nil =>
      simp only [nil_mrg, ins]
      rw [mrg_cons]
      by_cases h : le x y = true
      · rw [if_pos h, if_pos h, nil_mrg]
      · rw [if_neg h, if_neg h]
        have := ih [] List.Pairwise.nil
        simp only [nil_mrg, ins] at this
        rw [this]
    | cons a X ihX =>
      have hX' := List.pairwise_cons.1 hX
      rw [mrg_cons]
      by_cases hay : le a y = true
      · rw [if_pos hay]
        by_cases hxa : le x a = true
        · have hxy := R _ _ _ hxa hay
          rw [ins, if_pos hxa, ins, if_pos hxa, mrg_cons, if_pos hxy, mrg_cons, if_pos hay]
        · rw [ins, if_neg hxa, ins, if_neg hxa, mrg_cons, if_pos hay, ihX hX'.2]
      · rw [if_neg hay]
        by_cases hxy : le x y = true
        · have hya : le y a = true := (T a y).resolve_left hay
          have hxa := R _ _ _ hxy hya
          rw [ins, if_pos hxy, ins, if_pos hxa, mrg_cons, if_pos hxy, mrg_cons, if_neg hay]
        · rw [ins, if_neg hxy, ih _ hX]
          by_cases hxa : le x a = true
          · rw [ins, if_pos hxa, mrg_cons, if_neg hxy]
          · rw [ins, if_neg hxa, mrg_cons, if_neg hay]
theorem mrg_isort (T : Total le) (R : Trans le) (A B : List α) : mrg le (isort le A) (isort le B) = isort le (A ++ B) := by
  induction A with
  | nil => simp [isort, nil_mrg]
  | cons a A ih => rw [List.cons_append, isort, isort, ← ins_mrg T R _ _ _ (isort_sorted T R A), ih]
theorem mrg_one (X : List α) (x : α) (U V : List α) (hX : X = U ++ V) (h1 : ∀ u ∈ U, le u x = true) (h2 : ∀ v ∈ V, le v x = false) : mrg le X [x] = U ++ x :: V := by
  subst hX
  have := mrg_split le U V [] [x] (fun u hu y hy => by rw [List.mem_singleton.1 hy]; exact h1 u hu) (by simp)
  rw [List.nil_append, mrg_nil] at this
  rw [this]
  have h := mrg_split le [] V [x] [] (by simp) (fun y hy v hv => by rw [List.mem_singleton.1 hy]; exact h2 v hv)
  simp only [List.nil_append, List.append_nil, nil_mrg, mrg_nil] at h
  rw [h]; simp
end Stb
end Go.Proofs.YtefbedineniejaaDoor
end

section
/- event.Name: what it hands back. -/
namespace Go.Proofs.YtefbedineniejaaDoor
open Go.RowKit

theorem trim_alnum (s : ByteArray) (w : World) (hs : s.size ≤ 1000000) :
    Calls Tryd.prog 81 #[.string s, .string ⟨Ev.alnum.toArray⟩] w (Gives (.string ⟨(Lib.trimS s.data.toList Ev.alnum).toArray⟩) w) := by
  refine (Any.strings_Trim_laid Tryd.lays160 (by kernel_rfl) s ⟨Ev.alnum.toArray⟩ w (by omega) (by decide) (ascii_of_all (by decide))).mono ?_
  rintro e w' ⟨rfl, hb⟩
  exact ⟨rfl, hb⟩
theorem index_letters (c : UInt8) (w : World) :
    Calls Tryd.prog 80 #[.string ⟨Ev.letters.toArray⟩, .int .u8 (c.toNat : Int)] w (Gives (.int .i64 (Lib.indexByte Ev.letters c)) w) := by
  refine (Tryd.strings_IndexByte ⟨Ev.letters.toArray⟩ (c.toNat : Int) w).mono ?_
  rintro e w' ⟨rfl, rfl⟩
  refine ⟨?_, Below.refl _ _⟩
  rw [show ((c.toNat : Int)).toNat.toUInt8 = c by simp]

set_option maxHeartbeats 1000000 in
set_option maxRecDepth 100000 in
theorem name_any (s : ByteArray) (w : World) (hs : s.size ≤ 1000000) :
    Calls Tryd.prog 63 #[.string s] w (Gives (.bool (Ev.nameB s.data.toList)) w) := by
  have hl : s.data.toList.length = s.size := by simp
  by_cases h0 : s.size = 0
  · have hn : s.data.toList = [] := List.eq_nil_of_length_eq_zero (by omega)
    have e1 : s.toList = [] := by rw [Go.ByteArray.toList_eq, hn]
    have e2 : (!s.toList.isEmpty) = false := by rw [e1]; rfl
    have hB : Ev.nameB s.data.toList = false := by rw [hn]; rfl
    have HB := Lib.hid hB
    clear hB hn hl h0
    rw [HB.out]
    go_enter Tryd.func63, Tryd.ntmps63
    go_wp2
    go_ret
    exact ⟨rfl, Below.refl _ _⟩
  · have hne : s.data.toList ≠ [] := fun e => by rw [e] at hl; simp at hl; omega
    have e2 : (!s.toList.isEmpty) = true := by rw [Go.ByteArray.toList_eq]; cases h : s.data.toList with
      | nil => exact absurd h hne
      | cons _ _ => rfl
    have e3 : s.toList ≠ [] := by rw [Go.ByteArray.toList_eq]; exact hne
    by_cases h10 : s.size ≤ 10
    · have hi := index_at (P := Tryd.prog) 9 Tryd.underlying9 s 0 0 rfl (by omega)
      have hhd : s.data.toList.headD 0 = s.data.toList.getD 0 0 := by cases s.data.toList <;> rfl
      obtain ⟨c, hc⟩ : ∃ c, c = s.data.toList.getD 0 0 := ⟨_, rfl⟩
      rw [← hc] at hi hhd
      have HI := Lib.hid (index_letters c)
      have hm := Ev.indexByte_mem Ev.letters c
      obtain ⟨z, hz⟩ : ∃ z, z = Lib.indexByte Ev.letters c := ⟨_, rfl⟩
      rw [← hz] at HI hm
      have HT := Lib.hid (fun w => trim_alnum s w hs)
      obtain ⟨t, ht⟩ : ∃ t : ByteArray, t = ⟨(Lib.trimS s.data.toList Ev.alnum).toArray⟩ := ⟨_, rfl⟩
      rw [← ht] at HT
      have htl : t.data.toList = Lib.trimS s.data.toList Ev.alnum := by rw [ht]
      by_cases hcl : 0 ≤ z
      · have hlet : Ev.letters.contains c = true := by rw [← hm, decide_eq_true hcl]
        by_cases hall : ∀ b ∈ s.data.toList, Ev.alnum.contains b = true
        · have hB : Ev.nameB s.data.toList = true := decide_eq_true ⟨hne, by omega, by rw [hhd]; exact hlet, hall⟩
          have q1 : t.toList = [] := by rw [Go.ByteArray.toList_eq, htl, Ev.trimS_nil]; exact hall
          have q2 : t.toList.isEmpty = true := by rw [q1]; rfl
          have HB := Lib.hid hB
          clear hB hall htl ht hlet hz hm hhd hc hne hl h0
          rw [HB.out]
          go_enter Tryd.func63, Tryd.ntmps63
          go_wp2_with fail
          refine (HI.out _).mono ?_
          rintro e w1 ⟨rfl, hb1⟩
          go_wp2_with fail
          refine (HT.out _).mono ?_
          rintro e w2 ⟨rfl, hb2⟩
          go_wp2_with fail
          go_ret
          exact ⟨rfl, hb1.step hb2⟩
        · have hB : Ev.nameB s.data.toList = false := decide_eq_false (fun h => hall h.2.2.2)
          have q1 : t.toList ≠ [] := by rw [Go.ByteArray.toList_eq, htl]; exact fun h => hall ((Ev.trimS_nil _ _).1 h)
          have q2 : t.toList.isEmpty = false := by
            cases h : t.toList with
            | nil => exact absurd h q1
            | cons _ _ => rfl
          have HB := Lib.hid hB
          clear hB hall htl ht hlet hz hm hhd hc hne hl h0
          rw [HB.out]
          go_enter Tryd.func63, Tryd.ntmps63
          go_wp2_with fail
          refine (HI.out _).mono ?_
          rintro e w1 ⟨rfl, hb1⟩
          go_wp2_with fail
          refine (HT.out _).mono ?_
          rintro e w2 ⟨rfl, hb2⟩
          go_wp2_with fail
          go_ret
          exact ⟨rfl, hb1.step hb2⟩
      · have hlet : Ev.letters.contains c = false := by rw [← hm, decide_eq_false hcl]
        have hB : Ev.nameB s.data.toList = false := decide_eq_false (fun h => by have := h.2.2.1; rw [hhd, hlet] at this; cases this)
        have HB := Lib.hid hB
        clear hB htl ht hlet hz hm hhd hc hne hl h0
        rw [HB.out]
        go_enter Tryd.func63, Tryd.ntmps63
        go_wp2_with fail
        refine (HI.out _).mono ?_
        rintro e w1 ⟨rfl, hb1⟩
        go_wp2_with fail
        go_ret
        exact ⟨rfl, hb1⟩
    · have hB : Ev.nameB s.data.toList = false := decide_eq_false (fun h => by have := h.2.1; omega)
      have HB := Lib.hid hB
      clear hB hne hl h0
      rw [HB.out]
      go_enter Tryd.func63, Tryd.ntmps63
      go_wp2
      go_ret
      exact ⟨rfl, Below.refl _ _⟩
end Go.Proofs.YtefbedineniejaaDoor
end
