/- A text in pieces, cut at one byte: plain laws. -/
import Derived.Lib.SplitLaws
import Derived.Lib.IndexBytes
namespace Go.Proofs.YtefbedineniejaaDoor.Sp

/-- The pieces between the bytes c. -/
def spl (c : UInt8) : List UInt8 → List (List UInt8)
  | [] => [[]]
  | b :: l => if b = c then [] :: spl c l else match spl c l with
    | [] => [[b]]
    | x :: r => (b :: x) :: r
/-- Pieces, joined by c. -/
def jn (c : UInt8) : List (List UInt8) → List UInt8
  | [] => []
  | [x] => x
  | x :: y :: r => x ++ c :: jn c (y :: r)

theorem spl_ne (c : UInt8) (l : List UInt8) : spl c l ≠ [] := by
  cases l with
  | nil => simp [spl]
  | cons b l =>
    unfold spl
    split
    · simp
    · split <;> simp
theorem spl_none {c : UInt8} {x : List UInt8} (h : c ∉ x) : spl c x = [x] := by
  induction x with
  | nil => rfl
  | cons b x ih =>
    simp only [List.mem_cons, not_or] at h
    rw [spl, if_neg (fun e => h.1 e.symm), ih h.2]
theorem spl_cons {c : UInt8} {x : List UInt8} (r : List UInt8) (h : c ∉ x) : spl c (x ++ c :: r) = x :: spl c r := by
  induction x with
  | nil => simp [spl]
  | cons b x ih =>
    simp only [List.mem_cons, not_or] at h
    rw [List.cons_append, spl, if_neg (fun e => h.1 e.symm), ih h.2]
theorem cut {c : UInt8} {l : List UInt8} (h : c ∈ l) : ∃ x r, l = x ++ c :: r ∧ c ∉ x := by
  induction l with
  | nil => simp at h
  | cons b l ih =>
    by_cases e : b = c
    · exact ⟨[], l, by rw [e]; rfl, by simp⟩
    · have h' : c ∈ l := by
        simp only [List.mem_cons] at h
        rcases h with h | h
        · exact absurd h.symm e
        · exact h
      obtain ⟨x, r, h1, h2⟩ := ih h'
      exact ⟨b :: x, r, by rw [h1]; rfl, by simp only [List.mem_cons, not_or]; exact ⟨fun h => e h.symm, h2⟩⟩
theorem jn_spl (c : UInt8) (l : List UInt8) : jn c (spl c l) = l := by
  induction l with
  | nil => rfl
  | cons b l ih =>
    unfold spl
    split
    · rename_i e
      cases h : spl c l with
      | nil => exact absurd h (spl_ne c l)
      | cons y r => rw [h] at ih; rw [jn, ih, e]; rfl
    · split
      · rename_i h
        exact absurd h (spl_ne c l)
      · rename_i x r h
        rw [h] at ih
        cases r with
        | nil => rw [jn] at ih ⊢; rw [ih]
        | cons y r => rw [jn] at ih ⊢; rw [← ih]; rfl
theorem spl_jn {c : UInt8} {L : List (List UInt8)} (h0 : L ≠ []) (h : ∀ x ∈ L, c ∉ x) : spl c (jn c L) = L := by
  induction L with
  | nil => exact absurd rfl h0
  | cons x L ih =>
    cases L with
    | nil => exact spl_none (h x (by simp))
    | cons y r =>
      rw [jn, spl_cons _ (h x (by simp)), ih (by simp) (fun z hz => h z (by simp [hz]))]
theorem spl_mem {c : UInt8} (l : List UInt8) : ∀ x ∈ spl c l, c ∉ x := by
  induction l with
  | nil => intro x hx; simp [spl] at hx; subst hx; simp
  | cons b l ih =>
    intro x hx
    unfold spl at hx
    split at hx
    · simp only [List.mem_cons] at hx
      rcases hx with rfl | hx
      · simp
      · exact ih x hx
    · rename_i hb
      split at hx
      · simp at hx; subst hx; simp; exact fun e => hb e.symm
      · rename_i y r h
        simp only [List.mem_cons] at hx
        rcases hx with rfl | hx
        · have := ih y (by rw [h]; simp)
          simp only [List.mem_cons, not_or]
          exact ⟨fun e => hb e.symm, this⟩
        · exact ih x (by rw [h]; simp [hx])
theorem spl_len (c : UInt8) (l : List UInt8) : (spl c l).length = l.count c + 1 := by
  induction l with
  | nil => rfl
  | cons b l ih =>
    unfold spl
    split
    · rename_i e
      subst e
      simp [ih]
    · rename_i e
      rw [List.count_cons_of_ne (by simpa using e)]
      split
      · rename_i h; exact absurd h (spl_ne c l)
      · rename_i y r h
        rw [h] at ih
        simpa using ih
theorem spl_size {c : UInt8} (l : List UInt8) : ∀ x ∈ spl c l, x.length ≤ l.length := by
  induction l with
  | nil => intro x hx; simp [spl] at hx; subst hx; simp
  | cons b l ih =>
    intro x hx
    unfold spl at hx
    split at hx
    · simp only [List.mem_cons] at hx
      rcases hx with rfl | hx
      · simp
      · have := ih x hx; simp; omega
    · split at hx
      · simp at hx; subst hx; simp
      · rename_i y r h
        simp only [List.mem_cons] at hx
        rcases hx with rfl | hx
        · have := ih y (by rw [h]; simp); simp; omega
        · have := ih x (by rw [h]; simp [hx]); simp; omega

theorem index_skip {c : UInt8} (x r : List UInt8) (h : c ∉ x) : Lib.indexByte (x ++ c :: r) c = x.length := by
  induction x with
  | nil => simp [Lib.indexByte]
  | cons b l ih =>
    simp only [List.mem_cons, not_or] at h
    have hb : (b == c) = false := by rw [beq_eq_false_iff_ne]; exact fun e => h.1 e.symm
    have := ih h.2
    simp only [List.cons_append, Lib.indexByte, hb, this]
    simp
/-- The library's own cut, at every instance. -/
theorem splitK_spl (c : UInt8) : ∀ (k : Nat) (l : List UInt8), l.count c = k → Lib.splitK [c] 0 k l = spl c l := by
  intro k
  induction k with
  | zero =>
    intro l h
    rw [List.count_eq_zero] at h
    rw [spl_none h]; rfl
  | succ k ih =>
    intro l h
    have hm : c ∈ l := by
      rw [← List.count_pos_iff]; omega
    obtain ⟨x, r, rfl, hx⟩ := cut hm
    rw [spl_cons r hx]
    have hc : r.count c = k := by
      rw [List.count_append, List.count_cons_self, List.count_eq_zero.2 hx] at h
      omega
    have hi := index_skip x r hx
    rw [Lib.splitK, if_neg (by rw [Lib.index_one, hi]; simp), Lib.index_one, hi]
    rw [show ((x.length : Int)).toNat + 0 = x.length by omega, show ((x.length : Int)).toNat + [c].length = x.length + 1 by simp, List.take_left' rfl]
    rw [show (x ++ c :: r).drop (x.length + 1) = r by rw [show x ++ c :: r = (x ++ [c]) ++ r by simp, List.drop_left' (by simp)], ih r hc]
theorem splitB_spl (c : UInt8) (s : ByteArray) : Lib.splitB ⟨#[c]⟩ 0 (Lib.countB s ⟨#[c]⟩) s = (spl c s.data.toList).map (fun x => (⟨x.toArray⟩ : ByteArray)) := by
  have h := Lib.splitB_data ⟨#[c]⟩ 0 (Lib.countB s ⟨#[c]⟩) s
  have hc : Lib.countB s ⟨#[c]⟩ = s.data.toList.count c := by
    show Lib.count s.data.toList [c] = _
    exact Lib.count_one c _
  rw [hc] at h ⊢
  rw [show (⟨#[c]⟩ : ByteArray).data.toList = [c] from rfl, splitK_spl c _ _ rfl] at h
  rw [← h, List.map_map]
  have : ((fun x : List UInt8 => (⟨x.toArray⟩ : ByteArray)) ∘ fun x : ByteArray => x.data.toList) = id := by
    funext x
    rfl
  rw [this, List.map_id]
end Go.Proofs.YtefbedineniejaaDoor.Sp
