/- Rows of a call's own, events' boxes: small laws that many walks use. -/
import Derived.Test.YtackpcohmmlkeaaGreatDoorCsRp
import Derived.Test.YtackpcohmmlkeaaGreatDoorRowM
namespace Go.Proofs.YtackpcohmmlkeaaGreatDoor
open Go.RowKit
set_option linter.unusedVariables false

variable {w : World} {B : Nat}
theorem own_atK {e size n : Nat} {v : Value} {xs : List Value} {g : Nat} (h : w.ownsRow B e size v n xs) (hg : v.ownBlock = some g) : B ≤ g ∧ g < w.heap.size ∧ ∃ cur, w.heap[g]? = some (.cells cur e (0, 0)) := by
  rcases h.2 with ⟨rfl, -⟩ | ⟨g', cap, cur, rfl, hb, hc, -⟩
  · cases hg
  · have : g' = g := by simpa [Value.ownBlock] using hg
    subst this
    exact ⟨hb, (Array.getElem?_eq_some_iff.1 hc).1, cur, hc⟩
theorem own_gbxK {w w' : World} {base e size n X : Nat} {v : Value} {xs : List Value} (h : w.ownsRow base e size v n xs) (hg : w.grownBy w' (some X)) (hX : v.ownBlock ≠ some X) : w'.ownsRow base e size v n xs := h.kept hg (.inr hX)
theorem own_nxK {w : World} {base e size n X : Nat} {v : Value} {xs : List Value} {cur : Array Value} {t : TypeId} {fz : Nat × Nat} (h : w.ownsRow base e size v n xs) (hX : w.heap[X]? = some (.cells cur t fz)) (ht : t ≠ e) : v.ownBlock ≠ some X := by
  intro hv
  obtain ⟨-, -, cu, hc⟩ := own_atK h hv
  rw [hc] at hX
  injection hX with hX
  injection hX with _ hX
  exact ht hX.symm
theorem ev_cellsK {W : World} {b : Nat} {i k q p o d : Int} {s : ByteArray} (h : W.heap[b]? = some (.cells #[.int .i64 i, .string s, .int .i64 k, .int .i64 q, .int .i64 p, .int .i64 o, .int .i64 d] 49 (0, 0))) :
    W.cell? ⟨b, 0, none⟩ = some (.int .i64 i) ∧ W.cell? ⟨b, 1, none⟩ = some (.string s) ∧ W.cell? ⟨b, 2, none⟩ = some (.int .i64 k) ∧ W.cell? ⟨b, 3, none⟩ = some (.int .i64 q) ∧ W.cell? ⟨b, 4, none⟩ = some (.int .i64 p) ∧ W.cell? ⟨b, 5, none⟩ = some (.int .i64 o) ∧ W.cell? ⟨b, 6, none⟩ = some (.int .i64 d) := by
  refine ⟨?_, ?_, ?_, ?_, ?_, ?_, ?_⟩ <;> simp [World.cell?, h]
theorem ins_lengthK {α : Type} (le : α → α → Bool) (x : α) (l : List α) : (Stb.ins le x l).length = l.length + 1 := by
  induction l with
  | nil => rfl
  | cons y l ih => rw [Stb.ins]; split <;> simp [ih]
theorem isort_lengthK {α : Type} (le : α → α → Bool) (l : List α) : (Stb.isort le l).length = l.length := by
  induction l with
  | nil => rfl
  | cons x l ih => rw [Stb.isort, ins_lengthK, ih]; rfl
theorem own_base_cK {w : World} {b b' e size n : Nat} {v : Value} {xs : List Value} (h : w.ownsRow b e size v n xs) (hb : b' ≤ b) : w.ownsRow b' e size v n xs := by
  refine ⟨h.1, ?_⟩
  rcases h.2 with h | ⟨g, cap, cur, hv, hB, r⟩
  · exact Or.inl h
  · exact Or.inr ⟨g, cap, cur, hv, by omega, r⟩
end Go.Proofs.YtackpcohmmlkeaaGreatDoor
