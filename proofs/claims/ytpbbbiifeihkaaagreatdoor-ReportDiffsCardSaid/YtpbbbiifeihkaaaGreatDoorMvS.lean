/- A map's keys as texts. -/
import Derived.Test.YtpbbbiifeihkaaaGreatDoorMp
import Derived.Test.YtpbbbiifeihkaaaGreatDoorIter
import Derived.WalkKit
namespace Go.Proofs.YtpbbbiifeihkaaaGreatDoor
open Go.RowKit
open Go.Maps (Keyed has size Tidy IsMap)
open Go.Proofs (encStr)
set_option linter.unusedVariables false

section
variable {P : Program} {k : TypeId} {z : Value} {w : World} {b : Nat} {ks : List Lit} {f : Lit → Value}
theorem MV.strs (h : MV P k z w b ks f) (K : Keyed P k) (hk : P.underlying k = some .string) :
    ∃ D : DataW Value, w.ownsMap P k tokR b ks.length D ∧ size D = ks.length ∧ (ks.map strOf).Perm (strKeys D) ∧ ∀ x ∈ ks, ∃ s : List UInt8, x = .string s ∧ s.length ≤ maxLen := by
  obtain ⟨D, ho, hat, hh, hs⟩ := h.ex
  obtain ⟨es, rfl, hkeys⟩ := ho.keysOf
  obtain ⟨es', e1, hp, -⟩ := ho.entries K
  cases e1
  have hstr : ∀ p ∈ es, ∃ s : List UInt8, p.1 = .string s ∧ s.length ≤ maxLen := fun p hp' => by
    obtain ⟨v, hv⟩ := hkeys p hp'
    obtain ⟨x, -, e2, e3⟩ := Maps.keyOf_str hk hv
    exact ⟨x, e2, e3⟩
  have hall : ∀ x ∈ ks, ∃ s : List UInt8, x = .string s ∧ s.length ≤ maxLen := fun x hx => by
    have h1 : has (.map es : DataW Value) x = true := by rw [hh]; simpa using hx
    rw [Maps.has_eq, List.any_eq_true] at h1
    obtain ⟨p, hp', hs'⟩ := h1
    obtain ⟨s, e2, e3⟩ := hstr p hp'
    exact ⟨s, by rw [← WideAt.sameKey_eq hs', e2], e3⟩
  refine ⟨.map es, ho, hs, perm_strKeys hp (fun p hp' => by obtain ⟨s, e, _⟩ := hstr p hp'; exact ⟨s, e⟩) ?_ ?_, hall⟩
  · refine (List.pairwise_map).2 (h.nd.imp_of_mem fun {x y} hx hy hne e => hne ?_)
    obtain ⟨s, rfl, _⟩ := hall x hx
    obtain ⟨t, rfl, _⟩ := hall y hy
    exact congrArg Lit.string e
  · intro s
    rw [hh, decide_eq_true_eq, List.mem_map]
    constructor
    · rintro ⟨x, hx, rfl⟩
      obtain ⟨t, rfl, _⟩ := hall x hx
      exact hx
    · intro hs'; exact ⟨_, hs', rfl⟩
end
/-- A map's keys as texts, in Go's order. -/
noncomputable def srt (ks : List Lit) : List (List UInt8) := (ks.map strOf).mergeSort fun x y => decide (x ≤ y)
theorem srt_len (ks : List Lit) : (srt ks).length = ks.length := by simp [srt]
theorem srt_perm (ks : List Lit) : (srt ks).Perm (ks.map strOf) := List.mergeSort_perm _ _

end Go.Proofs.YtpbbbiifeihkaaaGreatDoor
