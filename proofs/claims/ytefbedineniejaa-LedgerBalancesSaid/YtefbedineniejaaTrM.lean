/- Balances, in plain Lean; a map's keys, sorted: slices.Sorted(maps.Keys(m)) at a map of the call's own. -/
import Derived.Test.YtefbedineniejaaMp
import Derived.Test.YtefbedineniejaaLgM
import Derived.Test.YtefbedineniejaaIter
import Derived.WalkKit
namespace Go.Proofs.Ytefbedineniejaa
open Go.RowKit
open Go.Maps (Keyed has size Tidy IsMap)
open Go.Proofs (encStr)

namespace Tr
/-- A text as a map's key. -/
def ky (s : ByteArray) : Lit := .string s.data.toList
noncomputable def step (g : Lit → Int) (p : Lg.P) : Lit → Int :=
  updI (updI g (ky p.d) (wrap64 (g (ky p.d) + p.n))) (ky p.c) (wrap64 (updI g (ky p.d) (wrap64 (g (ky p.d) + p.n)) (ky p.c) - p.n))
noncomputable def keyS (ks : List Lit) (p : Lg.P) : List Lit := addK (addK ks (ky p.d)) (ky p.c)
noncomputable def sum (L : List Lg.P) : Lit → Int := L.foldl step (fun _ => 0)
noncomputable def keys (L : List Lg.P) : List Lit := L.foldl keyS []
theorem sum_snoc (L : List Lg.P) (p : Lg.P) : sum (L ++ [p]) = step (sum L) p := by simp [sum, List.foldl_append]
theorem keys_snoc (L : List Lg.P) (p : Lg.P) : keys (L ++ [p]) = keyS (keys L) p := by simp [keys, List.foldl_append]
theorem keys_len (L : List Lg.P) : (keys L).length ≤ 2 * L.length := by
  suffices h : ∀ (L : List Lg.P) (ks : List Lit), (L.foldl keyS ks).length ≤ ks.length + 2 * L.length by simpa [keys] using h L []
  intro L
  induction L with
  | nil => intro ks; simp
  | cons p L ih =>
    intro ks
    have h1 := ih (keyS ks p)
    have h2 := addK_len ks (ky p.d)
    have h3 := addK_len (addK ks (ky p.d)) (ky p.c)
    simp only [List.foldl_cons, List.length_cons]
    unfold keyS at h1 ⊢
    omega
end Tr

section
variable {P : Program} {k : TypeId} {z : Value} {w : World} {b : Nat} {ks : List Lit} {f : Lit → Value}
theorem MV.strs (h : MV P k z w b ks f) (K : Keyed P k) (hk : P.underlying k = some .string) :
    ∃ D : DataW Value, w.ownsMap P k tokR b ks.length D ∧ size D = ks.length ∧ (ks.map strOf).Perm (strKeys D) ∧ ∀ x ∈ ks, ∃ s : List UInt8, x = .string s ∧ s.length ≤ maxLen := by
  obtain ⟨D, ho, hat, hh, hs⟩ := h.ex
  obtain ⟨es, rfl, hkeys⟩ := ho.keysOf
  obtain ⟨es', e1, hp, -⟩ := ho.entries K
  cases e1
  have hstr : ∀ p ∈ es, ∃ s : List UInt8, p.1 = .string s ∧ s.length ≤ maxLen := fun p hp' => by
    obtain ⟨v, hv⟩ := hkeys p hp'
    obtain ⟨x, -, e2, e3⟩ := Maps.keyOf_str hk hv
    exact ⟨x, e2, e3⟩
  have hall : ∀ x ∈ ks, ∃ s : List UInt8, x = .string s ∧ s.length ≤ maxLen := fun x hx => by
    have h1 : has (.map es : DataW Value) x = true := by rw [hh]; simpa using hx
    rw [Maps.has_eq, List.any_eq_true] at h1
    obtain ⟨p, hp', hs'⟩ := h1
    obtain ⟨s, e2, e3⟩ := hstr p hp'
    exact ⟨s, by rw [← WideAt.sameKey_eq hs', e2], e3⟩
  refine ⟨.map es, ho, hs, perm_strKeys hp (fun p hp' => by obtain ⟨s, e, _⟩ := hstr p hp'; exact ⟨s, e⟩) ?_ ?_, hall⟩
  · refine (List.pairwise_map).2 (h.nd.imp_of_mem fun {x y} hx hy hne e => hne ?_)
    obtain ⟨s, rfl, _⟩ := hall x hx
    obtain ⟨t, rfl, _⟩ := hall y hy
    exact congrArg Lit.string e
  · intro s
    rw [hh, decide_eq_true_eq, List.mem_map]
    constructor
    · rintro ⟨x, hx, rfl⟩
      obtain ⟨t, rfl, _⟩ := hall x hx
      exact hx
    · intro hs'; exact ⟨_, hs', rfl⟩
end
/-- A map's keys as texts, in Go's order. -/
noncomputable def srt (ks : List Lit) : List (List UInt8) := (ks.map strOf).mergeSort fun x y => decide (x ≤ y)
theorem srt_len (ks : List Lit) : (srt ks).length = ks.length := by simp [srt]
theorem srt_perm (ks : List Lit) : (srt ks).Perm (ks.map strOf) := List.mergeSort_perm _ _

theorem mapsKeys_any (b : Nat) (w : World) :
    Calls Try.prog 17 #[.map (some b)] w fun e w' => e = .returned (.func (.func 25) #[] #[.pointer (some ⟨w.heap.size, 0, none⟩)]) ∧ w' = w.alloc (.cells #[.map (some b)] 27) :=
  callsIn_wide.1 (Try.maps_Keys_17 (some b) w)
theorem sortedKeys_any (b : Nat) (w : World) (z : Value) (ks : List Lit) (f : Lit → Value) (h : MV Try.prog 9 z w b ks f) (hl : ks.length ≤ 1000000) :
    Calls Try.prog 16 #[.func (.func 25) #[] #[.pointer (some ⟨w.heap.size, 0, none⟩)]] (w.alloc (.cells #[.map (some b)] 27)) fun e w' =>
      ∃ v, e = .returned v ∧ w'.ownsRow (w.heap.size + 1) 9 1 v (srt ks).length ((srt ks).map encStr) ∧ Below (w.heap.size + 1) (w.alloc (.cells #[.map (some b)] 27)) w' := by
  obtain ⟨D, ho, hs, hp, -⟩ := h.strs (Maps.string_keyed Try.underlying9) Try.underlying9
  refine (callsIn_wide.1 (Try.slices_Sorted_keys_16_17 b ks.length D tokR w ho (by rw [hs]; unfold maxLen; omega) (by rw [hs]; omega))).mono ?_
  rintro e w' ⟨v, ss, rfl, hS, hrow, -, hb⟩
  rw [World.size_alloc] at hrow hb
  have e1 : ss.mergeSort (fun x y => decide (x ≤ y)) = srt ks := mergeSort_of_perm (hS.trans hp.symm)
  rw [e1] at hrow
  have e2 : ss.length = (srt ks).length := by rw [srt_len, (hS.trans hp.symm).length_eq, List.length_map]
  rw [e2] at hrow
  exact ⟨v, rfl, hrow, hb⟩
end Go.Proofs.Ytefbedineniejaa
