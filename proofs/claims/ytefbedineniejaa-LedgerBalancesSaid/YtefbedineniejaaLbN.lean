/- Balances together are nothing: plain laws. -/
import Derived.Test.YtefbedineniejaaLbW
namespace Go.Proofs.Ytefbedineniejaa
open Go.RowKit
set_option linter.unusedVariables false
def psum : List (List UInt8 × Int) → Int
  | [] => 0
  | p :: B => p.2 + psum B
theorem psum_app (A B : List (List UInt8 × Int)) : psum (A ++ B) = psum A + psum B := by
  induction A with
  | nil => simp [psum]
  | cons p A ih => simp only [List.cons_append, psum, ih]; omega
theorem psum_le (B : List (List UInt8 × Int)) (h : ∀ p ∈ B, -1000000000000000 ≤ p.2 ∧ p.2 ≤ 1000000000000000) : psum B ≤ 1000000000000000 * B.length ∧ -(1000000000000000 * B.length) ≤ psum B := by
  induction B with
  | nil => simp [psum]
  | cons p B ih =>
    have h1 := ih (fun q hq => h q (by simp [hq]))
    have h2 := h p (by simp)
    simp only [psum, List.length_cons]
    omega
theorem wsum_psum (B : List (List UInt8 × Int)) (h : ∀ p ∈ B, -1000000000000000 ≤ p.2 ∧ p.2 ≤ 1000000000000000) (hl : B.length ≤ 1000) : wsum B = psum B := by
  suffices hh : ∀ (n : Nat) (B : List (List UInt8 × Int)), B.length = n → n ≤ 1000 → (∀ p ∈ B, -1000000000000000 ≤ p.2 ∧ p.2 ≤ 1000000000000000) → wsum B = psum B from hh _ B rfl hl h
  intro n
  induction n with
  | zero => intro B hl _ _; obtain rfl := List.length_eq_zero_iff.1 hl; rfl
  | succ n ih =>
    intro B hl hn h
    obtain ⟨A, p, rfl⟩ : ∃ A p, B = A ++ [p] := ⟨B.dropLast, B.getLast (by intro e; subst e; simp at hl), (List.dropLast_concat_getLast _).symm⟩
    have hA : A.length = n := by simpa using hl
    have h1 := ih A hA (by omega) (fun q hq => h q (by simp [hq]))
    have h2 := psum_le A (fun q hq => h q (by simp [hq]))
    have h3 := h p (by simp)
    rw [wsum_snoc, h1, psum_app]
    have e : psum [p] = p.2 := by simp [psum]
    rw [e]
    exact Tr.wrap_in _ (by omega) (by omega)
theorem psum_map (g : Lit → Int) (l : List (List UInt8)) : psum (l.map fun k => (k, g (.string k))) = Tr.tot g (l.map Lit.string) := by
  induction l with
  | nil => rfl
  | cons x l ih => simp only [List.map_cons, psum, Tr.tot, ih]
theorem tot_perm (g : Lit → Int) {a b : List Lit} (h : a.Perm b) : Tr.tot g a = Tr.tot g b := by
  induction h with
  | nil => rfl
  | cons x _ ih => simp only [Tr.tot, ih]
  | swap x y l => simp only [Tr.tot]; omega
  | trans _ _ ih1 ih2 => exact ih1.trans ih2
theorem tot_congr {g h : Lit → Int} (ks : List Lit) (e : ∀ x, g x = h x) : Tr.tot g ks = Tr.tot h ks := by
  have : g = h := funext e
  rw [this]
/-- Balances together are nothing. -/
theorem bal_zero (L : List Lg.P) (hd : ∀ p ∈ L, ¬ p.d = p.c) (hm : Tr.mag L ≤ 1000000000000000) (hl : L.length ≤ 100) : wsum (Tr.bal L) = 0 := by
  have hs := Tr.sum_pure L hd (by omega)
  have hkl := Tr.keys_len L
  rw [wsum_psum]
  · unfold Tr.bal
    rw [psum_map]
    have hp : ((srt (Tr.keys L)).map Lit.string).Perm (Tr.keys L) := by
      have h1 := (srt_perm (Tr.keys L)).map Lit.string
      rw [List.map_map] at h1
      have h2 : (Tr.keys L).map (Lit.string ∘ strOf) = Tr.keys L := by
        have := List.map_congr_left (f := Lit.string ∘ strOf) (g := id) (l := Tr.keys L) (fun x hx => Tr.keys_str L x hx)
        rw [this, List.map_id]
      rw [h2] at h1
      exact h1
    rw [tot_perm _ hp, tot_congr _ hs]
    exact Tr.tot_pure L _ (Tr.keys_nodup L) (fun p hp => ⟨(Tr.keys_mem L _).2 ⟨p, hp, Or.inl rfl⟩, (Tr.keys_mem L _).2 ⟨p, hp, Or.inr rfl⟩⟩)
  · intro p hp
    obtain ⟨s, -, rfl⟩ := List.mem_map.1 hp
    show _ ≤ Tr.sum L (.string s) ∧ Tr.sum L (.string s) ≤ _
    rw [hs]
    have := Tr.pure_le L (.string s) hd
    omega
  · unfold Tr.bal; rw [List.length_map, srt_len]; omega
theorem acc_small (L : List Lg.P) (i o l g t : Int) : ∀ p ∈ Lg.figs i o l g t, (p.d.size ≤ 10 ∧ p.c.size ≤ 10) ∧ (p.d ≠ ⟨#[119, 114, 111, 110, 103]⟩ ∧ p.c ≠ ⟨#[119, 114, 111, 110, 103]⟩) := by
  have one : ∀ (d c : ByteArray) (n : Int), (d.size ≤ 10 ∧ c.size ≤ 10) ∧ (d ≠ ⟨#[119, 114, 111, 110, 103]⟩ ∧ c ≠ ⟨#[119, 114, 111, 110, 103]⟩) → ∀ p ∈ Lg.one d c n, (p.d.size ≤ 10 ∧ p.c.size ≤ 10) ∧ (p.d ≠ ⟨#[119, 114, 111, 110, 103]⟩ ∧ p.c ≠ ⟨#[119, 114, 111, 110, 103]⟩) := by
    intro d c n h p hp
    unfold Lg.one at hp
    split at hp
    · simp at hp; subst hp; exact h
    · split at hp
      · simp at hp; subst hp; exact ⟨⟨h.1.2, h.1.1⟩, ⟨h.2.2, h.2.1⟩⟩
      · simp at hp
  intro p hp
  simp only [Lg.figs, List.mem_append] at hp
  rcases hp with (((hp | hp) | hp) | hp) | hp
  · exact one _ _ _ (by decide) p hp
  · exact one _ _ _ (by decide) p hp
  · exact one _ _ _ (by decide) p hp
  · exact one _ _ _ (by decide) p hp
  · exact one _ _ _ (by decide) p hp
def wrongK : Lit := .string [119, 114, 111, 110, 103]
theorem wrong_zero (L : List Lg.P) (h : ∀ p ∈ L, p.d ≠ ⟨#[119, 114, 111, 110, 103]⟩ ∧ p.c ≠ ⟨#[119, 114, 111, 110, 103]⟩) : Tr.sum L wrongK = 0 := by
  refine Tr.sum_out L _ fun hk => ?_
  obtain ⟨p, hp, e | e⟩ := (Tr.keys_mem L _).1 hk
  · exact (h p hp).1 (ByteArray.ext (Array.ext' (by injection e with e; exact e.symm)))
  · exact (h p hp).2 (ByteArray.ext (Array.ext' (by injection e with e; exact e.symm)))
end Go.Proofs.Ytefbedineniejaa
