/- The past, one more turn of it. -/
import Derived.Test.YtpbbbiifeihkaaaDoorBkR
namespace Go.Proofs.YtpbbbiifeihkaaaDoor
open Go.RowKit
set_option linter.unusedVariables false

theorem past_snoc {w5 w6 : World} {base m n : Nat} {vp v6 s5 : Value} {vs : List Value} {ps : List (List Evt)} {q : List Evt} {o : Obj} {B5 : Nat} (hvs : vs.length = m) (hm : m = ps.length) (hov : w5.ownsRow base 37 1 vp m vs) (hin : ∀ k (hk : k < ps.length) (hk2 : k < vs.length), w5.ownsRow base 34 7 vs[k] ps[k].length (flE ps[k])) (h5 : w5.ownsRow B5 34 7 s5 n (flE q)) (hn : n = q.length) (hB5 : base ≤ B5) (ho6 : w6.ownsRow base 37 1 v6 (m + 1) (vs ++ [s5])) (hg6 : (w5.alloc o).grownBy w6 vp.ownBlock) : PastW w6 base v6 (ps ++ [q]) := by
  have keep : ∀ (bs : Nat) (v : Value) (r : List Evt) (n : Nat), w5.ownsRow bs 34 7 v n (flE r) → w6.ownsRow bs 34 7 v n (flE r) := by
    intro bs v r n h
    refine (own_below h ((Below.refl _ w5).new o)).kept hg6 ?_
    rcases h.2 with ⟨rfl, h0⟩ | ⟨g, cap, cur, rfl, hgb, hc, -⟩
    · exact .inl rfl
    · refine .inr (fun e => ?_)
      rcases hov.2 with ⟨rfl, h0⟩ | ⟨g', cap', cur', rfl, hgb', hc', -⟩
      · simp [Value.ownBlock] at e
      · have : g = g' := by simpa [Value.ownBlock] using e
        subst this
        rw [hc] at hc'
        injection hc' with e1
        injection e1 with _ e1
        exact absurd e1 (by decide)
  refine ⟨vs ++ [s5], by simp [hvs, hm], by rw [List.length_append, ← hm]; exact ho6, fun k hk hk2 => ?_⟩
  by_cases e : k < ps.length
  · have e2 : k < vs.length := by omega
    rw [List.getElem_append_left e2, List.getElem_append_left e]
    exact keep _ _ _ _ (hin k e e2)
  · have e3 : k = ps.length := by simp at hk; omega
    subst e3
    rw [List.getElem_append_right (by omega), List.getElem_append_right (by omega)]
    simp only [hvs, hm, Nat.sub_self, List.getElem_singleton]
    have h6 := keep _ _ _ _ h5
    rw [hn] at h6
    refine ⟨h6.1, ?_⟩
    rcases h6.2 with h0 | ⟨g, cap, cur, e1, h2, h3⟩
    · exact .inl h0
    · exact .inr ⟨g, cap, cur, e1, by omega, h3⟩
end Go.Proofs.YtpbbbiifeihkaaaDoor
