/- CostEmpties's three runs: what a run's result is; the invariant of the region that draws its order. -/
import Derived.Test.YtefbedineniejaaDoorJoined9
import Derived.Test.YtefbedineniejaaDoorRgI
namespace Go.Proofs.YtefbedineniejaaDoor
open Go.RowKit
open Go.Maps (Keyed)
set_option linter.unusedVariables false

/-- What a run hands back, wherever it lies. -/
def ResP (w : World) (B : Nat) (va : Value) (bl : Nat) (es : List Evt) : Prop :=
  w.ownsRow B 54 5 va (runP stk0 (Stb.isort leE es)).1.length (flN (runP stk0 (Stb.isort leE es)).1) ∧ Kept w bl (runP stk0 (Stb.isort leE es)).2.lay
def Res (w : World) (B : Nat) (v : Value) (es : List Evt) : Prop := ∃ va bl, v = .agg #[va, .map (some bl)] ∧ ResP w B va bl es
theorem own_ty {w w' : World} {base e size n X : Nat} {v : Value} {xs : List Value} {cur : Array Value} {t : TypeId} {fz : Nat × Nat} (h : w.ownsRow base e size v n xs) (hg : w.grownBy w' (some X)) (hX : w.heap[X]? = some (.cells cur t fz)) (ht : t ≠ e) : w'.ownsRow base e size v n xs := by
  refine h.kept hg ?_
  rcases h.2 with ⟨rfl, h0⟩ | ⟨g, cap, cu, rfl, hb, hc, -⟩
  · exact .inl rfl
  · refine .inr (fun e => ?_)
    have : g = X := by simpa [Value.ownBlock] using e
    subst this
    rw [hc] at hX
    injection hX with hX
    injection hX with _ hX
    exact ht hX.symm
theorem ResP.below {w w' : World} {B : Nat} {va : Value} {bl : Nat} {es : List Evt} (h : ResP w B va bl es) (hb : Below w.heap.size w w') : ResP w' B va bl es := ⟨own_below h.1 hb, h.2.below hb⟩
theorem ResP.gb {w w' : World} {B X : Nat} {va : Value} {bl : Nat} {es : List Evt} {cur : Array Value} {t : TypeId} {fz : Nat × Nat} (h : ResP w B va bl es) (hg : w.grownBy w' (some X)) (hX : w.heap[X]? = some (.cells cur t fz)) (h1 : t ≠ 54) (h2 : t ≠ 58) : ResP w' B va bl es := ⟨own_ty h.1 hg hX h1, h.2.turn hg hX h2⟩
theorem Res.below {w w' : World} {B : Nat} {v : Value} {es : List Evt} (h : Res w B v es) (hb : Below w.heap.size w w') : Res w' B v es := by
  obtain ⟨va, bl, e, h⟩ := h
  exact ⟨va, bl, e, h.below hb⟩
theorem Res.gb {w w' : World} {B X : Nat} {v : Value} {es : List Evt} {cur : Array Value} {t : TypeId} {fz : Nat × Nat} (h : Res w B v es) (hg : w.grownBy w' (some X)) (hX : w.heap[X]? = some (.cells cur t fz)) (h1 : t ≠ 54) (h2 : t ≠ 58) : Res w' B v es := by
  obtain ⟨va, bl, e, h⟩ := h
  exact ⟨va, bl, e, h.gb hg hX h1 h2⟩
theorem upL_ne {L : Nat → Bool} {i j : Nat} (h : j ≠ i) : upL L i j = L j := if_neg h
theorem upL_same {L : Nat → Bool} {i : Nat} : upL L i i = true := if_pos rfl
theorem upT_ne {x : Nat → Value} {d t : Nat} {v : Value} (h : t ≠ d) : upT x d v t = x t := if_neg h
theorem upT_same {x : Nat → Value} {d : Nat} {v : Value} : upT x d v d = v := if_pos rfl
/-- Between two operations: p calls of the chain are done; live: the block of the clone that is to be grown. -/
structure I19 (W0 : World) (es : List Evt) (vl : Value) (E : Nat → Evt) (L : Nat → Bool) (x : Nat → Value) (w : World) (p : Nat) (live : Option Nat) : Prop where
  bel : Below W0.heap.size W0 w
  pb : p ≤ 9
  fl1 : ∀ k, k < 3 → L (6 * k + 1) = decide (3 * k + 1 ≤ p)
  fl4 : ∀ k, k < 3 → L (6 * k + 4) = decide (3 * k + 2 ≤ p)
  fl5 : ∀ k, k < 3 → L (6 * k + 5) = decide (3 * k + 3 ≤ p)
  mv : ∀ k, k < 3 → L (6 * k) = true → x (77 + 6 * k) = vl
  ld : ∀ k, k < 3 → L (6 * k + 2) = true → x (79 + 6 * k) = (E k).agg
  bd : ∀ k, k < 3 → L (6 * k + 3) = true → p < 3 * k + 2 → ∃ b, W0.heap.size ≤ b ∧ x (80 + 6 * k) = .slice (some ⟨b, 0, none⟩) 1 1 ∧ w.heap[b]? = some (.cells (E k).cells.toArray 50 (0, 0)) ∧ live ≠ some b
  cl : ∀ k, k < 3 → p = 3 * k + 1 → ∃ base, W0.heap.size ≤ base ∧ base ≤ w.heap.size ∧ w.ownsRow base 50 7 (x (78 + 6 * k)) es.length (flE es) ∧ live = (x (78 + 6 * k)).ownBlock
  lv : p % 3 ≠ 1 → live = none
  ap : ∀ k, k < 3 → p = 3 * k + 2 → RdE w.heap.size w (x (81 + 6 * k)) (es ++ [E k])
  rn : ∀ k, k < 3 → 3 * k + 3 ≤ p → Res w W0.heap.size (x (82 + 6 * k)) (es ++ [E k])
  al : ∀ j, j < 3 → L (18 + j) = true → ∃ b, W0.heap.size ≤ b ∧ x (12 + j) = .pointer (some ⟨b, 0, none⟩) ∧ w.heap[b]? = some (.cells #[.slice none 0 0, .map none] 43 (0, 0))
  ad : ∀ i j, i < j → j < 3 → L (18 + i) = true → L (18 + j) = true → x (12 + i) ≠ x (12 + j)
section
variable {W0 : World} {es : List Evt} {vl : Value} {E : Nat → Evt} {L : Nat → Bool} {x : Nat → Value} {w w' : World} {p : Nat} {live : Option Nat}
theorem blk {o : Obj} {b : Nat} (h : w.heap[b]? = some o) (hb : Below w.heap.size w w') : w'.heap[b]? = some o := (hb.block b (Array.getElem?_eq_some_iff.1 h).1).trans h
theorem I19.mono (h : I19 W0 es vl E L x w p live) (hb : Below w.heap.size w w') : I19 W0 es vl E L x w' p live where
  bel := h.bel.step hb
  pb := h.pb
  fl1 := h.fl1
  fl4 := h.fl4
  fl5 := h.fl5
  mv := h.mv
  ld := h.ld
  bd := fun k hk hL hp => by obtain ⟨b, h1, h2, h3, h4⟩ := h.bd k hk hL hp; exact ⟨b, h1, h2, blk h3 hb, h4⟩
  cl := fun k hk hp => by obtain ⟨base, h1, h2, h3, h4⟩ := h.cl k hk hp; exact ⟨base, h1, by have := hb.size; omega, own_below h3 hb, h4⟩
  lv := h.lv
  ap := fun k hk hp => ((h.ap k hk hp).below hb).mono hb.size
  rn := fun k hk hp => (h.rn k hk hp).below hb
  al := fun j hj hL => by obtain ⟨b, h1, h2, h3⟩ := h.al j hj hL; exact ⟨b, h1, h2, blk h3 hb⟩
  ad := h.ad
theorem I19.put_mv (h : I19 W0 es vl E L x w p live) (k : Nat) (hk : k < 3) : I19 W0 es vl E (upL L (6 * k)) (upT x (77 + 6 * k) vl) w p live where
  bel := h.bel
  pb := h.pb
  fl1 := fun k' hk' => by rw [upL_ne (by omega)]; exact h.fl1 k' hk'
  fl4 := fun k' hk' => by rw [upL_ne (by omega)]; exact h.fl4 k' hk'
  fl5 := fun k' hk' => by rw [upL_ne (by omega)]; exact h.fl5 k' hk'
  mv := fun k' hk' hL => by
    by_cases e : k' = k
    · subst e; exact upT_same
    · rw [upL_ne (by omega)] at hL; rw [upT_ne (by omega)]; exact h.mv k' hk' hL
  ld := fun k' hk' hL => by rw [upL_ne (by omega)] at hL; rw [upT_ne (by omega)]; exact h.ld k' hk' hL
  bd := fun k' hk' hL hp => by rw [upL_ne (by omega)] at hL; rw [upT_ne (by omega)]; exact h.bd k' hk' hL hp
  cl := fun k' hk' hp => by rw [upT_ne (by omega)]; exact h.cl k' hk' hp
  lv := h.lv
  ap := fun k' hk' hp => by rw [upT_ne (by omega)]; exact h.ap k' hk' hp
  rn := fun k' hk' hp => by rw [upT_ne (by omega)]; exact h.rn k' hk' hp
  al := fun k' hk' hL => by rw [upL_ne (by omega)] at hL; rw [upT_ne (by omega)]; exact h.al k' hk' hL
  ad := fun i j hij hj h1 h2 => by rw [upL_ne (by omega)] at h1 h2; rw [upT_ne (by omega), upT_ne (by omega)]; exact h.ad i j hij hj h1 h2
theorem I19.put_ld (h : I19 W0 es vl E L x w p live) (k : Nat) (hk : k < 3) : I19 W0 es vl E (upL L (6 * k + 2)) (upT x (79 + 6 * k) (E k).agg) w p live where
  bel := h.bel
  pb := h.pb
  fl1 := fun k' hk' => by rw [upL_ne (by omega)]; exact h.fl1 k' hk'
  fl4 := fun k' hk' => by rw [upL_ne (by omega)]; exact h.fl4 k' hk'
  fl5 := fun k' hk' => by rw [upL_ne (by omega)]; exact h.fl5 k' hk'
  mv := fun k' hk' hL => by rw [upL_ne (by omega)] at hL; rw [upT_ne (by omega)]; exact h.mv k' hk' hL
  ld := fun k' hk' hL => by
    by_cases e : k' = k
    · subst e; exact upT_same
    · rw [upL_ne (by omega)] at hL; rw [upT_ne (by omega)]; exact h.ld k' hk' hL
  bd := fun k' hk' hL hp => by rw [upL_ne (by omega)] at hL; rw [upT_ne (by omega)]; exact h.bd k' hk' hL hp
  cl := fun k' hk' hp => by rw [upT_ne (by omega)]; exact h.cl k' hk' hp
  lv := h.lv
  ap := fun k' hk' hp => by rw [upT_ne (by omega)]; exact h.ap k' hk' hp
  rn := fun k' hk' hp => by rw [upT_ne (by omega)]; exact h.rn k' hk' hp
  al := fun k' hk' hL => by rw [upL_ne (by omega)] at hL; rw [upT_ne (by omega)]; exact h.al k' hk' hL
  ad := fun i j hij hj h1 h2 => by rw [upL_ne (by omega)] at h1 h2; rw [upT_ne (by omega), upT_ne (by omega)]; exact h.ad i j hij hj h1 h2
theorem I19.put_bd (h : I19 W0 es vl E L x w p live) (k : Nat) (hk : k < 3) (b : Nat) (hb : W0.heap.size ≤ b) (hc : w.heap[b]? = some (.cells (E k).cells.toArray 50 (0, 0))) (hl : live ≠ some b) : I19 W0 es vl E (upL L (6 * k + 3)) (upT x (80 + 6 * k) (.slice (some ⟨b, 0, none⟩) 1 1)) w p live where
  bel := h.bel
  pb := h.pb
  fl1 := fun k' hk' => by rw [upL_ne (by omega)]; exact h.fl1 k' hk'
  fl4 := fun k' hk' => by rw [upL_ne (by omega)]; exact h.fl4 k' hk'
  fl5 := fun k' hk' => by rw [upL_ne (by omega)]; exact h.fl5 k' hk'
  mv := fun k' hk' hL => by rw [upL_ne (by omega)] at hL; rw [upT_ne (by omega)]; exact h.mv k' hk' hL
  ld := fun k' hk' hL => by rw [upL_ne (by omega)] at hL; rw [upT_ne (by omega)]; exact h.ld k' hk' hL
  bd := fun k' hk' hL hp => by
    by_cases e : k' = k
    · subst e; exact ⟨b, hb, upT_same, hc, hl⟩
    · rw [upL_ne (by omega)] at hL; rw [upT_ne (by omega)]; exact h.bd k' hk' hL hp
  cl := fun k' hk' hp => by rw [upT_ne (by omega)]; exact h.cl k' hk' hp
  lv := h.lv
  ap := fun k' hk' hp => by rw [upT_ne (by omega)]; exact h.ap k' hk' hp
  rn := fun k' hk' hp => by rw [upT_ne (by omega)]; exact h.rn k' hk' hp
  al := fun k' hk' hL => by rw [upL_ne (by omega)] at hL; rw [upT_ne (by omega)]; exact h.al k' hk' hL
  ad := fun i j hij hj h1 h2 => by rw [upL_ne (by omega)] at h1 h2; rw [upT_ne (by omega), upT_ne (by omega)]; exact h.ad i j hij hj h1 h2
theorem I19.put_al (h : I19 W0 es vl E L x w p live) (k : Nat) (hk : k < 3) (b : Nat) (hb : W0.heap.size ≤ b) (hc : w.heap[b]? = some (.cells #[.slice none 0 0, .map none] 43 (0, 0))) (hn : ∀ j, j < 3 → j ≠ k → L (18 + j) = true → x (12 + j) ≠ .pointer (some ⟨b, 0, none⟩)) : I19 W0 es vl E (upL L (18 + k)) (upT x (12 + k) (.pointer (some ⟨b, 0, none⟩))) w p live where
  bel := h.bel
  pb := h.pb
  fl1 := fun k' hk' => by rw [upL_ne (by omega)]; exact h.fl1 k' hk'
  fl4 := fun k' hk' => by rw [upL_ne (by omega)]; exact h.fl4 k' hk'
  fl5 := fun k' hk' => by rw [upL_ne (by omega)]; exact h.fl5 k' hk'
  mv := fun k' hk' hL => by rw [upL_ne (by omega)] at hL; rw [upT_ne (by omega)]; exact h.mv k' hk' hL
  ld := fun k' hk' hL => by rw [upL_ne (by omega)] at hL; rw [upT_ne (by omega)]; exact h.ld k' hk' hL
  bd := fun k' hk' hL hp => by rw [upL_ne (by omega)] at hL; rw [upT_ne (by omega)]; exact h.bd k' hk' hL hp
  cl := fun k' hk' hp => by rw [upT_ne (by omega)]; exact h.cl k' hk' hp
  lv := h.lv
  ap := fun k' hk' hp => by rw [upT_ne (by omega)]; exact h.ap k' hk' hp
  rn := fun k' hk' hp => by rw [upT_ne (by omega)]; exact h.rn k' hk' hp
  al := fun k' hk' hL => by
    by_cases e : k' = k
    · subst e; exact ⟨b, hb, upT_same, hc⟩
    · rw [upL_ne (by omega)] at hL; rw [upT_ne (by omega)]; exact h.al k' hk' hL
  ad := fun i j hij hj h1 h2 => by
    by_cases e : j = k
    · subst e
      rw [upL_ne (by omega)] at h1
      rw [upT_ne (by omega), upT_same]
      exact hn i (by omega) (by omega) h1
    · rw [upL_ne (by omega)] at h2
      by_cases e2 : i = k
      · subst e2
        rw [upT_same, upT_ne (by omega)]
        exact fun q => hn j hj e h2 q.symm
      · rw [upL_ne (by omega)] at h1; rw [upT_ne (by omega), upT_ne (by omega)]; exact h.ad i j hij hj h1 h2
theorem I19.put_cl (h : I19 W0 es vl E L x w p live) (k : Nat) (hk : k < 3) (hp : p = 3 * k) (v : Value) (hb : Below w.heap.size w w') (ho : w'.ownsRow w.heap.size 50 7 v es.length (flE es)) : I19 W0 es vl E (upL L (6 * k + 1)) (upT x (78 + 6 * k) v) w' (3 * k + 1) v.ownBlock where
  bel := h.bel.step hb
  pb := by omega
  fl1 := fun k' hk' => by
    by_cases e : k' = k
    · subst e; rw [upL_same]; exact (decide_eq_true (by omega)).symm
    · rw [upL_ne (by omega), h.fl1 k' hk']; exact decide_eq_decide.2 (by omega)
  fl4 := fun k' hk' => by rw [upL_ne (by omega), h.fl4 k' hk']; exact decide_eq_decide.2 (by omega)
  fl5 := fun k' hk' => by rw [upL_ne (by omega), h.fl5 k' hk']; exact decide_eq_decide.2 (by omega)
  mv := fun k' hk' hL => by rw [upL_ne (by omega)] at hL; rw [upT_ne (by omega)]; exact h.mv k' hk' hL
  ld := fun k' hk' hL => by rw [upL_ne (by omega)] at hL; rw [upT_ne (by omega)]; exact h.ld k' hk' hL
  bd := fun k' hk' hL hp' => by
    rw [upL_ne (by omega)] at hL
    rw [upT_ne (by omega)]
    obtain ⟨b, h1, h2, h3, h4⟩ := h.bd k' hk' hL (by omega)
    refine ⟨b, h1, h2, blk h3 hb, fun e => ?_⟩
    have hlt := (Array.getElem?_eq_some_iff.1 h3).1
    rcases ho.2 with ⟨rfl, -⟩ | ⟨g, cap, cu, rfl, hg, -⟩
    · cases e
    · have : g = b := by simpa [Value.ownBlock] using e
      omega
  cl := fun k' hk' hp' => by
    obtain rfl : k' = k := by omega
    rw [upT_same]
    exact ⟨w.heap.size, h.bel.size, hb.size, ho, rfl⟩
  lv := fun hn => absurd (show (3 * k + 1) % 3 = 1 by omega) hn
  ap := fun k' hk' hp' => absurd hp' (by omega)
  rn := fun k' hk' hp' => by rw [upT_ne (by omega)]; exact (h.rn k' hk' (by omega)).below hb
  al := fun k' hk' hL => by
    rw [upL_ne (by omega)] at hL
    rw [upT_ne (by omega)]
    obtain ⟨b, h1, h2, h3⟩ := h.al k' hk' hL
    exact ⟨b, h1, h2, blk h3 hb⟩
  ad := fun i j hij hj h1 h2 => by rw [upL_ne (by omega)] at h1 h2; rw [upT_ne (by omega), upT_ne (by omega)]; exact h.ad i j hij hj h1 h2
theorem gb_blk {o : Obj} {b : Nat} (h : w.heap[b]? = some o) (hg : w.grownBy w' live) (hl : live ≠ some b) : w'.heap[b]? = some o := (hg.block b (Array.getElem?_eq_some_iff.1 h).1 (fun e => hl e.symm)).trans h
theorem gb_below {hi : Nat} (h : w.grownBy w' live) (hl : ∀ g, live = some g → hi ≤ g) (hs : hi ≤ w.heap.size) : Below hi w w' := ⟨h.os, h.tape, h.output, h.size, fun k hk => h.block k (by omega) (fun e => by have := hl k e.symm; omega)⟩
theorem I19.live_ty (h : I19 W0 es vl E L x w p live) (g : Nat) (hl : live = some g) : ∃ cur, w.heap[g]? = some (.cells cur 50 (0, 0)) ∧ W0.heap.size ≤ g := by
  have hp9 := h.pb
  by_cases hp : p % 3 = 1
  · obtain ⟨base, h1, h2, h3, h4⟩ := h.cl (p / 3) (by omega) (by omega)
    rw [hl] at h4
    rcases h3.2 with ⟨e, -⟩ | ⟨g', cap, cu, e, hg, hc, -⟩
    · rw [e] at h4; cases h4
    · rw [e] at h4
      have : g = g' := by simpa [Value.ownBlock] using h4
      subst this
      exact ⟨cu, hc, by omega⟩
  · rw [h.lv hp] at hl; cases hl
theorem I19.put_ap (h : I19 W0 es vl E L x w p live) (k : Nat) (hk : k < 3) (hp : p = 3 * k + 1) (v : Value) (hg : w.grownBy w' live) (ho : RdE w'.heap.size w' v (es ++ [E k])) : I19 W0 es vl E (upL L (6 * k + 4)) (upT x (81 + 6 * k) v) w' (3 * k + 2) none where
  bel := h.bel.trans (gb_below hg (fun g e => (h.live_ty g e).choose_spec.2) h.bel.size)
  pb := by omega
  fl1 := fun k' hk' => by rw [upL_ne (by omega), h.fl1 k' hk']; exact decide_eq_decide.2 (by omega)
  fl4 := fun k' hk' => by
    by_cases e : k' = k
    · subst e; rw [upL_same]; exact (decide_eq_true (by omega)).symm
    · rw [upL_ne (by omega), h.fl4 k' hk']; exact decide_eq_decide.2 (by omega)
  fl5 := fun k' hk' => by rw [upL_ne (by omega), h.fl5 k' hk']; exact decide_eq_decide.2 (by omega)
  mv := fun k' hk' hL => by rw [upL_ne (by omega)] at hL; rw [upT_ne (by omega)]; exact h.mv k' hk' hL
  ld := fun k' hk' hL => by rw [upL_ne (by omega)] at hL; rw [upT_ne (by omega)]; exact h.ld k' hk' hL
  bd := fun k' hk' hL hp' => by
    rw [upL_ne (by omega)] at hL
    rw [upT_ne (by omega)]
    obtain ⟨b, h1, h2, h3, h4⟩ := h.bd k' hk' hL (by omega)
    exact ⟨b, h1, h2, gb_blk h3 hg h4, nofun⟩
  cl := fun k' hk' hp' => absurd hp' (by omega)
  lv := fun _ => rfl
  ap := fun k' hk' hp' => by
    obtain rfl : k' = k := by omega
    rw [upT_same]
    exact ho
  rn := fun k' hk' hp' => by
    rw [upT_ne (by omega)]
    have h1 := h.rn k' hk' (by omega)
    cases hl : live with
    | none => rw [hl] at hg; exact h1.below ⟨hg.os, hg.tape, hg.output, hg.size, fun k hk => hg.block k hk (by simp)⟩
    | some g =>
      obtain ⟨cu, hc, -⟩ := h.live_ty g hl
      rw [hl] at hg
      exact h1.gb hg hc (by decide) (by decide)
  al := fun k' hk' hL => by
    rw [upL_ne (by omega)] at hL
    rw [upT_ne (by omega)]
    obtain ⟨b, h1, h2, h3⟩ := h.al k' hk' hL
    refine ⟨b, h1, h2, gb_blk h3 hg (fun e => ?_)⟩
    obtain ⟨cu, hc, -⟩ := h.live_ty b e
    rw [h3] at hc
    injection hc with hc
    injection hc with _ hc
    exact absurd hc (by decide)
  ad := fun i j hij hj h1 h2 => by rw [upL_ne (by omega)] at h1 h2; rw [upT_ne (by omega), upT_ne (by omega)]; exact h.ad i j hij hj h1 h2
theorem I19.put_rn (h : I19 W0 es vl E L x w p live) (k : Nat) (hk : k < 3) (hp : p = 3 * k + 2) (v : Value) (hb : Below w.heap.size w w') (ho : Res w' W0.heap.size v (es ++ [E k])) : I19 W0 es vl E (upL L (6 * k + 5)) (upT x (82 + 6 * k) v) w' (3 * k + 3) live where
  bel := h.bel.step hb
  pb := by omega
  fl1 := fun k' hk' => by rw [upL_ne (by omega), h.fl1 k' hk']; exact decide_eq_decide.2 (by omega)
  fl4 := fun k' hk' => by rw [upL_ne (by omega), h.fl4 k' hk']; exact decide_eq_decide.2 (by omega)
  fl5 := fun k' hk' => by
    by_cases e : k' = k
    · subst e; rw [upL_same]; exact (decide_eq_true (by omega)).symm
    · rw [upL_ne (by omega), h.fl5 k' hk']; exact decide_eq_decide.2 (by omega)
  mv := fun k' hk' hL => by rw [upL_ne (by omega)] at hL; rw [upT_ne (by omega)]; exact h.mv k' hk' hL
  ld := fun k' hk' hL => by rw [upL_ne (by omega)] at hL; rw [upT_ne (by omega)]; exact h.ld k' hk' hL
  bd := fun k' hk' hL hp' => by
    rw [upL_ne (by omega)] at hL
    rw [upT_ne (by omega)]
    obtain ⟨b, h1, h2, h3, h4⟩ := h.bd k' hk' hL (by omega)
    exact ⟨b, h1, h2, blk h3 hb, h4⟩
  cl := fun k' hk' hp' => absurd hp' (by omega)
  lv := fun _ => h.lv (by omega)
  ap := fun k' hk' hp' => absurd hp' (by omega)
  rn := fun k' hk' hp' => by
    by_cases e : k' = k
    · subst e; rw [upT_same]; exact ho
    · rw [upT_ne (by omega)]; exact (h.rn k' hk' (by omega)).below hb
  al := fun k' hk' hL => by
    rw [upL_ne (by omega)] at hL
    rw [upT_ne (by omega)]
    obtain ⟨b, h1, h2, h3⟩ := h.al k' hk' hL
    exact ⟨b, h1, h2, blk h3 hb⟩
  ad := fun i j hij hj h1 h2 => by rw [upL_ne (by omega)] at h1 h2; rw [upT_ne (by omega), upT_ne (by omega)]; exact h.ad i j hij hj h1 h2
end
end Go.Proofs.YtefbedineniejaaDoor
