/- CostEmpties's region that draws its order, whole: what lies there behind it. -/
import Derived.Test.YtefbedineniejaaDoorCsW
namespace Go.Proofs.YtefbedineniejaaDoor
open Go.RowKit
open Go.Maps (Keyed)
set_option linter.unusedVariables false

theorem wpList_take {P : Program} {ops : Array Oper} {Q : Exit → Act → World → Prop} {o : Oper} {rest : List Oper} {a : Act} {w : World} (hg : o.guard = none) (h : o.wp P a w (wpList P ops Q rest) Q) : wpList P ops Q (o :: rest) a w := by
  rw [wpList, if_pos (by unfold Region.wanted; rw [hg])]
  exact Or.inl h
theorem tail19 : ∃ o1 o2 o3 : Oper, ops19.toList.drop 21 = [o1, o2, o3] ∧ (o1.guard = none ∧ o1.op = .store 43 (.tmp 12) (.tmp 82) ∧ o1.dst = none) ∧ (o2.guard = none ∧ o2.op = .store 43 (.tmp 13) (.tmp 88) ∧ o2.dst = none) ∧ (o3.guard = none ∧ o3.op = .store 43 (.tmp 14) (.tmp 94) ∧ o3.dst = none) := by
  have h : (ops19.toList.drop 21).map (fun o => (o.guard, o.op, o.dst)) = [(none, .store 43 (.tmp 12) (.tmp 82), none), (none, .store 43 (.tmp 13) (.tmp 88), none), (none, .store 43 (.tmp 14) (.tmp 94), none)] := by kernel_rfl
  obtain ⟨l, hl⟩ : ∃ l, l = ops19.toList.drop 21 := ⟨_, rfl⟩
  rw [← hl] at h ⊢
  clear hl
  cases l with
  | nil => simp at h
  | cons o1 l => cases l with
    | nil => simp at h
    | cons o2 l => cases l with
      | nil => simp at h
      | cons o3 l => cases l with
        | cons o4 l => simp at h
        | nil =>
          simp only [List.map_cons, List.map_nil, List.cons.injEq, Prod.mk.injEq, and_true] at h
          exact ⟨o1, o2, o3, rfl, h.1, h.2.1, h.2.2⟩
/-- What lies there behind the region. -/
def Aft (W0 : World) (es : List Evt) (E : Nat → Evt) (x : Nat → Value) (w : World) : Prop :=
  Below W0.heap.size W0 w ∧ ∃ (b bl : Nat → Nat) (va : Nat → Value), ∀ k, k < 3 → x (12 + k) = .pointer (some ⟨b k, 0, none⟩) ∧ W0.heap.size ≤ b k ∧ w.heap[b k]? = some (.cells #[va k, .map (some (bl k))] 43 (0, 0)) ∧ ResP w W0.heap.size (va k) (bl k) (es ++ [E k])
theorem stR {W0 w : World} {es : List Evt} {b bl : Nat} {va v0 m0 : Value} (h : ResP w W0.heap.size va bl es) (hc : w.heap[b]? = some (.cells #[v0, m0] 43 (0, 0))) : ∃ w', (Instr.storeAt 43 (.pointer (some ⟨b, 0, none⟩)) (.agg #[va, .map (some bl)])).run Tryd.prog w = .ok () w' ∧ w.grownBy w' (some b) ∧ w'.heap[b]? = some (.cells #[va, .map (some bl)] 43 (0, 0)) := by
  obtain ⟨xa, xc, hv⟩ := own_slice h.1
  exact ⟨_, run_st w b va bl v0 m0 xa _ xc hv hc, setR_gb w b va _, setR_self hc va _⟩
theorem gb_keep {w w' : World} {b b' : Nat} {o : Obj} (h : w.heap[b]? = some o) (hg : w.grownBy w' (some b')) (hne : b' ≠ b) : w'.heap[b]? = some o := gb_blk h hg (fun e => hne (Option.some.inj e))
theorem gb_bel {W0 w w' : World} {b : Nat} (h : Below W0.heap.size W0 w) (hg : w.grownBy w' (some b)) (hb : W0.heap.size ≤ b) : Below W0.heap.size W0 w' := h.trans (gb_below hg (fun g e => by cases e; exact hb) h.size)
set_option maxHeartbeats 1000000 in
theorem region19 {id : Nat} {W0 : World} {a : Act} {es : List Evt} {vl : Value} {E : Nat → Evt} {B : Nat → Nat} {Q : Exit → Act → World → Prop} (hin : In19 W0 a es vl E B)
    (hq : ∀ x w', Aft W0 es E x w' → Q .normal (ov a S19 x) w') : (Code.region id ops19 true).wp Tryd.prog Q a W0 := by
  refine wp_region_inv (by kernel_rfl) 21 S19 (J19 W0 es vl E) inv19 ?_ (fun i hi => step19 hin i hi) ?_
  · refine ⟨0, none, ?_⟩
    constructor
    · exact below_drewN (Below.refl _ _) 1
    · omega
    · intro k hk; exact (decide_eq_false (by omega)).symm
    · intro k hk; exact (decide_eq_false (by omega)).symm
    · intro k hk; exact (decide_eq_false (by omega)).symm
    · intro k hk h; cases h
    · intro k hk h; cases h
    · intro k hk h; cases h
    · intro k hk h; omega
    · intro _; rfl
    · intro k hk h; omega
    · intro k hk h; omega
    · intro j hj h; cases h
    · intro i j hij hj h; cases h
  · intro L x w ⟨p, live, hI⟩ hall
    have hp : p = 9 := by
      have h1 := hI.fl5 2 (by omega)
      rw [hall _ (by omega)] at h1
      have h2 := of_decide_eq_true h1.symm
      have := hI.pb
      omega
    subst hp
    obtain ⟨va0, bl0, e0, r0⟩ := hI.rn 0 (by omega) (by omega)
    obtain ⟨va1, bl1, e1, r1⟩ := hI.rn 1 (by omega) (by omega)
    obtain ⟨va2, bl2, e2, r2⟩ := hI.rn 2 (by omega) (by omega)
    obtain ⟨b0, z0, p0, c0⟩ := hI.al 0 (by omega) (hall _ (by omega))
    obtain ⟨b1, z1, p1, c1⟩ := hI.al 1 (by omega) (hall _ (by omega))
    obtain ⟨b2, z2, p2, c2⟩ := hI.al 2 (by omega) (hall _ (by omega))
    have n01 : b0 ≠ b1 := fun e => hI.ad 0 1 (by omega) (by omega) (hall _ (by omega)) (hall _ (by omega)) (by rw [p0, p1, e])
    have n02 : b0 ≠ b2 := fun e => hI.ad 0 2 (by omega) (by omega) (hall _ (by omega)) (hall _ (by omega)) (by rw [p0, p2, e])
    have n12 : b1 ≠ b2 := fun e => hI.ad 1 2 (by omega) (by omega) (hall _ (by omega)) (hall _ (by omega)) (by rw [p1, p2, e])
    have hbel := hI.bel
    have tm : ∀ t, t ∈ S19 → t < 187 → (ov a S19 x).eval (.tmp t) = x t := fun t h1 h2 => ov_tmp h1 (by rw [hin.size]; exact h2)
    clear hI hall
    obtain ⟨o1, o2, o3, ht, ⟨g1, op1, d1⟩, ⟨g2, op2, d2⟩, ⟨g3, op3, d3⟩⟩ := tail19
    rw [ht]
    obtain ⟨w1, s1, gb1, k1⟩ := stR r0 c0
    have r0' := r0.gb gb1 c0 (by decide) (by decide)
    have r1' := r1.gb gb1 c0 (by decide) (by decide)
    have r2' := r2.gb gb1 c0 (by decide) (by decide)
    have c1' := gb_keep c1 gb1 n01
    have c2' := gb_keep c2 gb1 n02
    have bel1 := gb_bel hbel gb1 z0
    refine wpList_take g1 (wp_st _ _ _ w1 op1 d1 ?_ ?_)
    · rw [tm 12 (by decide) (by decide), tm 82 (by decide) (by decide)]
      rw [show x 12 = _ from p0, show x 82 = _ from e0]
      exact s1
    obtain ⟨w2, s2, gb2, k2⟩ := stR r1' c1'
    have r0'' := r0'.gb gb2 c1' (by decide) (by decide)
    have r1'' := r1'.gb gb2 c1' (by decide) (by decide)
    have r2'' := r2'.gb gb2 c1' (by decide) (by decide)
    have k1' := gb_keep k1 gb2 (Ne.symm n01)
    have c2'' := gb_keep c2' gb2 n12
    have bel2 := gb_bel bel1 gb2 z1
    refine wpList_take g2 (wp_st _ _ _ w2 op2 d2 ?_ ?_)
    · rw [tm 13 (by decide) (by decide), tm 88 (by decide) (by decide)]
      rw [show x 13 = _ from p1, show x 88 = _ from e1]
      exact s2
    obtain ⟨w3, s3, gb3, k3⟩ := stR r2'' c2''
    have r0''' := r0''.gb gb3 c2'' (by decide) (by decide)
    have r1''' := r1''.gb gb3 c2'' (by decide) (by decide)
    have r2''' := r2''.gb gb3 c2'' (by decide) (by decide)
    have k1'' := gb_keep k1' gb3 (Ne.symm n02)
    have k2' := gb_keep k2 gb3 (Ne.symm n12)
    have bel3 := gb_bel bel2 gb3 z2
    refine wpList_take g3 (wp_st _ _ _ w3 op3 d3 ?_ ?_)
    · rw [tm 14 (by decide) (by decide), tm 94 (by decide) (by decide)]
      rw [show x 14 = _ from p2, show x 94 = _ from e2]
      exact s3
    refine hq x w3 ⟨bel3, fun k => if k = 0 then b0 else if k = 1 then b1 else b2, fun k => if k = 0 then bl0 else if k = 1 then bl1 else bl2, fun k => if k = 0 then va0 else if k = 1 then va1 else va2, ?_⟩
    intro k hk
    have hk3 : k = 0 ∨ k = 1 ∨ k = 2 := by omega
    rcases hk3 with rfl | rfl | rfl
    · exact ⟨p0, z0, k1'', r0'''⟩
    · exact ⟨p1, z1, k2', r1'''⟩
    · exact ⟨p2, z2, k3, r2'''⟩
end Go.Proofs.YtefbedineniejaaDoor
