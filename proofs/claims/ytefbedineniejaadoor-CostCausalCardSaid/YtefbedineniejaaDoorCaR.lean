/- slices.Reverse at structs of k cells, walked; at events of a row of the call's own. -/
import Derived.Test.YtefbedineniejaaDoorCaP
import Derived.Test.YtefbedineniejaaDoorStX
namespace Go.Proofs.YtefbedineniejaaDoor
open Go.Shelf Go.RowKit Go.Lib Go.Sort
set_option linter.unusedVariables false

section
variable {P : Program} {α : Type} [Inhabited α] {w0 : World} {d0 : Array α}
set_option maxHeartbeats 4000000 in
set_option maxRecDepth 1000000 in
theorem reverse_w (L : StL P) (FG : P.funcs[30]? = some Tryd.f30) (k : Nat) (aE : ∀ w, (isAgg 50).run P w = .ok true w) (zE : ∀ w, (Go.sizeOf 50).run P w = .ok k w) (enc : α → List Value) (blk off cap m : Nat) (d : Array α) (w : World)
    (R : RowK enc k w0 blk off d0) (hs : d0.size = d.size) (S : SWK enc k w0 blk off d w) (hm : m ≤ d.size) (hsz : d.size < 4611686018427387904) :
    Calls P 30 #[.slice (some ⟨blk, off, none⟩) m cap] w fun e w' => e = .returned (.tuple #[]) ∧ ∃ dk : Array α, dk.size = d.size ∧ (∀ t, t < d.size → dk[t]! = if t < m then d[m - 1 - t]! else d[t]!) ∧ SWK enc k w0 blk off dk w' := by
  have mixed := L.mixed; have tT := L.tT; have aT := L.aT; have zT := L.zT; have vT := L.vT; have tI := L.tI; have aI := L.aI; have zI := L.zI; have vI := L.vI; have tB := L.tB; have aB := L.aB; have zB := L.zB; have vB := L.vB; have tU := L.tU; have aU := L.aU; have zU := L.zU; have vU := L.vU; have tS := L.tS; have aS := L.aS; have zS := L.zS; have vS := L.vS; have tC := L.tC; have aC := L.aC; have zC := L.zC; have vC := L.vC
  have S0 : Aside (SWK enc k w0 blk off d w) := S
  clear S
  by_cases h0 : m = 0
  · subst h0
    go_enter FG, Tryd.ntmps30
    go_wp2
    refine wp_loop_rounds 1 ?_
    rw [rounds_succ]
    go_wp2
    go_end0
    exact ⟨rfl, d, rfl, fun t ht => by simp, S0.out⟩
  have hm1 : (m : Int) - 1 = ((m - 1 : Nat) : Int) := by omega
  have HM1 := Lib.hid hm1
  have hmp : 1 ≤ m := by omega
  clear h0 hm1
  go_enter FG, Tryd.ntmps30
  go_wp2
  go_loopg [2, 3] m (fun kx s2 s3 wr => ∃ (i j : Nat) (dk : Array α), s2 = .int .i64 i ∧ s3 = .int .i64 j ∧ i + j + 1 = m ∧ m - i ≤ kx ∧ dk.size = d.size ∧ Aside (SWK enc k w0 blk off dk wr) ∧ Hid (∀ t, t < d.size → dk[t]! = if t < i ∨ (j < t ∧ t < m) then d[m - 1 - t]! else d[t]!))
  case atStart => exact ⟨0, m - 1, d, rfl, by rw [HM1.out], by omega, by omega, rfl, S0, fun t ht => by rw [if_neg (by omega)]⟩
  case round =>
    clear S0
    obtain ⟨i, j, dk, rfl, rfl, hij, hkx, hds, S1, heq⟩ := hrel
    by_cases hlt : i < j
    · have hltz : (i : Int) < (j : Int) := by omega
      go_wp2_with fail
      have ec : (j : Int) < (m : Int) := by omega
      have ea : (i : Int) < (m : Int) := by omega
      have hj1 : (j : Int) - 1 = ((j - 1 : Nat) : Int) := by omega
      have HJ1 := Lib.hid hj1
      clear hj1
      have S2 : Aside (SWK enc k w0 blk off (swp dk i j) ((wr.drew.setCells blk (off + i * k) (enc dk[j]!)).setCells blk (off + j * k) (enc dk[i]!))) := S1.out.swapped R i j (by omega) (by omega)
      have l1a := S1.out.ld1 R (by omega) P i (by omega)
      have l1b := S1.out.ld1 R (by omega) P j (by omega)
      have s1a := S1.out.st1 R (by omega) P i (by omega) dk[j]!
      have s1b := S1.out.st2 R (by omega) P i j (by omega) (by omega) dk[j]! dk[i]!
      have n1a : (enc dk[i]!).length = k := R.hk _
      have n1b : (enc dk[j]!).length = k := R.hk _
      generalize enc dk[i]! = cI1 at S2 l1a s1b n1a
      generalize enc dk[j]! = cJ1 at S2 l1b s1a s1b n1b
      clear S1
      go_big_region_o
      clear l1a l1b s1a s1b
      generalize (wr.drew.setCells blk (off + i * k) cJ1).setCells blk (off + j * k) cI1 = w2 at S2 ⊢
      go_wp2
      go_roundg (m - (i + 1))
      case measure => omega
      case rel =>
        refine ⟨i + 1, j - 1, swp dk i j, by go_num, by rw [← HJ1.out], by omega, Nat.le_refl _, by rw [size_swp]; exact hds, S2, (show Hid _ from fun t ht => ?_)⟩
        rw [swp_get dk (by omega) (by omega)]
        by_cases h1 : t = j
        · subst h1
          rw [if_pos rfl, if_pos (by omega), heq.out i (by omega), if_neg (by omega), show m - 1 - t = i by omega]
        · rw [if_neg h1]
          by_cases h2 : t = i
          · subst h2
            rw [if_pos rfl, if_pos (by omega), heq.out j (by omega), if_neg (by omega), show m - 1 - t = j by omega]
          · rw [if_neg h2, heq.out t ht]
            by_cases h3 : t < i ∨ (j < t ∧ t < m)
            · rw [if_pos h3, if_pos (by omega)]
            · rw [if_neg h3, if_neg (by omega)]
    · have hltz : ¬ (i : Int) < (j : Int) := by omega
      go_wp2
      go_end0
      refine ⟨rfl, dk, hds, fun t ht => ?_, S1.out⟩
      rw [heq.out t ht]
      by_cases h3 : t < i ∨ (j < t ∧ t < m)
      · rw [if_pos h3, if_pos (by omega)]
      · rw [if_neg h3]
        by_cases h4 : t < m
        · rw [if_pos h4, show m - 1 - t = t by omega]
        · rw [if_neg h4]
end
theorem rev_list {α : Type} [Inhabited α] (T : List α) (m : Nat) (hm : m ≤ T.length) (dk : Array α) (hs : dk.size = T.length) (h : ∀ t, t < T.length → dk[t]! = if t < m then T.toArray[m - 1 - t]! else T.toArray[t]!) : dk.toList = (T.take m).reverse ++ T.drop m := by
  apply List.ext_getElem
  · simp; omega
  · intro t h1 h2
    have ht : t < T.length := by simp at h1; omega
    have h3 := h t ht
    rw [getElem!_pos dk t (by omega)] at h3
    rw [Array.getElem_toList, h3]
    by_cases htm : t < m
    · rw [if_pos htm, List.getElem_append_left (by simp; omega), getElem!_pos _ _ (by simp; omega)]
      simp only [List.getElem_toArray, List.getElem_reverse, List.getElem_take, List.length_take]
      congr 1
      omega
    · rw [if_neg htm, List.getElem_append_right (by simp; omega), getElem!_pos _ _ (by simpa using ht)]
      simp only [List.getElem_toArray, List.getElem_drop, List.length_reverse, List.length_take]
      congr 1
      omega
/-- slices.Reverse of the first m of a row of the call's own. -/
theorem reverse_any (base g n cap m : Nat) (T : List Evt) (w : World) (ho : w.ownsRow base 50 7 (.slice (some ⟨g, 0, none⟩) n cap) n (flE T)) (hn : T.length = n) (hm : m ≤ n) (hl : n ≤ 1000) (hB : base ≤ w.heap.size) :
    Calls Tryd.prog 30 #[.slice (some ⟨g, 0, none⟩) m cap] w fun e w' => e = .returned (.tuple #[]) ∧ Below base w w' ∧ RdE w'.heap.size w' (.slice (some ⟨g, 0, none⟩) n cap) ((T.take m).reverse ++ T.drop m) := by
  subst hn
  rcases ho.2 with ⟨e0, -⟩ | ⟨g', cap', cur, e1, hg1, hg, hn, hcap, hsz, ht⟩
  · cases e0
  injection e1 with e1 e2 e3
  injection e1 with e1
  injection e1 with e1
  subst e1 e3
  have hgl : g < w.heap.size := (Array.getElem?_eq_some_iff.1 hg).1
  have hH := holds_of_own hg ht
  have hz : T.toArray.size = T.length := by simp
  refine (reverse_w stL Tryd.func30 7 agg_evt size_evt Evt.cells g 0 cap m T.toArray w ⟨cells_len, one_evt, hH, hgl⟩ rfl (SWK.start hH) (by rw [hz]; exact hm) (by rw [hz]; omega)).mono ?_
  rintro e w' ⟨rfl, dk, hs, hd, hS⟩
  rw [hz] at hs hd
  have hb := below_sort hg1 hB hS
  have hh := hS.holds hgl hH (by rw [hs, hz])
  have hdl := rev_list T m hm dk hs hd
  have hda : dk = ((T.take m).reverse ++ T.drop m).toArray := by rw [← hdl]
  rw [hda] at hh
  have := rdE_of_holds (cap := cap) hh (Nat.lt_of_lt_of_le hgl hb.size)
  rw [show ((T.take m).reverse ++ T.drop m).length = T.length by simp; omega] at this
  exact ⟨rfl, hb, this⟩
end Go.Proofs.YtefbedineniejaaDoor
