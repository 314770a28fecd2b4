/- period.Until: what all months up to one come to. -/
import Derived.Test.YtackpcohmmlkeaaGreatDoorPrB
import Derived.Test.YtackpcohmmlkeaaGreatDoorPrN
namespace Go.Proofs.YtackpcohmmlkeaaGreatDoor
open Go.RowKit
set_option linter.unusedVariables false
set_option linter.unusedSimpArgs false

abbrev Fg.ob (f : Fg) : Obj := .cells #[.int .i64 f.i, .int .i64 f.o, .int .i64 f.l, .int .i64 f.g, .int .i64 f.t] 29
theorem below_gbP {H : Nat} {w0 w w' : World} {b : Nat} (h : Below H w0 w) (hg : w.grownBy w' (some b)) (hb : H ≤ b) (hH : H ≤ w.heap.size) : Below H w0 w' :=
  h.trans ⟨hg.os, hg.tape, hg.output, hg.size, fun k hk => hg.block k (by omega) (fun e => by cases e; omega)⟩
theorem fig_set0 {w : World} {g : Nat} {cur : Array Value} {t : TypeId} {fz : Nat × Nat} (h : w.heap[g]? = some (.cells cur t fz)) (f : Fg) (o : Nat) :
    (w.setCells g o f.cells).heap[g]? = some (.cells (((((cur.setIfInBounds o (.int .i64 f.i)).setIfInBounds (o + 1) (.int .i64 f.o)).setIfInBounds (o + 1 + 1) (.int .i64 f.l)).setIfInBounds (o + 1 + 1 + 1) (.int .i64 f.g)).setIfInBounds (o + 1 + 1 + 1 + 1) (.int .i64 f.t)) t fz) := by
  have hh := mid_self (o := o + 1 + 1 + 1 + 1) (.int .i64 f.t) (mid_self (o := o + 1 + 1 + 1) (.int .i64 f.g) (mid_self (o := o + 1 + 1) (.int .i64 f.l) (mid_self (o := o + 1) (.int .i64 f.o) (mid_self (o := o) (.int .i64 f.i) h))))
  simp only [Fg.cells, World.setCells]
  exact hh
theorem fig_set {w : World} {g : Nat} {cur : Array Value} {t : TypeId} {fz : Nat × Nat} (h : w.heap[g]? = some (.cells cur t fz)) (hs : cur.size = 5) (f : Fg) :
    (w.setCells g 0 f.cells).heap[g]? = some (.cells #[.int .i64 f.i, .int .i64 f.o, .int .i64 f.l, .int .i64 f.g, .int .i64 f.t] t fz) := by
  rw [fig_set0 h f 0]
  obtain ⟨l⟩ := cur
  match l, hs with
  | [a, b, c, d, e], _ => simp [List.setIfInBounds_toArray]
theorem fig_there {w : World} {g : Nat} {cur : Array Value} {t : TypeId} (h : w.heap[g]? = some (.cells cur t (0, 0))) (hs : cur.size = 5) : w.there g 0 5 := by
  intro j hj
  constructor
  · simp [World.cell?, h]; omega
  · simp [World.frozen?, h]
theorem fig_cells {w : World} {g : Nat} {f : Fg} {t : TypeId} {fz : Nat × Nat} (h : w.heap[g]? = some (.cells #[.int .i64 f.i, .int .i64 f.o, .int .i64 f.l, .int .i64 f.g, .int .i64 f.t] t fz)) :
    w.cell? ⟨g, 0, none⟩ = some (.int .i64 f.i) ∧ w.cell? ⟨g, 1, none⟩ = some (.int .i64 f.o) ∧ w.cell? ⟨g, 2, none⟩ = some (.int .i64 f.l) ∧ w.cell? ⟨g, 3, none⟩ = some (.int .i64 f.g) ∧ w.cell? ⟨g, 4, none⟩ = some (.int .i64 f.t) := by
  simp only [World.cell?, h]
  exact ⟨rfl, rfl, rfl, rfl, rfl⟩
set_option maxHeartbeats 4000000 in
set_option maxRecDepth 100000 in
theorem until_any (a : Option Addr) (n c : Nat) (es : List Evt) (m : Int) (w : World) (hr : RdE w.heap.size w (.slice a n c) es) (hw : DW w) (hlen : es.length ≤ 140) (hR : ∀ e ∈ es, e.right = true) (hD : ∀ e ∈ es, 0 ≤ e.day ∧ e.day ≤ 99999) (hU : Uniq es) :
    Calls Tryz.prog 12 #[.slice a n c, .int .i64 m] w (Gives (allF es m).agg w) := by
  have HM : Hid (∀ W, Below w.heap.size w W → Calls Tryz.prog 10 #[.slice a n c] W fun e w' => ∃ v, e = .returned v ∧ w'.ownsRow W.heap.size 31 6 v (monE es).length (flM (monE es)) ∧ Below W.heap.size W w') := Lib.hid fun W hW => pmonths_any a n c es W ((hr.below hW).mono hW.size) (hw.below hW) hlen hR hD hU
  have hle := monE_le' es hlen
  have hta := fun k => allF_take es m hlen k
  have hml := monE_len es
  unfold allF
  generalize monE es = ms at HM hle hta hml ⊢
  have HLE := Lib.hid hle
  have HTA := Lib.hid hta
  clear hr hw hR hD hU hle hta
  go_enter Tryz.func12, Tryz.ntmps12
  go_wp2_with fail
  have hb0 : Below w.heap.size w ((w.alloc fg0.ob).alloc fg0.ob) := ((Below.refl _ w).new _).new _
  have h4 : ((w.alloc fg0.ob).alloc fg0.ob).heap[w.heap.size]? = some fg0.ob := (((Below.refl _ (w.alloc fg0.ob)).new fg0.ob).block w.heap.size (by simp)).trans (World.alloc_heap_new w fg0.ob)
  have h5 : ((w.alloc fg0.ob).alloc fg0.ob).heap[w.heap.size + 1]? = some fg0.ob := by
    have := World.alloc_heap_new (w.alloc fg0.ob) fg0.ob
    rwa [World.size_alloc] at this
  have hz : ((w.alloc fg0.ob).alloc fg0.ob).heap.size = w.heap.size + 2 := by simp
  refine (HM.out _ hb0).mono ?_
  rintro e w1 ⟨v, rfl, ho, hb1⟩
  obtain ⟨ya, yc, rfl⟩ := own_slice ho
  have HO := Lib.hid (own_base_cK ho (show w.heap.size + 2 ≤ _ by rw [← hz]; exact Nat.le_refl _))
  have HB1 := Lib.hid (hb0.step hb1)
  have h41 := (hb1.block w.heap.size (by rw [hz]; omega)).trans h4
  have h51 := (hb1.block (w.heap.size + 1) (by rw [hz]; omega)).trans h5
  clear h4 h5 hz hb0 hb1 ho HM
  go_wp2_with fail
  go_loopg [11] ms.length (fun kx i wr => ∃ k : Nat, k ≤ ms.length ∧ i = .int .i64 k ∧ ms.length - k ≤ kx ∧ wr.heap[w.heap.size]? = some fg0.ob ∧ wr.heap[w.heap.size + 1]? = some (untilF (ms.take k) m).ob ∧ Hid (wr.ownsRow (w.heap.size + 2) 31 6 (.slice ya ms.length yc) ms.length (flM ms)) ∧ Hid (Below w.heap.size w wr))
  case atStart => exact ⟨0, by omega, rfl, by omega, h41, h51, HO, HB1⟩
  case round =>
    obtain ⟨k, hk, rfl, hkx, h4, h5, HOR, HBR⟩ := hrel
    have H4 := Lib.hid h4
    have h5l : w.heap.size + 1 < wr.heap.size := (Array.getElem?_eq_some_iff.1 h5).1
    have H5 := Lib.hid h5
    clear h4 h5 h41 h51
    by_cases hlt : k < ms.length
    · have hltz : (k : Int) < (ms.length : Int) := by omega
      obtain ⟨g, hg1, hg2, hg3, hgc⟩ := own_mn HOR.out k hlt
      subst hg1
      obtain ⟨g0, g1, g2, g3, g4, g5⟩ := hgc wr (Below.refl _ _)
      have hS : Hid (untilF (ms.take (k + 1)) m = if ms[k].1 ≤ m then (untilF (ms.take k) m).plus ms[k].2 else untilF (ms.take k) m) := Lib.hid (by rw [List.take_succ_eq_append_getElem hlt, untilF_snoc])
      have hq := HLE.out ms[k] (List.getElem_mem hlt)
      have hf := HTA.out k
      generalize ms[k] = q at g0 g1 g2 g3 g4 g5 hS hq
      generalize untilF (ms.take k) m = f at H5 hS hf
      clear hgc
      by_cases hqm : q.1 ≤ m
      · rw [if_pos hqm] at hS
        have HPL : Hid (∀ W, Calls Tryz.prog 11 #[f.agg, q.2.agg] W fun r w' => r = .returned (f.plus q.2).agg ∧ Below W.heap.size W w') := Lib.hid (fun W => fplus_any f q.2 W (Fg.le_mono hf (by omega)) (Fg.le_mono hq (by omega)))
        obtain ⟨c0, c1, c2, c3, c4⟩ := fig_cells H5.out
        go_wp2_with fail
        refine (HPL.out _).mono ?_
        rintro e w2 ⟨rfl, hb2⟩
        generalize f.plus q.2 = f2 at hS
        have hb12 := (((Below.refl wr.heap.size wr).new _).step hb2)
        have h52 : w2.heap[w.heap.size + 1]? = some f.ob := (hb12.block _ h5l).trans H5.out
        have h42 : w2.heap[w.heap.size]? = some fg0.ob := (hb12.block _ (by omega)).trans H4.out
        have HT : w2.there (w.heap.size + 1) 0 f2.cells.toArray.size := fig_there h52 rfl
        have HS5 := Lib.hid (fig_set h52 rfl f2)
        have HG := setCells_gb (w.heap.size + 1) f2.cells 0 w2
        have HS4 := Lib.hid ((HG.block w.heap.size (by have := hb12.size; omega) (by simp)).trans h42)
        have HO2 := Lib.hid (own_gbxK (own_below HOR.out hb12) HG (fun e => by have e2 : some g = some (w.heap.size + 1) := e; injection e2 with e2; omega))
        have HB2 := Lib.hid (below_gbP (HBR.out.step hb12) HG (by omega) (by have := (HBR.out.step hb12).size; omega))
        clear h52 h42 HG hb2 hb12 c0 c1 c2 c3 c4 g0 g1 g2 g3 g4 g5
        go_wp2_with ((show Go.wpList _ _ _ ({ op := Go.Op.store _ _ _, .. } :: _) _ _; refine wpList_store_mid rfl 29 (.tmp 5) (.tmp 22) rfl (w.heap.size + 1) 0 f2.cells.toArray rfl rfl HT (by kernel_rfl) (all_oneCell_toArray (one_fg f2)) ?_))
        go_roundg (ms.length - (k + 1))
        case measure => omega
        case rel => exact ⟨k + 1, hlt, by first | rfl | go_num | (congr 1; omega), Nat.le_refl _, HS4.out, by rw [hS.out]; exact HS5.out, HO2, HB2⟩
      · rw [if_neg hqm] at hS
        go_wp2_with fail
        have hb12 := ((Below.refl wr.heap.size wr).new (.cells (mnC q).toArray 31))
        go_roundg (ms.length - (k + 1))
        case measure => omega
        case rel => exact ⟨k + 1, hlt, by first | rfl | go_num | (congr 1; omega), Nat.le_refl _, (hb12.block _ (by omega)).trans H4.out, by rw [hS.out]; exact (hb12.block _ h5l).trans H5.out, Lib.hid (own_below HOR.out hb12), Lib.hid (HBR.out.step hb12)⟩
    · have hltz : ¬ (k : Int) < (ms.length : Int) := by omega
      have hke : ms.take k = ms := List.take_of_length_le (by omega)
      rw [hke] at H5
      generalize hfe : untilF ms m = f at H5
      obtain ⟨c0, c1, c2, c3, c4⟩ := fig_cells H5.out
      have HT := fig_there H4.out rfl
      have HS4 := fig_set H4.out rfl f
      obtain ⟨d0, d1, d2, d3, d4⟩ := fig_cells HS4
      have HB2 := below_gbP HBR.out (setCells_gb w.heap.size f.cells 0 wr) (Nat.le_refl _) HBR.out.size
      go_wp2_with ((show Go.wpList _ _ _ ({ op := Go.Op.store _ _ _, .. } :: _) _ _; refine wpList_store_mid rfl 29 (.tmp 4) (.tmp 24) rfl w.heap.size 0 f.cells.toArray rfl rfl HT (by kernel_rfl) (all_oneCell_toArray (one_fg f)) ?_))
      exact bodyPost_ret (v := f.agg) (by simp [results, Tryz.results12, go_sem, d0, d1, d2, d3, d4]) rfl ⟨by first | rfl | rw [hfe], HB2⟩
end Go.Proofs.YtackpcohmmlkeaaGreatDoor
