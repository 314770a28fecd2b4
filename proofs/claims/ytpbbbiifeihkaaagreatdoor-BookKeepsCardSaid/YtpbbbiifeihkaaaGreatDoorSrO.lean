/- tallymanref.ordered: a row of the call's own that holds the events in their order, those that are alike as they stood. -/
import Derived.Test.YtpbbbiifeihkaaaGreatDoorSrZ
import Derived.Test.YtpbbbiifeihkaaaGreatDoorStabK
import Derived.Test.YtpbbbiifeihkaaaGreatDoorRnA
import Derived.Test.YtpbbbiifeihkaaaGreatDoorKh
import Derived.Test.YtpbbbiifeihkaaaGreatDoorCsRp
import Derived.Shelf.SlSortCmp.KitK
namespace Go.Proofs.YtpbbbiifeihkaaaGreatDoor
open Go.Shelf Go.RowKit Go.Lib Go.Sort
set_option linter.unusedVariables false
set_option linter.unusedSimpArgs false

theorem aheadB_lt (x y : Evt) : Ev.aheadB x.id x.kind x.day y.id y.kind y.day = ltOf cfE x y := by
  unfold Ev.aheadB ltOf cfE
  rw [decide_eq_decide]
  simp only [Ev.cmpE, Ev.or3]
  rcases Ev.cmpI_bd x.day y.day with h | h | h <;> rcases Ev.cmpI_bd x.kind y.kind with h2 | h2 | h2 <;> rcases Ev.cmpI_bd x.id y.id with h3 | h3 | h3 <;> rw [h, h2, h3] <;> decide

/-- The row of events in block blk, its slice in a box of its own. -/
structure OrR (b0 blk c cap n : Nat) (d : Array Evt) (w : World) : Prop where
  size : d.size = n
  own : w.ownsRow b0 24 7 (.slice (some ⟨blk, 0, none⟩) n cap) n (flE d.toList)
  box : w.heap[c]? = some (.cells #[.slice (some ⟨blk, 0, none⟩) n cap] 22)
theorem OrR.cells {b0 blk c cap n : Nat} {d : Array Evt} {w : World} (h : OrR b0 blk c cap n d w) : ∃ cur, b0 ≤ blk ∧ w.heap[blk]? = some (.cells cur 24 (0, 0)) ∧ n ≤ cap ∧ cap ≤ maxLen ∧ cur.size = cap * 7 ∧ cur.toList.take (d.toList.length * 7) = flE d.toList := by
  rcases h.own.2 with ⟨h1, -⟩ | ⟨g, cp, cur, h1, h2, h3, h4, h5, h6, h7⟩
  · injection h1 with h1; cases h1
  · injection h1 with h1 h8 h9
    injection h1 with h1
    injection h1 with h1
    subst h1 h9
    exact ⟨cur, h2, h3, h4, h5, h6, by rw [Array.length_toList, h.size]; exact h7⟩
theorem OrR.holds {b0 blk c cap n : Nat} {d : Array Evt} {w : World} (h : OrR b0 blk c cap n d w) : HoldsK Evt.cells 7 w blk 0 d ∧ blk < w.heap.size := by
  obtain ⟨cur, h1, h2, h3, h4, h5, h6⟩ := h.cells
  exact ⟨by simpa using holds_of_own (es := d.toList) h2 h6, (Array.getElem?_eq_some_iff.1 h2).1⟩
theorem own_srt {w W : World} {base g cap n : Nat} {cur : Array Value} {ts : List Evt} (hb : base ≤ g) (hc : w.heap[g]? = some (.cells cur 24 (0, 0))) (hn : n ≤ cap) (hm : cap ≤ maxLen) (hs : cur.size = cap * 7) (hS : SWK Evt.cells 7 w g 0 ts.toArray W) (hl : ts.length = n) :
    W.ownsRow base 24 7 (.slice (some ⟨g, 0, none⟩) n cap) n (flE ts) := by
  obtain ⟨m, os, rfl⟩ := hS
  have hgl : g < w.heap.size := (Array.getElem?_eq_some_iff.1 hc).1
  refine ⟨by rw [flE_len, hl], .inr ⟨g, cap, putCells id 0 (flatK Evt.cells 7 ts.toArray) cur, rfl, hb, ?_, hn, hm, by simp [putCells, hs], ?_⟩⟩
  · show (((Sort.ahead w m).heap.modify g _) ++ os)[g]? = _
    rw [Array.getElem?_append, if_pos (by simp only [Array.size_modify]; exact hgl), Array.getElem?_modify, if_pos rfl]
    show Option.map _ w.heap[g]? = _
    rw [hc]
    rfl
  · refine List.ext_getElem? fun j => ?_
    by_cases hj : j < n * 7
    · have hjc : j < cur.size := by rw [hs]; exact Nat.lt_of_lt_of_le hj (Nat.mul_le_mul_right _ hn)
      have hj2 : j < ts.toArray.size * 7 := by simpa [hl] using hj
      have hi : j / 7 < ts.length := by omega
      rw [List.getElem?_take_of_lt hj, Array.getElem?_toList, flE_get, List.getElem?_eq_getElem hi]
      have hm7 : j % 7 < ts[j / 7].cells.length := by rw [cells_len]; omega
      simp only [Option.bind_some]
      rw [List.getElem?_eq_getElem hm7]
      simp only [putCells, Array.getElem?_mapIdx, Nat.zero_le, true_and, Nat.zero_add, size_flatK, hj2, if_true, Nat.sub_zero, id]
      rw [get_flatK _ _ _ _ hj2, Array.getElem?_eq_getElem hjc]
      simp [hi, hm7]
    · rw [List.getElem?_eq_none (by simp; omega), List.getElem?_eq_none (by rw [flE_len, hl]; omega)]
theorem swk_gb {w W : World} {blk : Nat} {d : Array Evt} (h : SWK Evt.cells 7 w blk 0 d W) : w.grownBy W (some blk) := by
  obtain ⟨n, os, rfl⟩ := h
  refine ⟨rfl, rfl, rfl, size_sortWorldK_c _ _ _ _ _ _ _ _, fun k hk hne => ?_⟩
  show (((Sort.ahead w n).heap.modify blk _) ++ os)[k]? = _
  rw [Array.getElem?_append, if_pos (by simp only [Array.size_modify]; exact hk), Array.getElem?_modify, if_neg (by intro e; exact hne (by rw [e]))]
  rfl
theorem OrR.turned {b0 blk c cap n : Nat} {d d' : Array Evt} {w W : World} (h : OrR b0 blk c cap n d w) (hS : SWK Evt.cells 7 w blk 0 d' W) (hd : d'.size = n) (hne : c ≠ blk) : OrR b0 blk c cap n d' W := by
  obtain ⟨cur, h1, h2, h3, h4, h5, h6⟩ := h.cells
  refine ⟨hd, own_srt h1 h2 h3 h4 h5 (ts := d'.toList) (by simpa using hS) (by simpa using hd), ?_⟩
  rw [(swk_gb hS).block c (Array.getElem?_eq_some_iff.1 h.box).1 (by intro e; injection e with e; exact hne e)]
  exact h.box

set_option maxHeartbeats 2000000 in
set_option maxRecDepth 100000 in
theorem ord_less (b0 blk c cap n : Nat) (d : Array Evt) (w : World) (i j : Nat) (h : OrR b0 blk c cap n d w) (hi : i < n) (hj : j < n) (hn : n ≤ 1000000000) :
    Calls Tryz.prog 66 (#[.int .i64 i, .int .i64 j] ++ #[.pointer (some ⟨c, 0, none⟩)]) w fun e w' => e = .returned (.bool (ltOf cfE d[i]! d[j]!)) ∧ Gr w w' := by
  have hr := rdE_of_own h.own (by rw [Array.length_toList, h.size])
  have hx := h.box
  have c0 : w.cell? ⟨c, 0, none⟩ = some (.slice (some ⟨blk, 0, none⟩) n cap) := by simp only [World.cell?, hx]; rfl
  have hdi : i < d.size := by rw [h.size]; exact hi
  have hdj : j < d.size := by rw [h.size]; exact hj
  have hei : d.toList[i]'(by simpa using hdi) = d[i]! := by simp [hdi]
  have hej : d.toList[j]'(by simpa using hdj) = d[j]! := by simp [hdj]
  obtain ⟨b1, o1, q1, -, hsi⟩ := hr.seven i (by simpa using hdi)
  obtain ⟨b2, o2, q2, -, hsj⟩ := hr.seven j (by simpa using hdj)
  injection q1 with q1
  injection q1 with q1 q1'
  injection q2 with q2
  injection q2 with q2 q2'
  subst q1 q1' q2 q2'
  rw [hei] at hsi
  rw [hej] at hsj
  obtain ⟨a0, a1, a2, a3, a4, a5, a6⟩ := hsi w (Below.refl _ _)
  obtain ⟨b0, b1, b2, b3, b4, b5, b6⟩ := hsj w (Below.refl _ _)
  simp only [Nat.zero_add] at a0 a1 a2 a3 a4 a5 a6 b0 b1 b2 b3 b4 b5 b6
  generalize d[i]! = x at *
  generalize d[j]! = y at *
  have hcl : c < w.heap.size := (Array.getElem?_eq_some_iff.1 hx).1
  have hbl : blk < w.heap.size := cell_lt a0
  clear hsi hsj hei hej hdi hdj hx hr h
  have mixed : Tryz.prog.follows .mixedOrders = true := by kernel_rfl
  have c0 := fun n os => cell_grown hcl c0 n os
  have a0 := fun n os => cell_grown hbl a0 n os
  have a1 := fun n os => cell_grown hbl a1 n os
  have a2 := fun n os => cell_grown hbl a2 n os
  have a3 := fun n os => cell_grown hbl a3 n os
  have a4 := fun n os => cell_grown hbl a4 n os
  have a5 := fun n os => cell_grown hbl a5 n os
  have a6 := fun n os => cell_grown hbl a6 n os
  have b0 := fun n os => cell_grown hbl b0 n os
  have b1 := fun n os => cell_grown hbl b1 n os
  have b2 := fun n os => cell_grown hbl b2 n os
  have b3 := fun n os => cell_grown hbl b3 n os
  have b4 := fun n os => cell_grown hbl b4 n os
  have b5 := fun n os => cell_grown hbl b5 n os
  have b6 := fun n os => cell_grown hbl b6 n os
  have hA := Lib.hid (fun W => aheadB_lt x y ▸ ahead_gr x.id x.kind x.qty x.price x.ofn x.day y.id y.kind y.qty y.price y.ofn y.day x.item y.item W)
  go_enter Tryz.func66, Tryz.ntmps66
  go_wp2_with fail
  go_quiet_grown (first | (go_at_call 67; refine Calls.grown_of ((hA.out _).mono fun _ _ h => ⟨h.1, h.2⟩)))
  go_wp2_with fail
  go_ret
  exact ⟨rfl, nq, osq, rfl⟩
noncomputable def ieE : TypeInfo := (Tryz.prog.info? 24).get (by kernel_rfl)
noncomputable def itE : TypeInfo := (Tryz.prog.info? 22).get (by kernel_rfl)
theorem ieE_is : Tryz.prog.info? 24 = some ieE := by kernel_rfl
theorem ieE_k (n : Nat) (h2 : 2 ≤ n) : Lib.swapperK n ieE 25 = 9 := by
  have a : ieE.hasPointers = true := by kernel_rfl
  have b : ieE.bytes = 64 := by kernel_rfl
  have c : (n == 0) = false := by simp; omega
  have d : (n == 1) = false := by simp; omega
  simp [Lib.swapperK, a, b, c, d]
set_option maxRecDepth 100000 in
theorem ord_swap (b0 blk c cap n : Nat) (d : Array Evt) (w : World) (i j : Nat) (h : OrR b0 blk c cap n d w) (hi : i < n) (hj : j < n) (hne : c ≠ blk) :
    ∃ w', (callFunc 133 (#[.int .i64 i, .int .i64 j] ++ #[.slice (some ⟨blk, 0, none⟩) n cap, typeHandle Tryz.prog 24])).run Tryz.prog w = .ok (.value (.tuple #[])) w' ∧ OrR b0 blk c cap n (swp d i j) w' ∧ w.grownBy w' (some blk) := by
  obtain ⟨hH, hbl⟩ := h.holds
  have hs := swapSwapsK_of_literal (P := Tryz.prog) false 133 (fun args W => run_callFunc_extern Tryz.func133 (by kernel_rfl) (by kernel_rfl) (by kernel_rfl) (e := Extern.ReflectliteSwapper.swap false) (by kernel_rfl) args W) 24 ieE ieE_is Evt.cells 7 cells_len (by kernel_rfl) agg_evt one_evt blk 0 n cap w d hH h.size i j hi hj
  have hw := (SWK.start hH).swap cells_len hbl i j (by rw [h.size]; exact hi) (by rw [h.size]; exact hj)
  exact ⟨_, hs, h.turned hw (by rw [size_swp]; exact h.size) hne, swk_gb hw⟩
theorem OrR.keep {b0 blk c cap n : Nat} {d : Array Evt} {w w' : World} (h : OrR b0 blk c cap n d w) (hb : Below w.heap.size w w') : OrR b0 blk c cap n d w' :=
  ⟨h.size, own_below h.own hb, (hb.block c (Array.getElem?_eq_some_iff.1 h.box).1).trans h.box⟩
theorem ord_srh (b0 blk c cap n : Nat) (hn : n ≤ 1000000000) (hne : c ≠ blk) : SrH blk n (ltOf cfE) 66 #[.pointer (some ⟨c, 0, none⟩)] 133 #[.slice (some ⟨blk, 0, none⟩) n cap, typeHandle Tryz.prog 24] (OrR b0 blk c cap n) where
  low _ _ h := h.holds.2
  keep _ _ _ h hb := h.keep hb
  eg := enters_of Tryz.func66 (by kernel_rfl) rfl
  less d w i j h _ hi hj := (ord_less b0 blk c cap n d w i j h hi hj hn).mono fun _ _ ⟨he, hg⟩ => ⟨he, h.keep (gr_bl hg), gbBs _ (gr_bl hg)⟩
  swap d w i j h _ hi hj := ord_swap b0 blk c cap n d w i j h hi hj hne
set_option maxRecDepth 100000 in
theorem ord_sort (b0 blk c cap n : Nat) (d : Array Evt) (w : World) (h : OrR b0 blk c cap n d w) (h2 : 2 ≤ n) (hn : n ≤ 1000000000) (hne : c ≠ blk) :
    Calls Tryz.prog 65 #[.iface 22 (.slice (some ⟨blk, 0, none⟩) n cap), .func (.func 66) #[] #[.pointer (some ⟨c, 0, none⟩)]] w fun e w' => e = .returned (.tuple #[]) ∧ (OrR b0 blk c cap n (Stb.stab (ltOf cfE) d n) w' ∧ w.grownBy w' (some blk)) := by
  refine Any.sort_SliceStable_of_stable Tryz.stabL 22 24 itE ieE (by kernel_rfl) (by kernel_rfl) (by kernel_rfl) ieE_is 25 (fun _ => by kernel_rfl) _ n cap (by omega) 133 (by rw [ieE_k _ h2]; kernel_rfl) _ _ _ w (fun w' => OrR b0 blk c cap n (Stb.stab (ltOf cfE) d n) w' ∧ w.grownBy w' (some blk)) ?_
  have hB : sliceBound Tryz.prog 24 ieE 25 (some ⟨blk, 0, none⟩) n cap = #[.slice (some ⟨blk, 0, none⟩) n cap, typeHandle Tryz.prog 24] := by
    unfold sliceBound; rw [if_neg (swapperK_gt _ _ _ h2)]
  rw [hB]
  unfold stableWorld
  have hb := (((Below.refl w.heap.size w).new (.cells #[.slice (some ⟨blk, 0, none⟩) n cap] 22)).new (.cells #[.pointer (some ⟨Tryz.prog.globals.size, 22, none⟩), .pointer (some ⟨w.heap.size, 0, none⟩), .int .u64 151] (Tryz.stabL_ren.t 36)))
  exact (stable_f (ord_srh b0 blk c cap n hn hne) d _ (h.keep hb) h.size (by omega)).mono fun _ _ ⟨he, hR, hG⟩ => ⟨he, hR, gbTs (gbBs _ hb) hG⟩
end Go.Proofs.YtpbbbiifeihkaaaGreatDoor
