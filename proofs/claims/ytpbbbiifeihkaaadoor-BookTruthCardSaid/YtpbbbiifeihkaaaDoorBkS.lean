/- slices.SortFunc(es, event.Compare) at events whose numbers are apart: the same row holds them in their order. -/
import Derived.Test.YtpbbbiifeihkaaaDoorEvS
import Derived.Test.YtpbbbiifeihkaaaDoorEvU
import Derived.Test.YtpbbbiifeihkaaaDoorSortK
namespace Go.Proofs.YtpbbbiifeihkaaaDoor
open Go.Shelf Go.RowKit Go.Lib Go.Sort
set_option linter.unusedVariables false
set_option linter.unusedSimpArgs false

theorem lt_leE (x y : Evt) : ltOf cfE x y = !leE y x := by simp [leE, Stb.leOf]
theorem lt_iff (x y : Evt) : ltOf cfE x y = true ↔ ¬ (y.day < x.day ∨ (y.day = x.day ∧ (y.kind < x.kind ∨ (y.kind = x.kind ∧ y.id ≤ x.id)))) := by
  rw [lt_leE, ← leE_iff]; simp
theorem lt_niff (x y : Evt) : ltOf cfE x y = false ↔ (y.day < x.day ∨ (y.day = x.day ∧ (y.kind < x.kind ∨ (y.kind = x.kind ∧ y.id ≤ x.id)))) := by
  rw [lt_leE, ← leE_iff]; simp
theorem swoE : SWO (ltOf cfE) where
  irrefl x := by rw [lt_niff]; omega
  trans x y z h1 h2 := by rw [lt_iff] at *; omega
  ntrans x y z h1 h2 := by rw [lt_niff] at *; omega
/-- The one order. -/
theorem sorted_isort {es : List Evt} {d' : Array Evt} (hu : Uniq es) (hp : PermIn 0 es.toArray.size es.toArray d') (hs : SortedIn (ltOf cfE) 0 es.toArray.size d') : d' = (Stb.isort leE es).toArray := by
  obtain ⟨hsz, -, hperm⟩ := hp
  have e1 : d'.extract 0 es.toArray.size = d' := by rw [← hsz]; exact Array.extract_size
  rw [e1, Array.extract_size] at hperm
  apply Array.ext'
  simp only at hperm ⊢
  refine List.Perm.eq_of_pairwise (le := fun x y => leE x y = true) ?_ ?_ (Stb.isort_sorted leE_total leE_trans es) (hperm.trans (isort_perm es).symm)
  · intro a b ha hb h1 h2
    exact hu.eq (hperm.mem_iff.1 ha) ((isort_perm es).mem_iff.1 hb) (leE_anti h1 h2)
  · rw [List.pairwise_iff_getElem]
    intro i j hi hj hij
    have := hs i j (Nat.zero_le _) hij (by rw [← hsz]; simpa using hj)
    rw [lt_leE] at this
    simp only [Bool.not_eq_false'] at this
    have hi' : i < d'.size := by simpa using hi
    have hj' : j < d'.size := by simpa using hj
    rw [getElem!_pos d' i hi', getElem!_pos d' j hj'] at this
    simpa using this
theorem own_sorted {w W : World} {base g cap : Nat} {cur : Array Value} {es ts : List Evt} (hb : base ≤ g) (hc : w.heap[g]? = some (.cells cur 34 (0, 0))) (hn : es.length ≤ cap) (hm : cap ≤ maxLen) (hs : cur.size = cap * 7) (hS : SWK Evt.cells 7 w g 0 ts.toArray W) (hl : ts.length = es.length) :
    W.ownsRow base 34 7 (.slice (some ⟨g, 0, none⟩) es.length cap) es.length (flE ts) := by
  obtain ⟨m, os, rfl⟩ := hS
  have hgl : g < w.heap.size := (Array.getElem?_eq_some_iff.1 hc).1
  refine ⟨by rw [flE_len, hl], .inr ⟨g, cap, putCells id 0 (flatK Evt.cells 7 ts.toArray) cur, rfl, hb, ?_, hn, hm, by simp [putCells, hs], ?_⟩⟩
  · show (((Sort.ahead w m).heap.modify g _) ++ os)[g]? = _
    rw [Array.getElem?_append, if_pos (by simp only [Array.size_modify]; exact hgl), Array.getElem?_modify, if_pos rfl]
    show Option.map _ w.heap[g]? = _
    rw [hc]
    rfl
  · refine List.ext_getElem? fun j => ?_
    by_cases hj : j < es.length * 7
    · have hjc : j < cur.size := by rw [hs]; exact Nat.lt_of_lt_of_le hj (Nat.mul_le_mul_right _ hn)
      have hj2 : j < ts.toArray.size * 7 := by simpa [hl] using hj
      have hi : j / 7 < ts.length := by omega
      rw [List.getElem?_take_of_lt hj, Array.getElem?_toList, flE_get, List.getElem?_eq_getElem hi]
      have hm7 : j % 7 < ts[j / 7].cells.length := by rw [cells_len]; omega
      simp only [Option.bind_some]
      rw [List.getElem?_eq_getElem hm7]
      simp only [putCells, Array.getElem?_mapIdx, Nat.zero_le, true_and, Nat.zero_add, size_flatK, hj2, if_true, Nat.sub_zero, id]
      rw [get_flatK _ _ _ _ hj2, Array.getElem?_eq_getElem hjc]
      simp [hi, hm7]
    · rw [List.getElem?_eq_none (by simp; omega), List.getElem?_eq_none (by rw [flE_len, hl]; omega)]
theorem insE_none (fv : Value) (w : World) : Calls Tryd.prog 29 #[.slice none 0 0, .int .i64 0, .int .i64 0, fv] w fun e w' => e = .returned (.tuple #[]) ∧ w' = w := by
  go_enter Tryd.func29, Tryd.ntmps29
  go_wp2
  refine wp_loop_rounds 1 ?_
  rw [rounds_succ]
  go_wp2
  go_end0
  exact ⟨rfl, rfl⟩
set_option maxHeartbeats 1000000 in
theorem pdqE_none (lim : Int) (fv : Value) (w : World) : Calls Tryd.prog 20 #[.slice none 0 0, .int .i64 0, .int .i64 0, .int .i64 lim, fv] w fun e w' => e = .returned (.tuple #[]) ∧ w' = w := by
  have H := Lib.hid (fun w => insE_none fv w)
  go_enter Tryd.func20, Tryd.ntmps20
  go_wp2
  refine wp_loop_rounds 1 ?_
  rw [rounds_succ]
  go_wp2_with (go_at_call 29; refine (H.out _).mono ?_; rintro e w' ⟨rfl, rfl⟩)
  (try simp only [Exit.inBlock, Exit.then]); refine bodyPost_ret (results_none rfl _ _ _) rfl ?_
  exact ⟨rfl, rfl⟩
set_option maxHeartbeats 1000000 in
theorem sortE_none (g : Nat) (w : World) : Calls Tryd.prog 12 #[.slice none 0 0, .func (.func g) #[] #[]] w fun e w' => e = .returned (.tuple #[]) ∧ w' = w := by
  have H := Lib.hid (fun lim w => pdqE_none lim (.func (.func g) #[] #[]) w)
  have hl : ∀ W, Calls Tryd.prog 21 #[.int .u64 0] W fun e w' => e = .returned (.int .i64 (Lib.bitLen 0 : Nat)) ∧ w' = W := fun W => by
    have L := Tryd.sortL
    have h := Any.bits_Len (SlLaysF0.n15.bits (P := Tryd.prog) (ρ := Tryd.sortL_ren) { L with }) 0 W (by omega) (by omega)
    exact h
  go_enter Tryd.func12, Tryd.ntmps12
  go_wp2_with (first | (go_at_call 21; refine (hl _).mono ?_; rintro e w' ⟨rfl, rfl⟩) | (go_at_call 20; refine (H.out _ _).mono ?_; rintro e w' ⟨rfl, rfl⟩))
  go_end0
  exact ⟨rfl, rfl⟩
set_option maxHeartbeats 1000000 in
theorem sortE_any (base : Nat) (v : Value) (es : List Evt) (w : World) (hlen : es.length ≤ 1000000000) (hu : Uniq es) (ho : w.ownsRow base 34 7 v es.length (flE es)) (hbase : base ≤ w.heap.size) :
    Calls Tryd.prog 12 #[v, .func (.func 13) #[] #[]] w fun e w' => e = .returned (.tuple #[]) ∧ Below base w w' ∧ w'.ownsRow base 34 7 v es.length (flE (Stb.isort leE es)) := by
  rcases ho.2 with ⟨rfl, hn⟩ | ⟨g, cap, cur, rfl, hg1, hg, hn, hcap, hsz, ht⟩
  · have he : es = [] := List.length_eq_zero_iff.1 hn
    subst he
    refine (sortE_none 13 w).mono ?_
    rintro e w' ⟨rfl, rfl⟩
    exact ⟨rfl, Below.refl _ _, ho⟩
  · have hgl : g < w.heap.size := (Array.getElem?_eq_some_iff.1 hg).1
    have hH := holds_of_own hg ht
    have hsz1 : es.toArray.size = es.length := by simp
    have H0 := AnyQ.slices_SortFunc Tryd.sortL 7 agg_evt size_evt Evt.cells cells_len one_evt cfE swoE 13 #[] g 0 cap es.toArray w (enters_of Tryd.func13 (by kernel_rfl) rfl) (cmp_lays _ _ _ _) hH hgl (by simp; omega)
    rw [hsz1] at H0
    refine H0.mono ?_
    rintro e w' ⟨rfl, d', n, os, hp, hs, hw⟩
    have hd := sorted_isort hu (by rw [hsz1]; exact hp) (by rw [hsz1]; exact hs)
    have hS : SWK Evt.cells 7 w g 0 (Stb.isort leE es).toArray w' := ⟨n, os, by rw [hw, hd]⟩
    exact ⟨rfl, below_sort hg1 hbase hS, own_sorted hg1 hg hn hcap hsz hS (isort_perm es).length_eq⟩
end Go.Proofs.YtpbbbiifeihkaaaDoor
