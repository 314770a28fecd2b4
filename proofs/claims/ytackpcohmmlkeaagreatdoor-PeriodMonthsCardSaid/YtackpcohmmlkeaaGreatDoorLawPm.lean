/- PeriodMonths: the law's own walk. -/
import Derived.Test.YtackpcohmmlkeaaGreatDoorPdS
import Derived.Test.YtackpcohmmlkeaaGreatDoorCsR
import Derived.Test.YtackpcohmmlkeaaGreatDoorPrC
import Derived.Test.YtackpcohmmlkeaaGreatDoorOpenEs
namespace Go.Proofs.YtackpcohmmlkeaaGreatDoor
open Go.RowKit
set_option linter.unusedVariables false
set_option linter.unusedSimpArgs false

theorem moTop : Dy.moN 99999 = 3285 := by
  rw [Dy.moN_is (n := 99999) (y := 2173) (m := 10) (d := 15) (by unfold Dy.Is Dy.Ok; decide)]
  decide
theorem monF_mem (ps : List (Evt × Ln)) : ∀ q ∈ monF ps, ∃ p ∈ ps, q.1 = Dy.moN p.1.day := by
  have key : ∀ (ps : List (Evt × Ln)) (acc : List (Int × Fg)), ∀ q ∈ ps.foldl (fun acc p => monS acc p.1 p.2) acc, (∃ a ∈ acc, q.1 = a.1) ∨ ∃ p ∈ ps, q.1 = Dy.moN p.1.day := by
    intro ps
    induction ps with
    | nil => intro acc q hq; exact .inl ⟨q, hq, rfl⟩
    | cons p ps ih =>
      intro acc q hq
      rcases ih _ q (by simpa using hq) with ⟨a, ha, e⟩ | ⟨r, hr, e⟩
      · unfold monS at ha
        cases hg : acc.getLast? with
        | none =>
          rw [hg] at ha
          rw [List.mem_singleton.1 ha] at e
          exact .inr ⟨p, by simp, e⟩
        | some s =>
          rw [hg] at ha
          simp only at ha
          split at ha
          · rcases List.mem_append.1 ha with ha | ha
            · exact .inl ⟨a, List.dropLast_subset _ ha, e⟩
            · rw [List.mem_singleton.1 ha] at e
              exact .inl ⟨s, List.mem_of_getLast? hg, e⟩
          · rcases List.mem_append.1 ha with ha | ha
            · exact .inl ⟨a, ha, e⟩
            · rw [List.mem_singleton.1 ha] at e
              exact .inr ⟨p, by simp, e⟩
      · exact .inr ⟨r, List.mem_cons_of_mem _ hr, e⟩
  intro q hq
  rcases key ps [] q hq with ⟨a, ha, -⟩ | h
  · cases ha
  · exact h
theorem monE_top (es : List Evt) (hD : ∀ e ∈ es, 0 ≤ e.day ∧ e.day ≤ 99999) : ∀ q ∈ monE es, q.1 ≤ 3300 := by
  intro q hq
  obtain ⟨p, hp, e⟩ := monF_mem _ q hq
  have hm := (Stb.isort_mem leE_total leE_trans es p.1).1 (List.of_mem_zip hp).1
  have := Dy.moN_mono (hD _ hm).1 (hD _ hm).2 (Int.le_refl _)
  rw [moTop] at this
  omega
theorem zip_pair {α β : Type} {R : α → α → Prop} (l : List α) (m : List β) (h : l.Pairwise R) : (l.zip m).Pairwise fun a b => R a.1 b.1 := by
  induction l generalizing m with
  | nil => simp
  | cons a l ih =>
    cases m with
    | nil => simp
    | cons b m =>
      rw [List.zip_cons_cons, List.pairwise_cons]
      obtain ⟨h1, h2⟩ := List.pairwise_cons.1 h
      exact ⟨fun p hp => h1 _ (List.of_mem_zip hp).1, ih m h2⟩
theorem monE_asc (es : List Evt) (hD : ∀ e ∈ es, 0 ≤ e.day ∧ e.day ≤ 99999) : Asc (monE es) := by
  have hs := Stb.isort_sorted leE_total leE_trans es
  refine monF_asc _ ?_ (fun p hp => hD _ ((Stb.isort_mem leE_total leE_trans es p.1).1 (List.of_mem_zip hp).1))
  refine zip_pair (R := fun a b => a.day ≤ b.day) _ _ (List.Pairwise.imp (fun {a b} h => ?_) hs)
  rw [leE_iff] at h
  omega
set_option maxHeartbeats 8000000 in
set_option maxRecDepth 100000 in
theorem periodMonths_any (v : Value) (es : List Evt) (m : Int) (w : World) (hw : EW w) (hd : DW w) (hr : RdE w.heap.size w v es) (hsz : ∀ e ∈ es, e.item.size ≤ 9223372036854775807) (hlen : es.length ≤ 9223372036854775807) :
    Calls Tryz.prog 3 #[v, .int .i64 m] w (Gives (.bool true) w) := by
  have HH := Lib.hid (held_any w.heap.size v es w hr (Nat.le_refl _) hsz hlen)
  by_cases hH : (decide (es.length ≤ 40) && !es.any fun e => decide (60 < e.item.size)) = true
  case neg =>
    rw [Bool.not_eq_true] at hH
    rw [hH] at HH
    clear hr hsz hlen hH
    go_enter Tryz.func3, Tryz.ntmps3
    go_wp2_with fail
    refine HH.out.mono ?_
    rintro e w1 ⟨rfl, hb1⟩
    go_wp2_with fail
    go_ret
    exact ⟨rfl, hb1⟩
  rw [hH] at HH
  have h40 : es.length ≤ 40 := by
    simp only [Bool.and_eq_true, decide_eq_true_eq] at hH
    exact hH.1
  have h60 : ∀ e ∈ es, e.item.size ≤ 60 := by
    simp only [Bool.and_eq_true, Bool.not_eq_true', List.any_eq_false, decide_eq_true_eq] at hH
    intro e he
    have := hH.2 e he
    omega
  have HR := Lib.hid hr
  have HSZ : Hid (∀ e ∈ es, e.item.size ≤ 1000000) := Lib.hid fun e he => Nat.le_trans (h60 e he) (by omega)
  have HEW := Lib.hid hw
  have HDW := Lib.hid hd
  clear hr hsz hlen hH h60 hw hd
  go_enter Tryz.func3, Tryz.ntmps3
  go_wp2_with fail
  refine HH.out.mono ?_
  rintro e w1 ⟨rfl, hb1⟩
  go_wp2_with fail
  refine (shut_any w1 (HEW.out.below hb1) (HDW.out.below hb1)).mono ?_
  rintro e w2 ⟨rfl, hb2⟩
  have B2 := hb1.step hb2
  go_wp2_with fail
  refine (numbered_any w.heap.size v es w2 (HR.out.below B2) B2.size HSZ.out (by omega)).mono ?_
  rintro e w3 ⟨v3, rfl, ho3, hb3⟩
  have HB3 := Lib.hid (B2.step hb3)
  have R3 : RdE w3.heap.size w3 v3 (numF es) := rdE_of_own ho3 rfl
  have n40 : (numF es).length ≤ 40 := Nat.le_trans (numF_len es) h40
  have NR := Lib.hid (numF_right es)
  have NU := Lib.hid (numF_uniq es).1
  clear ho3 HR HSZ HH hb1 hb2 hb3 B2
  obtain ⟨N, hN⟩ : ∃ N, N = numF es := ⟨_, rfl⟩
  rw [← hN] at R3 n40 NR NU
  clear hN h40
  have ND : Hid (∀ e ∈ N, 0 ≤ e.day ∧ e.day ≤ 99999) := Lib.hid fun e he => day_bd (NR.out e he)
  obtain ⟨a3, c3, rfl⟩ := R3.shape
  have HD3 := Lib.hid (HDW.out.below HB3.out)
  have HMO := Lib.hid (pmonths_any a3 N.length c3 N w3 R3 HD3.out (by omega) NR.out ND.out NU.out)
  have HU : Hid (∀ z W, Below w3.heap.size w3 W → Calls Tryz.prog 12 #[.slice a3 N.length c3, .int .i64 z] W (Gives (allF N z).agg W)) := Lib.hid fun z W hW => until_any a3 N.length c3 N z W ((R3.below hW).mono hW.size) (HD3.out.below hW) (by omega) NR.out ND.out NU.out
  have hle := monE_le' N (by omega)
  have hta := fun z k => allF_take N z (by omega) k
  have hml := monE_len N
  have htop := monE_top N ND.out
  have hasc := monE_asc N ND.out
  unfold allF at HU
  generalize monE N = ms at HMO HU hle hta hml htop hasc
  have HLE := Lib.hid hle
  have HTA := Lib.hid hta
  have HTOP := Lib.hid htop
  have HASC := Lib.hid hasc
  clear R3 NR NU ND HD3 HDW HEW hle hta htop hasc
  go_wp2_with fail
  refine HMO.out.mono ?_
  rintro e w4 ⟨v4, rfl, ho4, hb4⟩
  obtain ⟨ya, yc, rfl⟩ := own_slice ho4
  have HO4 := Lib.hid ho4
  have HB4 := Lib.hid hb4
  have HBW4 := Lib.hid (HB3.out.step hb4)
  clear ho4 hb4 HMO
  go_wp2_with fail
  have h6 : ((w4.alloc (.cells #[.int .i64 0, .int .i64 0, .int .i64 0, .int .i64 0, .int .i64 0] 29)).alloc (.cells #[.int .i64 0, .int .i64 0, .int .i64 0, .int .i64 0, .int .i64 0] 29)).heap[w4.heap.size]? = some fg0.ob := (((Below.refl _ (w4.alloc (.cells #[.int .i64 0, .int .i64 0, .int .i64 0, .int .i64 0, .int .i64 0] 29))).new (.cells #[.int .i64 0, .int .i64 0, .int .i64 0, .int .i64 0, .int .i64 0] 29)).block w4.heap.size (by simp)).trans (World.alloc_heap_new w4 (.cells #[.int .i64 0, .int .i64 0, .int .i64 0, .int .i64 0, .int .i64 0] 29))
  have h7 : ((w4.alloc (.cells #[.int .i64 0, .int .i64 0, .int .i64 0, .int .i64 0, .int .i64 0] 29)).alloc (.cells #[.int .i64 0, .int .i64 0, .int .i64 0, .int .i64 0, .int .i64 0] 29)).heap[w4.heap.size + 1]? = some fg0.ob := by
    have := World.alloc_heap_new (w4.alloc (.cells #[.int .i64 0, .int .i64 0, .int .i64 0, .int .i64 0, .int .i64 0] 29)) (.cells #[.int .i64 0, .int .i64 0, .int .i64 0, .int .i64 0, .int .i64 0] 29)
    rwa [World.size_alloc] at this
  have hb5 : Below w4.heap.size w4 ((w4.alloc (.cells #[.int .i64 0, .int .i64 0, .int .i64 0, .int .i64 0, .int .i64 0] 29)).alloc (.cells #[.int .i64 0, .int .i64 0, .int .i64 0, .int .i64 0, .int .i64 0] 29)) := ((Below.refl _ w4).new _).new _
  have HB5 := Lib.hid hb5
  clear hb5
  generalize (w4.alloc (.cells #[.int .i64 0, .int .i64 0, .int .i64 0, .int .i64 0, .int .i64 0] 29)).alloc (.cells #[.int .i64 0, .int .i64 0, .int .i64 0, .int .i64 0, .int .i64 0] 29) = W5 at h6 h7 HB5 ⊢
  obtain ⟨X6, hX6⟩ : ∃ X6, X6 = w4.heap.size := ⟨_, rfl⟩
  rw [← hX6] at h6 h7 ⊢
  have hX6l : w4.heap.size ≤ X6 := Nat.le_of_eq hX6.symm
  clear hX6
  go_loopg [8] ms.length (fun kx i wr => ∃ k : Nat, k ≤ ms.length ∧ i = .int .i64 k ∧ ms.length - k ≤ kx ∧ wr.heap[X6]? = some (untilF (ms.take k) m).ob ∧ wr.heap[X6 + 1]? = some (untilF (ms.take k) 3300).ob ∧ Hid (Below w4.heap.size w4 wr))
  case atStart => exact ⟨0, by omega, rfl, by omega, h6, h7, HB5⟩
  case round =>
    obtain ⟨k, hk, rfl, hkx, h6, h7, HBR⟩ := hrel
    have H6 := Lib.hid h6
    have H7 := Lib.hid h7
    have h7l : X6 + 1 < wr.heap.size := (Array.getElem?_eq_some_iff.1 h7).1
    clear h6 h7
    by_cases hlt : k < ms.length
    · have hltz : (k : Int) < (ms.length : Int) := by omega
      obtain ⟨g, hg1, hg2, hg3, hgc⟩ := own_mn HO4.out k hlt
      subst hg1
      obtain ⟨g0, g1, g2, g3, g4, g5⟩ := hgc wr HBR.out
      have hgr : g < wr.heap.size := cell_lt g0
      have hS : Hid (untilF (ms.take (k + 1)) m = if ms[k].1 ≤ m then (untilF (ms.take k) m).plus ms[k].2 else untilF (ms.take k) m) := Lib.hid (by rw [List.take_succ_eq_append_getElem hlt, untilF_snoc])
      have hA : Hid (untilF (ms.take (k + 1)) 3300 = (untilF (ms.take k) 3300).plus ms[k].2) := Lib.hid (by rw [List.take_succ_eq_append_getElem hlt, untilF_snoc, if_pos (HTOP.out _ (List.getElem_mem hlt))])
      have hq := HLE.out ms[k] (List.getElem_mem hlt)
      have hf := HTA.out m k
      have hf2 := HTA.out 3300 k
      have HPREV : Hid (∀ j (hj : j + 1 = k), ∃ q, (∀ W, Below w4.heap.size w4 W → W.cell? ⟨g, j * 6, none⟩ = some (.int .i64 q)) ∧ q < ms[k].1) := Lib.hid (fun j hj => by
        obtain ⟨g', hg1', -, -, hgc'⟩ := own_mn HO4.out j (by omega)
        injection hg1' with e1
        injection e1 with e1
        subst e1
        exact ⟨ms[j].1, fun W hW => (hgc' W hW).1, List.pairwise_iff_getElem.1 HASC.out j k (by omega) hlt (by omega)⟩)
      generalize ms[k] = q at g0 g1 g2 g3 g4 g5 hS hA hq HPREV hgc
      generalize untilF (ms.take k) m = f at H6 hS hf
      generalize untilF (ms.take k) 3300 = fa at H7 hA hf2
      have HGC : Hid (∀ W, Below w4.heap.size w4 W → W.cell? ⟨g, k * 6, none⟩ = some (.int .i64 q.1) ∧ W.cell? ⟨g, k * 6 + 1, none⟩ = some (.int .i64 q.2.i) ∧ W.cell? ⟨g, k * 6 + 2, none⟩ = some (.int .i64 q.2.o) ∧ W.cell? ⟨g, k * 6 + 3, none⟩ = some (.int .i64 q.2.l) ∧ W.cell? ⟨g, k * 6 + 4, none⟩ = some (.int .i64 q.2.g) ∧ W.cell? ⟨g, k * 6 + 5, none⟩ = some (.int .i64 q.2.t)) := Lib.hid hgc
      clear hgc
      have hord : (k = 0 ∧ True) ∨ ∃ j, j + 1 = k := by
        rcases k with _ | j
        · exact .inl ⟨rfl, trivial⟩
        · exact .inr ⟨j, rfl⟩
      have HPL : Hid (∀ W, Calls Tryz.prog 11 #[f.agg, q.2.agg] W fun r w' => r = .returned (f.plus q.2).agg ∧ Below W.heap.size W w') := Lib.hid (fun W => fplus_any f q.2 W (Fg.le_mono hf (by omega)) (Fg.le_mono hq (by omega)))
      have HPA : Hid (∀ W, Calls Tryz.prog 11 #[fa.agg, q.2.agg] W fun r w' => r = .returned (fa.plus q.2).agg ∧ Below W.heap.size W w') := Lib.hid (fun W => fplus_any fa q.2 W (Fg.le_mono hf2 (by omega)) (Fg.le_mono hq (by omega)))
      obtain ⟨KK, hKK⟩ : ∃ KK, KK = k := ⟨_, rfl⟩
      rcases hord with ⟨rfl, -⟩ | ⟨j, rfl⟩
      case' inl =>
        have hgd : decide ((0 : Int) < ((0 : Nat) : Int)) = false := by decide
        go_wp2_with fail
        go_quiet (fail)
      case' inr =>
        have hgd : decide ((0 : Int) < ((j + 1 : Nat) : Int)) = true := decide_eq_true (by omega)
        have hj1 : ((j + 1 : Nat) : Int) - 1 = (j : Int) := by omega
        have hjl : (j : Int) < (ms.length : Int) := by omega
        obtain ⟨q', hq', hlt'⟩ := HPREV.out j rfl
        have p0 := hq' wr HBR.out
        have hge : decide (q.1 ≤ q') = false := decide_eq_false (by omega)
        clear hq'
        go_wp2_with fail
        go_quiet (fail)
      all_goals
        have hbq : Below wr.heap.size wr (wr.drewN nq) := below_drewN (Below.refl _ _) _
        generalize wr.drewN nq = wq at hbq ⊢
        have H6q := Lib.hid ((hbq.block X6 (by omega)).trans H6.out)
        have H7q := Lib.hid ((hbq.block (X6 + 1) h7l).trans H7.out)
        have HBq := Lib.hid (HBR.out.step hbq)
        have hgq : g < wq.heap.size := by have := hbq.size; omega
        have h7q : X6 + 1 < wq.heap.size := by have := hbq.size; omega
        clear g0 g1 g2 g3 g4 g5 H6 H7 HBR HPREV hbq h7l hgr hgd
        obtain ⟨g0, g1, g2, g3, g4, g5⟩ := HGC.out wq HBq.out
        by_cases hqm : q.1 ≤ m
        case' pos =>
          rw [if_pos hqm] at hS
          obtain ⟨c0, c1, c2, c3, c4⟩ := fig_cells H6q.out
          have hX6q : X6 < wq.heap.size := by omega
          go_wp2_with fail
          have hcs := fun (p : Since wq) b o h => Since.cells p b o h
          refine wp_region_since_tail 7 (by kernel_rfl) (by kernel_rfl) ?_
          simp only [List.take_succ_cons, List.take_zero, List.drop_succ_cons, List.drop_zero]
          iterate 7 (go_big_quiet_step (with_reducible exact Calls.since_of (HPL.out _)))
          refine wpQuiet_nil ?_
          intro w8 hw8
          obtain ⟨pp, hp8⟩ := hw8
          have hb8 : Below wq.heap.size wq w8 := by rw [hp8]; exact pp.h
          clear hp8 pp hcs c0 c1 c2 c3 c4 g0 g1 g2 g3 g4 g5
          generalize f.plus q.2 = f2 at hS ⊢
          have h68 := (hb8.block X6 hX6q).trans H6q.out
          have HT : w8.there X6 0 f2.cells.toArray.size := fig_there h68 rfl
          have HG := setCells_gb X6 f2.cells 0 w8
          have h6z := fig_set h68 rfl f2
          have h7z := (HG.block (X6 + 1) (by have := hb8.size; omega) (fun e => by injection e with e; omega)).trans ((hb8.block (X6 + 1) h7q).trans H7q.out)
          have hbz := below_gbP (HBq.out.step hb8) HG hX6l (HBq.out.step hb8).size
          clear HG h68 hb8 H6q H7q HBq
          go_wp2_with (show Go.wpList _ _ _ ({ op := Go.Op.store _ _ _, .. } :: _) _ _; refine wpList_store_mid rfl 29 (.tmp 6) (.tmp 53) rfl X6 0 f2.cells.toArray rfl rfl HT (by kernel_rfl) (all_oneCell_toArray (one_fg f2)) ?_; show Go.wpList _ _ _ _ _ (w8.setCells X6 0 f2.cells); generalize w8.setCells X6 0 f2.cells = wz at h6z h7z hbz ⊢; clear HT)
        case' neg =>
          rw [if_neg hqm] at hS
          have h6z := H6q.out
          have h7z := H7q.out
          have hbz := HBq.out
          clear H6q H7q HBq
          obtain ⟨wz, rfl⟩ : ∃ wz, wz = wq := ⟨_, rfl⟩
          obtain ⟨f2, rfl⟩ : ∃ f2, f2 = f := ⟨_, rfl⟩
          go_wp2_with fail
          clear g0 g1 g2 g3 g4 g5
        all_goals
          show Go.Code.wp _ _ _ ⟨_, _⟩ _
          have H6z := Lib.hid h6z
          have HBZ := Lib.hid hbz
          obtain ⟨c0, c1, c2, c3, c4⟩ := fig_cells h7z
          obtain ⟨g0, g1, g2, g3, g4, g5⟩ := HGC.out wz hbz
          have hX7z : X6 + 1 < wz.heap.size := cell_lt c0
          have hgz : g < wz.heap.size := cell_lt g0
          have H7z := Lib.hid h7z
          clear h6z h7z hbz
          have hcs := fun (p : Since wz) b o h => Since.cells p b o h
          refine wp_region_since_tail 7 (by kernel_rfl) (by kernel_rfl) ?_
          simp only [List.take_succ_cons, List.take_zero, List.drop_succ_cons, List.drop_zero]
          iterate 7 (go_big_quiet_step (with_reducible exact Calls.since_of (HPA.out _)))
          refine wpQuiet_nil ?_
          intro w8 hw8
          obtain ⟨pp, hp8⟩ := hw8
          have hb8 : Below wz.heap.size wz w8 := by rw [hp8]; exact pp.h
          clear hp8 pp hcs c0 c1 c2 c3 c4 g0 g1 g2 g3 g4 g5
          generalize fa.plus q.2 = fa2 at hA ⊢
          have h78 := (hb8.block (X6 + 1) hX7z).trans H7z.out
          have HT : w8.there (X6 + 1) 0 fa2.cells.toArray.size := fig_there h78 rfl
          have HG := setCells_gb (X6 + 1) fa2.cells 0 w8
          have h7y := Lib.hid (fig_set h78 rfl fa2)
          have h6y := Lib.hid ((HG.block X6 (by have := hb8.size; omega) (fun e => by injection e with e; omega)).trans ((hb8.block X6 (by omega)).trans H6z.out))
          have hby := Lib.hid (below_gbP (HBZ.out.step hb8) HG (by omega) (HBZ.out.step hb8).size)
          clear HG h78 hb8 H6z H7z HBZ
          go_wp2_with (show Go.wpList _ _ _ ({ op := Go.Op.store _ _ _, .. } :: _) _ _; refine wpList_store_mid rfl 29 (.tmp 7) (.tmp 60) rfl (X6 + 1) 0 fa2.cells.toArray rfl rfl HT (by kernel_rfl) (all_oneCell_toArray (one_fg fa2)) ?_)
          go_roundg (ms.length - (KK + 1))
          case measure => omega
          case rel =>
            subst hKK
            refine ⟨_ + 1, hlt, by first | rfl | go_num | (congr 1; omega), Nat.le_refl _, ?_, ?_, hby⟩
            · rw [hS.out]; exact h6y.out
            · rw [hA.out]; exact h7y.out
    · have hltz : ¬ (k : Int) < (ms.length : Int) := by omega
      have hke : ms.take k = ms := List.take_of_length_le (by omega)
      rw [hke] at H6 H7
      have hf := HTA.out m ms.length
      have hf2 := HTA.out 3300 ms.length
      rw [List.take_length] at hf hf2
      have HU1 := Lib.hid (HU.out m)
      have HU2 := Lib.hid (HU.out 3300)
      generalize untilF ms m = f at H6 hf HU1
      generalize untilF ms 3300 = fa at H7 hf2 HU2
      have HQ1 : Hid (∀ (p : Since wr), Calls Tryz.prog 12 #[.slice a3 N.length c3, .int .i64 m] p.w' (Gives f.agg p.w')) := Lib.hid fun p => HU1.out _ ((HB4.out.step HBR.out).step p.h)
      have HQ2 : Hid (∀ (p : Since wr), Calls Tryz.prog 12 #[.slice a3 N.length c3, .int .i64 3300] p.w' (Gives fa.agg p.w')) := Lib.hid fun p => HU2.out _ ((HB4.out.step HBR.out).step p.h)
      have HPL : Hid (∀ W, Calls Tryz.prog 11 #[f.agg, fa.agg] W (Gives (f.plus fa).agg W)) := Lib.hid (fun W => fplus_any f fa W (Fg.le_mono hf (by omega)) (Fg.le_mono hf2 (by omega)))
      have HMN : Hid (∀ W, Calls Tryz.prog 13 #[(f.plus fa).agg, fa.agg] W (Gives f.agg W)) := Lib.hid (fun W => by
        have h := fminus_any (f.plus fa) fa W (Fg.le_mono (Fg.le_plus hf hf2) (by omega)) (Fg.le_mono hf2 (by omega))
        rwa [Fg.plus_minus] at h)
      generalize f.plus fa = fp at HPL HMN
      obtain ⟨c0, c1, c2, c3', c4⟩ := fig_cells H6.out
      obtain ⟨d0, d1, d2, d3, d4⟩ := fig_cells H7.out
      have hX6l : X6 < wr.heap.size := by omega
      have HEND := Lib.hid (HBW4.out.step HBR.out)
      clear H6 H7 hf hf2 HU1 HU2 HU HTA HLE HTOP HASC HO4 HB3 HB4
      go_wp2_with fail
      have hcs := fun (p : Since wr) b o h => Since.cells p b o h
      refine wp_region_since (by kernel_rfl) (by kernel_rfl) ?_
      iterate 21 (go_big_quiet_step (first | (with_reducible exact Calls.since_of (HQ1.out _)) | (with_reducible exact Calls.since_of (HQ2.out _)) | (with_reducible exact Calls.since_of (HPL.out _)) | (with_reducible exact Calls.since_of (HMN.out _))))
      refine wpQuiet_nil ?_
      intro w8 hw8
      obtain ⟨pp, hp8⟩ := hw8
      have hb8 : Below wr.heap.size wr w8 := by rw [hp8]; exact pp.h
      clear hp8 pp hcs
      go_wp2_with fail
      go_ret
      exact ⟨rfl, HEND.out.step hb8⟩
theorem periodMonths_all (v : Value) (es : List Evt) (m : Int) (w : World) (h : EW w ∧ DW w) (hr : RdE w.heap.size w v es) (hb : ∀ e ∈ es, EvBd e) (hl : es.length ≤ maxLen) (_ : (Lit.int .i64 m).wf = true) :
    Calls Tryz.prog 3 #[v, .int .i64 m] w (Gives (.bool true) w) :=
  periodMonths_any v es m w h.1 h.2 hr (fun e he => Nat.le_trans (hb e he).1 (by unfold maxLen; omega)) (Nat.le_trans hl (by unfold maxLen; omega))
end Go.Proofs.YtackpcohmmlkeaaGreatDoor
