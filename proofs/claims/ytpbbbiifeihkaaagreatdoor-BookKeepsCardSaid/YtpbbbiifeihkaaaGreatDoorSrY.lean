/- sort.symMerge_func over an abstract row. -/
import Derived.Test.YtpbbbiifeihkaaaGreatDoorSrW
import Derived.Deep.DeepCutAuto
namespace Go.Proofs.YtpbbbiifeihkaaaGreatDoor
open Go.RowKit Go.Lib Go.Sort
set_option linter.unusedVariables false
set_option linter.unusedSimpArgs false
variable {α : Type} [Inhabited α]
section
variable {blk n : Nat} {lt : α → α → Bool} {g : Nat} {cb : Array Value} {sf : Nat} {sb : Array Value} {R : Array α → World → Prop}

set_option maxHeartbeats 4000000 in
set_option maxRecDepth 100000 in
theorem symA_f (H : SrH blk n lt g cb sf sb R) (a m b : Nat) (d : Array α) (w : World) (hR : R d w) (hd : d.size = n) (ham : a < m) (h1m : m - a = 1) (hmb : m < b) (hb : b ≤ n) (hn : n < 4611686018427387904) :
    Calls Tryz.prog 135 #[.agg #[.func (.func g) #[] cb, .func (.func sf) #[] sb], .int .i64 a, .int .i64 m, .int .i64 b] w fun e w' => e = .returned (.tuple #[]) ∧ R (Stb.upRun d a (Stb.bs (fun h => lt d[h]! d[a]!) m b - 1)) w' ∧ w.grownBy w' (some blk) := by
  have hlw := H.low d w hR
  have eg := H.eg
  have hbx := (Below.refl w.heap.size w).new (.cells #[.func (.func g) #[] cb, .func (.func sf) #[] sb] 167)
  have HX0 := Lib.hid (World.alloc_heap_new w (.cells #[.func (.func g) #[] cb, .func (.func sf) #[] sb] 167))
  have HR0 := Lib.hid (H.keep d w _ hR hbx)
  have HG0 := Lib.hid (gbBs (some blk) hbx)
  clear hbx hR
  have em : (m : Int) - (a : Int) = 1 := by omega
  clear h1m
  go_enter Tryz.func135, Tryz.ntmps135
  go_wp2_with fail
  generalize w.alloc (.cells #[.func (.func g) #[] cb, .func (.func sf) #[] sb] 167) = W0 at HX0 HR0 HG0 ⊢
  generalize w.heap.size = X at HX0 hlw ⊢

  go_loopg [8, 9] (b - m) (fun kx s8 s9 wr => ∃ i j : Nat, s8 = .int .i64 i ∧ s9 = .int .i64 j ∧ m ≤ i ∧ i ≤ j ∧ j ≤ b ∧ j - i ≤ kx ∧ Hid (R d wr) ∧ Hid (w.grownBy wr (some blk)) ∧ Hid (wr.heap[X]? = some (.cells #[.func (.func g) #[] cb, .func (.func sf) #[] sb] 167)) ∧ Hid (Stb.bs (fun h => lt d[h]! d[a]!) i j = Stb.bs (fun h => lt d[h]! d[a]!) (m) (b)))
  case atStart => exact ⟨m, b, rfl, rfl, by omega, by omega, by omega, by omega, HR0, HG0, HX0, rfl⟩
  case round =>
    obtain ⟨i, j, rfl, rfl, hi1, hi2, hi3, hkx, HR, HG, HX, HE⟩ := hrel
    have hXl : X < wr.heap.size := (Array.getElem?_eq_some_iff.1 HX.out).1
    have hXw := HX.out
    have x0 : wr.cell? ⟨X, 0, none⟩ = some (.func (.func g) #[] cb) := by simp only [World.cell?, hXw]; rfl
    have x1 : wr.cell? ⟨X, 1, none⟩ = some (.func (.func sf) #[] sb) := by simp only [World.cell?, hXw]; rfl
    clear hXw
    by_cases hlt : i < j
    · have hltz : (i : Int) < (j : Int) := by omega
      obtain ⟨h, hh⟩ : ∃ h, h = (i + j) / 2 := ⟨_, rfl⟩
      have eh : ((i : Int) + (j : Int)) / 2 = (h : Int) := by omega
      have bh : 2 * h ≤ i + j ∧ i + j ≤ 2 * h + 1 := by omega
      have Hh : Hid (h = (i + j) / 2) := Lib.hid hh
      clear hh
      have HL := Lib.hid (H.less d wr (h) (a) HR.out hd (by omega) (by omega))
      rw [show ((h : Nat) : Int) = (h : Int) by omega, show ((a : Nat) : Int) = (a : Int) by omega] at HL
      cases hl : lt d[h]! d[a]! with
      | true =>
        rw [hl] at HL
        have HHL := Lib.hid hl
        clear hl
        go_wp2_with fail
        refine HL.out.mono ?_
        rintro e w2 ⟨rfl, hR2, hG2⟩
        have HX2 : Hid (w2.heap[X]? = some (.cells #[.func (.func g) #[] cb, .func (.func sf) #[] sb] 167)) := Lib.hid ((hG2.block X hXl (by intro e; cases e; omega)).trans HX.out)
        have HR2 := Lib.hid hR2
        have HG2 := Lib.hid (gbTs HG.out hG2)
        clear hR2 hG2 x0 x1
        go_wp2_with fail
        go_roundg (j - (h + 1))
        case measure => omega
        case rel =>
          refine ⟨h + 1, j, by first | rfl | go_num | (congr 1; omega), rfl, by omega, by omega, by omega, Nat.le_refl _, HR2, HG2, HX2, (show Hid _ from ?_)⟩
          show _ = _
          rw [← HE.out]
          conv => rhs; rw [Stb.bs, if_pos hlt, ← Hh.out, if_pos (show (lt d[h]! d[a]!) = true by rw [HHL.out])]
      | false =>
        rw [hl] at HL
        have HHL := Lib.hid hl
        clear hl
        go_wp2_with fail
        refine HL.out.mono ?_
        rintro e w2 ⟨rfl, hR2, hG2⟩
        have HX2 : Hid (w2.heap[X]? = some (.cells #[.func (.func g) #[] cb, .func (.func sf) #[] sb] 167)) := Lib.hid ((hG2.block X hXl (by intro e; cases e; omega)).trans HX.out)
        have HR2 := Lib.hid hR2
        have HG2 := Lib.hid (gbTs HG.out hG2)
        clear hR2 hG2 x0 x1
        go_wp2_with fail
        go_roundg (h - i)
        case measure => omega
        case rel =>
          refine ⟨i, h, rfl, by first | rfl | (congr 1; omega), by omega, by omega, by omega, Nat.le_refl _, HR2, HG2, HX2, (show Hid _ from ?_)⟩
          show _ = _
          rw [← HE.out]
          conv => rhs; rw [Stb.bs, if_pos hlt, ← Hh.out, if_neg (show ¬ (lt d[h]! d[a]!) = true by rw [HHL.out]; simp)]
    · have hltz : ¬ (i : Int) < (j : Int) := by omega
      have hij : i = j := by omega
      subst hij
      have hbs : i = _ := (show Stb.bs _ i i = i by rw [Stb.bs, if_neg (Nat.lt_irrefl i)]).symm.trans HE.out
      clear x0 x1
      have hi4 : m ≤ i := hi1
      go_wp2_with fail
      go_loopg [11] i (fun ky s11 wi => ∃ (k : Nat) (dk : Array α), s11 = .int .i64 k ∧ a ≤ k ∧ i - k ≤ ky ∧ dk.size = n ∧ Hid (R dk wi) ∧ Hid (w.grownBy wi (some blk)) ∧ Hid (wi.heap[X]? = some (.cells #[.func (.func g) #[] cb, .func (.func sf) #[] sb] 167)) ∧ Hid (Stb.upRun dk k (i - 1) = Stb.upRun d a (i - 1)))
      case atStart => exact ⟨a, d, rfl, Nat.le_refl _, by omega, hd, HR, HG, HX, rfl⟩
      case round =>
        obtain ⟨k, dk, rfl, hak, hky, hdk, HRK, HGK, HXK, HEK⟩ := hrel
        have hXl : X < wr.heap.size := (Array.getElem?_eq_some_iff.1 HXK.out).1
        have hXw := HXK.out
        have x0 : wr.cell? ⟨X, 0, none⟩ = some (.func (.func g) #[] cb) := by simp only [World.cell?, hXw]; rfl
        have x1 : wr.cell? ⟨X, 1, none⟩ = some (.func (.func sf) #[] sb) := by simp only [World.cell?, hXw]; rfl
        clear hXw
        by_cases hlk : k < i - 1
        · have hlkz : (k : Int) < (i : Int) - 1 := by omega
          obtain ⟨w3, hsw, hR3, hG3⟩ := H.swap dk wr k (k + 1) HRK.out hdk (by omega) (by omega)
          rw [show ((k + 1 : Nat) : Int) = (k : Int) + 1 by omega] at hsw
          have HX3 : Hid (w3.heap[X]? = some (.cells #[.func (.func g) #[] cb, .func (.func sf) #[] sb] 167)) := Lib.hid ((hG3.block X hXl (by intro e; cases e; omega)).trans HXK.out)
          have HR3 := Lib.hid hR3
          have HG3 := Lib.hid (gbTs HGK.out hG3)
          clear hR3 hG3
          go_wp2_with fail
          go_roundg (i - (k + 1))
          case measure => omega
          case rel =>
            refine ⟨k + 1, swp dk k (k + 1), by first | rfl | go_num | (congr 1; omega), by omega, Nat.le_refl _, by rw [size_swp]; exact hdk, HR3, HG3, HX3, (show Hid _ from ?_)⟩
            show _ = _
            rw [← HEK.out]
            conv => rhs; rw [Stb.upRun, if_pos hlk]
        · have hlkz : ¬ (k : Int) < (i : Int) - 1 := by omega
          go_wp2_with fail
          (try simp only [Exit.inBlock, Exit.then]); refine bodyPost_ret (results_none rfl _ _ _) rfl ?_
          have h1 := HEK.out
          rw [Stb.upRun, if_neg hlk] at h1
          refine ⟨rfl, ?_, HGK.out⟩
          rw [← hbs, ← h1]
          exact HRK.out
set_option maxHeartbeats 4000000 in
set_option maxRecDepth 100000 in
theorem symB_f (H : SrH blk n lt g cb sf sb R) (a m b : Nat) (d : Array α) (w : World) (hR : R d w) (hd : d.size = n) (ham : a < m) (h1m : m - a ≠ 1) (hmb : m < b) (h2m : b - m = 1) (hb : b ≤ n) (hn : n < 4611686018427387904) :
    Calls Tryz.prog 135 #[.agg #[.func (.func g) #[] cb, .func (.func sf) #[] sb], .int .i64 a, .int .i64 m, .int .i64 b] w fun e w' => e = .returned (.tuple #[]) ∧ R (Stb.downRun d m (Stb.bs (fun h => !lt d[m]! d[h]!) a m)) w' ∧ w.grownBy w' (some blk) := by
  have hlw := H.low d w hR
  have eg := H.eg
  have hbx := (Below.refl w.heap.size w).new (.cells #[.func (.func g) #[] cb, .func (.func sf) #[] sb] 167)
  have HX0 := Lib.hid (World.alloc_heap_new w (.cells #[.func (.func g) #[] cb, .func (.func sf) #[] sb] 167))
  have HR0 := Lib.hid (H.keep d w _ hR hbx)
  have HG0 := Lib.hid (gbBs (some blk) hbx)
  clear hbx hR
  have emz : ¬ ((m : Int) - (a : Int) = 1) := by omega
  have em : (((m : Int) - (a : Int)) == 1) = false := by simpa using emz
  have en : (b : Int) - (m : Int) = 1 := by omega
  clear h1m h2m
  go_enter Tryz.func135, Tryz.ntmps135
  go_wp2_with fail
  generalize w.alloc (.cells #[.func (.func g) #[] cb, .func (.func sf) #[] sb] 167) = W0 at HX0 HR0 HG0 ⊢
  generalize w.heap.size = X at HX0 hlw ⊢

  go_loopg [12, 13] (m - a) (fun kx s8 s9 wr => ∃ i j : Nat, s8 = .int .i64 i ∧ s9 = .int .i64 j ∧ a ≤ i ∧ i ≤ j ∧ j ≤ m ∧ j - i ≤ kx ∧ Hid (R d wr) ∧ Hid (w.grownBy wr (some blk)) ∧ Hid (wr.heap[X]? = some (.cells #[.func (.func g) #[] cb, .func (.func sf) #[] sb] 167)) ∧ Hid (Stb.bs (fun h => !lt d[m]! d[h]!) i j = Stb.bs (fun h => !lt d[m]! d[h]!) (a) (m)))
  case atStart => exact ⟨a, m, rfl, rfl, by omega, by omega, by omega, by omega, HR0, HG0, HX0, rfl⟩
  case round =>
    obtain ⟨i, j, rfl, rfl, hi1, hi2, hi3, hkx, HR, HG, HX, HE⟩ := hrel
    have hXl : X < wr.heap.size := (Array.getElem?_eq_some_iff.1 HX.out).1
    have hXw := HX.out
    have x0 : wr.cell? ⟨X, 0, none⟩ = some (.func (.func g) #[] cb) := by simp only [World.cell?, hXw]; rfl
    have x1 : wr.cell? ⟨X, 1, none⟩ = some (.func (.func sf) #[] sb) := by simp only [World.cell?, hXw]; rfl
    clear hXw
    by_cases hlt : i < j
    · have hltz : (i : Int) < (j : Int) := by omega
      obtain ⟨h, hh⟩ : ∃ h, h = (i + j) / 2 := ⟨_, rfl⟩
      have eh : ((i : Int) + (j : Int)) / 2 = (h : Int) := by omega
      have bh : 2 * h ≤ i + j ∧ i + j ≤ 2 * h + 1 := by omega
      have Hh : Hid (h = (i + j) / 2) := Lib.hid hh
      clear hh
      have HL := Lib.hid (H.less d wr (m) (h) HR.out hd (by omega) (by omega))
      rw [show ((m : Nat) : Int) = (m : Int) by omega, show ((h : Nat) : Int) = (h : Int) by omega] at HL
      cases hl : lt d[m]! d[h]! with
      | true =>
        rw [hl] at HL
        have HHL := Lib.hid hl
        clear hl
        go_wp2_with fail
        refine HL.out.mono ?_
        rintro e w2 ⟨rfl, hR2, hG2⟩
        have HX2 : Hid (w2.heap[X]? = some (.cells #[.func (.func g) #[] cb, .func (.func sf) #[] sb] 167)) := Lib.hid ((hG2.block X hXl (by intro e; cases e; omega)).trans HX.out)
        have HR2 := Lib.hid hR2
        have HG2 := Lib.hid (gbTs HG.out hG2)
        clear hR2 hG2 x0 x1
        go_wp2_with fail
        go_roundg (h - i)
        case measure => omega
        case rel =>
          refine ⟨i, h, rfl, by first | rfl | (congr 1; omega), by omega, by omega, by omega, Nat.le_refl _, HR2, HG2, HX2, (show Hid _ from ?_)⟩
          show _ = _
          rw [← HE.out]
          conv => rhs; rw [Stb.bs, if_pos hlt, ← Hh.out, if_neg (show ¬ (!lt d[m]! d[h]!) = true by rw [HHL.out]; simp)]
      | false =>
        rw [hl] at HL
        have HHL := Lib.hid hl
        clear hl
        go_wp2_with fail
        refine HL.out.mono ?_
        rintro e w2 ⟨rfl, hR2, hG2⟩
        have HX2 : Hid (w2.heap[X]? = some (.cells #[.func (.func g) #[] cb, .func (.func sf) #[] sb] 167)) := Lib.hid ((hG2.block X hXl (by intro e; cases e; omega)).trans HX.out)
        have HR2 := Lib.hid hR2
        have HG2 := Lib.hid (gbTs HG.out hG2)
        clear hR2 hG2 x0 x1
        go_wp2_with fail
        go_roundg (j - (h + 1))
        case measure => omega
        case rel =>
          refine ⟨h + 1, j, by first | rfl | go_num | (congr 1; omega), rfl, by omega, by omega, by omega, Nat.le_refl _, HR2, HG2, HX2, (show Hid _ from ?_)⟩
          show _ = _
          rw [← HE.out]
          conv => rhs; rw [Stb.bs, if_pos hlt, ← Hh.out, if_pos (show (!lt d[m]! d[h]!) = true by rw [HHL.out]; simp)]
    · have hltz : ¬ (i : Int) < (j : Int) := by omega
      have hij : i = j := by omega
      subst hij
      have hbs : i = _ := (show Stb.bs _ i i = i by rw [Stb.bs, if_neg (Nat.lt_irrefl i)]).symm.trans HE.out
      clear x0 x1
      go_wp2_with fail
      go_loopg [15] m (fun ky s15 wi => ∃ (q : Nat) (dk : Array α), s15 = .int .i64 q ∧ i ≤ q ∧ q ≤ m ∧ q ≤ ky ∧ dk.size = n ∧ Hid (R dk wi) ∧ Hid (w.grownBy wi (some blk)) ∧ Hid (wi.heap[X]? = some (.cells #[.func (.func g) #[] cb, .func (.func sf) #[] sb] 167)) ∧ Hid (Stb.downRun dk q i = Stb.downRun d m i))
      case atStart => exact ⟨m, d, rfl, by omega, Nat.le_refl _, Nat.le_refl _, hd, HR, HG, HX, rfl⟩
      case round =>
        obtain ⟨k, dk, rfl, hak, hkm, hky, hdk, HRK, HGK, HXK, HEK⟩ := hrel
        have hXl : X < wr.heap.size := (Array.getElem?_eq_some_iff.1 HXK.out).1
        have hXw := HXK.out
        have x0 : wr.cell? ⟨X, 0, none⟩ = some (.func (.func g) #[] cb) := by simp only [World.cell?, hXw]; rfl
        have x1 : wr.cell? ⟨X, 1, none⟩ = some (.func (.func sf) #[] sb) := by simp only [World.cell?, hXw]; rfl
        clear hXw
        by_cases hlk : i < k
        · have hlkz : (k : Int) > (i : Int) := by omega
          obtain ⟨w3, hsw, hR3, hG3⟩ := H.swap dk wr k (k - 1) HRK.out hdk (by omega) (by omega)
          rw [show ((k - 1 : Nat) : Int) = (k : Int) - 1 by omega] at hsw
          have HX3 : Hid (w3.heap[X]? = some (.cells #[.func (.func g) #[] cb, .func (.func sf) #[] sb] 167)) := Lib.hid ((hG3.block X hXl (by intro e; cases e; omega)).trans HXK.out)
          have HR3 := Lib.hid hR3
          have HG3 := Lib.hid (gbTs HGK.out hG3)
          clear hR3 hG3
          go_wp2_with fail
          go_roundg (k - 1)
          case measure => omega
          case rel =>
            refine ⟨k - 1, swp dk k (k - 1), by first | rfl | (congr 1; omega), by omega, by omega, Nat.le_refl _, by rw [size_swp]; exact hdk, HR3, HG3, HX3, (show Hid _ from ?_)⟩
            show _ = _
            rw [← HEK.out]
            conv => rhs; rw [Stb.downRun, if_pos hlk]
        · have hlkz : ¬ (k : Int) > (i : Int) := by omega
          go_wp2_with fail
          (try simp only [Exit.inBlock, Exit.then]); refine bodyPost_ret (results_none rfl _ _ _) rfl ?_
          have h1 := HEK.out
          rw [Stb.downRun, if_neg hlk] at h1
          refine ⟨rfl, ?_, HGK.out⟩
          rw [← hbs, ← h1]
          exact HRK.out

set_option maxHeartbeats 16000000 in
set_option maxRecDepth 100000 in
theorem symC_f (H : SrH blk n lt g cb sf sb R) (a m b : Nat) (d : Array α) (w : World) (hR : R d w) (hd : d.size = n) (ham : a < m) (h1m : m - a ≠ 1) (hmb : m < b) (h2m : b - m ≠ 1) (hb : b ≤ n) (hn : n < 4611686018427387904) (F : Array α → Nat → Nat → Nat → Array α) (HF : ∀ d a m b, (F d a m b).size = d.size)
    (ih : ∀ (d1 : Array α) (w1 : World) (a1 m1 b1 : Nat), d1.size = n → R d1 w1 → a1 < m1 → m1 < b1 → b1 ≤ n → b1 - a1 < b - a → Calls Tryz.prog 135 #[.agg #[.func (.func g) #[] cb, .func (.func sf) #[] sb], .int .i64 a1, .int .i64 m1, .int .i64 b1] w1 fun e w' => e = .returned (.tuple #[]) ∧ R (F d1 a1 m1 b1) w' ∧ w1.grownBy w' (some blk)) :
    Calls Tryz.prog 135 #[.agg #[.func (.func g) #[] cb, .func (.func sf) #[] sb], .int .i64 a, .int .i64 m, .int .i64 b] w fun e w' => e = .returned (.tuple #[]) ∧ R (Stb.symG F d a m b (Stb.symS lt d a m b) ((a + b) / 2 + m - Stb.symS lt d a m b) ((a + b) / 2)) w' ∧ w.grownBy w' (some blk) := by
  have hlw := H.low d w hR
  have eg := H.eg
  have hbx := (Below.refl w.heap.size w).new (.cells #[.func (.func g) #[] cb, .func (.func sf) #[] sb] 167)
  have HX0 := Lib.hid (World.alloc_heap_new w (.cells #[.func (.func g) #[] cb, .func (.func sf) #[] sb] 167))
  have HR0 := Lib.hid (H.keep d w _ hR hbx)
  have HG0 := Lib.hid (gbBs (some blk) hbx)
  clear hbx hR
  have IH := Lib.hid ih
  clear ih
  obtain ⟨mid, hmid⟩ : ∃ mid, mid = (a + b) / 2 := ⟨_, rfl⟩
  obtain ⟨nn, hnn⟩ : ∃ nn, nn = mid + m := ⟨_, rfl⟩
  obtain ⟨p, hp⟩ : ∃ p, p = mid + m - 1 := ⟨_, rfl⟩
  have en : (mid : Int) + (m : Int) = (nn : Int) := by omega
  have ep : (nn : Int) - 1 = (p : Int) := by omega
  rw [← hmid]
  go_enter Tryz.func135, Tryz.ntmps135
  have hmaz : ¬ ((m : Int) - (a : Int) = 1) := by omega
  have hmab : (((m : Int) - (a : Int)) == 1) = false := by simpa using hmaz
  have hbmz : ¬ ((b : Int) - (m : Int) = 1) := by omega
  have hbmb : (((b : Int) - (m : Int)) == 1) = false := by simpa using hbmz
  obtain ⟨lo, hlo⟩ : ∃ lo, lo = (if mid < m then mid + m - b else a) := ⟨_, rfl⟩
  obtain ⟨hi, hhi⟩ : ∃ hi, hi = (if mid < m then mid else m) := ⟨_, rfl⟩
  have hlh : lo ≤ hi ∧ a ≤ lo ∧ hi ≤ m ∧ hi ≤ mid ∧ p - lo < b ∧ nn - b ≤ lo := by
    rw [hlo, hhi]; split <;> omega
  have emid : ((a : Int) + (b : Int)) / 2 = (mid : Int) := by omega
  have bmid : 2 * mid ≤ a + b ∧ a + b ≤ 2 * mid + 1 := by omega
  have bn : nn ≤ mid + m ∧ mid + m ≤ nn := by omega
  have bp : p + 1 ≤ mid + m ∧ mid + m ≤ p + 1 := by omega
  have HMID : Hid (mid = (a + b) / 2) := hmid
  have HP : Hid (p = mid + m - 1) := hp
  clear hmid hnn hp
  have HLO : Hid (lo = (if mid < m then mid + m - b else a) ∧ hi = (if mid < m then mid else m)) := ⟨hlo, hhi⟩
  clear hlo hhi
  go_upto_region 1 with fail
  generalize w.alloc (.cells #[.func (.func g) #[] cb, .func (.func sf) #[] sb] 167) = W0 at HX0 HR0 HG0 ⊢
  generalize w.heap.size = X at HX0 hlw ⊢

  go_upto_if 106 with fail
  go_cut [18, 19] from 106 to 113 (fun s20 s21 wc => s20 = .int .i64 lo ∧ s21 = .int .i64 hi ∧ wc = W0)
  case first =>
    by_cases q : mid < m
    · have qz : (m : Int) > (mid : Int) := by omega
      go_wp2_with fail
      go_meet
      case rel =>
        rw [HLO.out.1, HLO.out.2, if_pos q, if_pos q]
        exact ⟨by first | rfl | (congr 1; omega), rfl, rfl⟩
    · have qz : ¬ (m : Int) > (mid : Int) := by omega
      go_wp2_with fail
      go_meet
      case rel =>
        rw [HLO.out.1, HLO.out.2, if_neg q, if_neg q]
        exact ⟨rfl, rfl, rfl⟩
  case rest =>
    obtain ⟨rfl, rfl, rfl⟩ := hcut
    go_wp2_with fail
    go_loopg [18, 19] (hi - lo) (fun kx s8 s9 wr => ∃ i j : Nat, s8 = .int .i64 i ∧ s9 = .int .i64 j ∧ lo ≤ i ∧ i ≤ j ∧ j ≤ hi ∧ j - i ≤ kx ∧ Hid (R d wr) ∧ Hid (w.grownBy wr (some blk)) ∧ Hid (wr.heap[X]? = some (.cells #[.func (.func g) #[] cb, .func (.func sf) #[] sb] 167)) ∧ Hid (Stb.bs (fun h => !lt d[p - h]! d[h]!) i j = Stb.symS lt d a m b))
    case atStart => exact ⟨lo, hi, rfl, rfl, by omega, by omega, by omega, by omega, HR0, HG0, HX0, by show _ = _; unfold Stb.symS; rw [← HMID.out, ← HP.out, ← HLO.out.1, ← HLO.out.2]⟩
    case round =>
      obtain ⟨i, j, rfl, rfl, hi1, hi2, hi3, hkx, HR, HG, HX, HE⟩ := hrel
      have hXl : X < wr.heap.size := (Array.getElem?_eq_some_iff.1 HX.out).1
      have hXw := HX.out
      have x0 : wr.cell? ⟨X, 0, none⟩ = some (.func (.func g) #[] cb) := by simp only [World.cell?, hXw]; rfl
      have x1 : wr.cell? ⟨X, 1, none⟩ = some (.func (.func sf) #[] sb) := by simp only [World.cell?, hXw]; rfl
      clear hXw
      by_cases hlt : i < j
      · have hltz : (i : Int) < (j : Int) := by omega
        obtain ⟨h, hh⟩ : ∃ h, h = (i + j) / 2 := ⟨_, rfl⟩
        have eh : ((i : Int) + (j : Int)) / 2 = (h : Int) := by omega
        have bh : 2 * h ≤ i + j ∧ i + j ≤ 2 * h + 1 := by omega
        have Hh : Hid (h = (i + j) / 2) := Lib.hid hh
        clear hh
        have HL := Lib.hid (H.less d wr (p - h) (h) HR.out hd (by omega) (by omega))
        rw [show ((p - h : Nat) : Int) = (p : Int) - (h : Int) by omega, show ((h : Nat) : Int) = (h : Int) by omega] at HL
        cases hl : lt d[p - h]! d[h]! with
        | true =>
          rw [hl] at HL
          have HHL := Lib.hid hl
          clear hl
          go_wp2_with fail
          refine HL.out.mono ?_
          rintro e w2 ⟨rfl, hR2, hG2⟩
          have HX2 : Hid (w2.heap[X]? = some (.cells #[.func (.func g) #[] cb, .func (.func sf) #[] sb] 167)) := Lib.hid ((hG2.block X hXl (by intro e; cases e; omega)).trans HX.out)
          have HR2 := Lib.hid hR2
          have HG2 := Lib.hid (gbTs HG.out hG2)
          clear hR2 hG2 x0 x1
          go_wp2_with fail
          go_roundg (h - i)
          case measure => omega
          case rel =>
            refine ⟨i, h, rfl, by first | rfl | (congr 1; omega), by omega, by omega, by omega, Nat.le_refl _, HR2, HG2, HX2, (show Hid _ from ?_)⟩
            show _ = _
            rw [← HE.out]
            conv => rhs; rw [Stb.bs, if_pos hlt, ← Hh.out, if_neg (show ¬ (!lt d[p - h]! d[h]!) = true by rw [HHL.out]; simp)]
        | false =>
          rw [hl] at HL
          have HHL := Lib.hid hl
          clear hl
          go_wp2_with fail
          refine HL.out.mono ?_
          rintro e w2 ⟨rfl, hR2, hG2⟩
          have HX2 : Hid (w2.heap[X]? = some (.cells #[.func (.func g) #[] cb, .func (.func sf) #[] sb] 167)) := Lib.hid ((hG2.block X hXl (by intro e; cases e; omega)).trans HX.out)
          have HR2 := Lib.hid hR2
          have HG2 := Lib.hid (gbTs HG.out hG2)
          clear hR2 hG2 x0 x1
          go_wp2_with fail
          go_roundg (j - (h + 1))
          case measure => omega
          case rel =>
            refine ⟨h + 1, j, by first | rfl | go_num | (congr 1; omega), rfl, by omega, by omega, by omega, Nat.le_refl _, HR2, HG2, HX2, (show Hid _ from ?_)⟩
            show _ = _
            rw [← HE.out]
            conv => rhs; rw [Stb.bs, if_pos hlt, ← Hh.out, if_pos (show (!lt d[p - h]! d[h]!) = true by rw [HHL.out]; simp)]
      · have hltz : ¬ (i : Int) < (j : Int) := by omega
        have hij : i = j := by omega
        subst hij
        have hbs : i = _ := (show Stb.bs _ i i = i by rw [Stb.bs, if_neg (Nat.lt_irrefl i)]).symm.trans HE.out
        clear x0 x1
        have hbd := Stb.symS_bd lt d a m b ham hmb
        rw [← hbs, ← HMID.out] at hbd
        have HB : Hid (i = Stb.symS lt d a m b) := hbs
        clear hbs HE hltz hlt
        generalize i = s at hbd hi1 hi2 hi3 hkx HB ⊢
        obtain ⟨e, he⟩ : ∃ e, e = mid + m - s := ⟨_, rfl⟩
        have be : e + s ≤ mid + m ∧ mid + m ≤ e + s := by omega
        have HEE : Hid (e = mid + m - s) := he
        clear he
        have een : (nn : Int) - (s : Int) = (e : Int) := by omega
        go_upto_region 40 with fail
        go_cut [145] from 138 to 145 (fun sx wx => sx = .bool (decide (s < m) && decide (m < e)) ∧ wx = wr)
        case first =>
          by_cases q1 : s < m
          · have q1z : (s : Int) < (m : Int) := by omega
            have q1d : decide ((s : Int) < (m : Int)) = true := decide_eq_true q1z
            by_cases q2 : m < e
            · have q2z : (m : Int) < (e : Int) := by omega
              have q2d : decide ((m : Int) < (e : Int)) = true := decide_eq_true q2z
              go_wp2_with fail
              go_meet
              exact ⟨by simp [q1, q2], rfl⟩
            · have q2z : ¬ (m : Int) < (e : Int) := by omega
              have q2d : decide ((m : Int) < (e : Int)) = false := decide_eq_false q2z
              go_wp2_with fail
              go_meet
              exact ⟨by simp [q1, q2], rfl⟩
          · have q1z : ¬ (s : Int) < (m : Int) := by omega
            have q1d : decide ((s : Int) < (m : Int)) = false := decide_eq_false q1z
            go_wp2_with fail
            go_meet
            exact ⟨by simp [q1], rfl⟩
        case rest =>
          obtain ⟨rfl, rfl⟩ := hcut
          go_upto_if 145 with fail
          go_cut [] from 145 to 151 (fun wx => Hid (R (Stb.symR d s m e) wx) ∧ Hid (w.grownBy wx (some blk)) ∧ Hid (wx.heap[X]? = some (.cells #[.func (.func g) #[] cb, .func (.func sf) #[] sb] 167)))
          case first =>
            have hXl : X < wc.heap.size := (Array.getElem?_eq_some_iff.1 HX.out).1
            have hXw := HX.out
            have x0 : wc.cell? ⟨X, 0, none⟩ = some (.func (.func g) #[] cb) := by simp only [World.cell?, hXw]; rfl
            have x1 : wc.cell? ⟨X, 1, none⟩ = some (.func (.func sf) #[] sb) := by simp only [World.cell?, hXw]; rfl
            clear hXw
            by_cases q : s < m ∧ m < e
            · have qb : (decide (s < m) && decide (m < e)) = true := by simp [q.1, q.2]
              have hc := Lib.hid (rotate_f H s m e d wc HR.out hd q.1 q.2 (by omega) hn)
              go_wp2_with fail
              refine hc.out.mono ?_
              rintro e1 w1 ⟨rfl, hR2, hG2⟩
              have HX2 : Hid (w1.heap[X]? = some (.cells #[.func (.func g) #[] cb, .func (.func sf) #[] sb] 167)) := Lib.hid ((hG2.block X hXl (by intro e; cases e; omega)).trans HX.out)
              have HR2 := Lib.hid hR2
              have HG2 := Lib.hid (gbTs HG.out hG2)
              clear hR2 hG2 x0 x1
              go_wp2_with fail
              go_meet
              case rel => rw [Stb.symR, if_pos q]; exact ⟨HR2, HG2, HX2⟩
            · have qb : (decide (s < m) && decide (m < e)) = false := by
                cases hq : (decide (s < m) && decide (m < e)) with
                | false => rfl
                | true => exact absurd (by simpa using hq) q
              clear x0 x1
              go_wp2_with fail
              go_meet
              case rel => rw [Stb.symR, if_neg q]; exact ⟨HR, HG, HX⟩
          case rest =>
            clear HR HG HX
            obtain ⟨HR, HG, HX⟩ := hcut
            obtain ⟨d1, hd1⟩ : ∃ d1, d1 = Stb.symR d s m e := ⟨_, rfl⟩
            rw [← hd1] at HR
            have hz1 : d1.size = n := by rw [hd1, Stb.symR_size]; exact hd
            have HD1 : Hid (d1 = Stb.symR d s m e) := hd1
            clear hd1
            go_upto_region 42 with fail
            go_cut [158] from 151 to 158 (fun sx wx => sx = .bool (decide (a < s) && decide (s < mid)) ∧ wx = wc)
            case first =>
              by_cases q1 : a < s
              · have q1z : (a : Int) < (s : Int) := by omega
                have q1d : decide ((a : Int) < (s : Int)) = true := decide_eq_true q1z
                by_cases q2 : s < mid
                · have q2z : (s : Int) < (mid : Int) := by omega
                  have q2d : decide ((s : Int) < (mid : Int)) = true := decide_eq_true q2z
                  go_wp2_with fail
                  go_meet
                  exact ⟨by simp [q1, q2], rfl⟩
                · have q2z : ¬ (s : Int) < (mid : Int) := by omega
                  have q2d : decide ((s : Int) < (mid : Int)) = false := decide_eq_false q2z
                  go_wp2_with fail
                  go_meet
                  exact ⟨by simp [q1, q2], rfl⟩
              · have q1z : ¬ (a : Int) < (s : Int) := by omega
                have q1d : decide ((a : Int) < (s : Int)) = false := decide_eq_false q1z
                go_wp2_with fail
                go_meet
                exact ⟨by simp [q1], rfl⟩
            case rest =>
              obtain ⟨rfl, rfl⟩ := hcut
              go_upto_if 158 with fail
              go_cut [] from 158 to 164 (fun wx => Hid (R (Stb.symH F d1 a s mid) wx) ∧ Hid (w.grownBy wx (some blk)) ∧ Hid (wx.heap[X]? = some (.cells #[.func (.func g) #[] cb, .func (.func sf) #[] sb] 167)))
              case first =>
                have hXl : X < wc.heap.size := (Array.getElem?_eq_some_iff.1 HX.out).1
                have hXw := HX.out
                have x0 : wc.cell? ⟨X, 0, none⟩ = some (.func (.func g) #[] cb) := by simp only [World.cell?, hXw]; rfl
                have x1 : wc.cell? ⟨X, 1, none⟩ = some (.func (.func sf) #[] sb) := by simp only [World.cell?, hXw]; rfl
                clear hXw
                by_cases q : a < s ∧ s < mid
                · have qb : (decide (a < s) && decide (s < mid)) = true := by simp [q.1, q.2]
                  have hc := Lib.hid (IH.out d1 wc a s mid hz1 HR.out q.1 q.2 (by omega) (by omega))
                  go_wp2_with fail
                  refine hc.out.mono ?_
                  rintro e1 w1 ⟨rfl, hR2, hG2⟩
                  have HX2 : Hid (w1.heap[X]? = some (.cells #[.func (.func g) #[] cb, .func (.func sf) #[] sb] 167)) := Lib.hid ((hG2.block X hXl (by intro e; cases e; omega)).trans HX.out)
                  have HR2 := Lib.hid hR2
                  have HG2 := Lib.hid (gbTs HG.out hG2)
                  clear hR2 hG2 x0 x1
                  go_wp2_with fail
                  go_meet
                  case rel => rw [Stb.symH, if_pos q]; exact ⟨HR2, HG2, HX2⟩
                · have qb : (decide (a < s) && decide (s < mid)) = false := by
                    cases hq : (decide (a < s) && decide (s < mid)) with
                    | false => rfl
                    | true => exact absurd (by simpa using hq) q
                  clear x0 x1
                  go_wp2_with fail
                  go_meet
                  case rel => rw [Stb.symH, if_neg q]; exact ⟨HR, HG, HX⟩
              case rest =>
                clear HR HG HX
                obtain ⟨HR, HG, HX⟩ := hcut
                obtain ⟨d2, hd2⟩ : ∃ d2, d2 = Stb.symH F d1 a s mid := ⟨_, rfl⟩
                rw [← hd2] at HR
                have hz2 : d2.size = n := by
                  rw [hd2, Stb.symH]
                  split
                  · rw [HF, hz1]
                  · exact hz1
                have HD2 : Hid (d2 = Stb.symH F d1 a s mid) := hd2
                clear hd2
                go_upto_region 44 with fail
                go_cut [171] from 164 to 171 (fun sx wx => sx = .bool (decide (mid < e) && decide (e < b)) ∧ wx = wc)
                case first =>
                  by_cases q1 : mid < e
                  · have q1z : (mid : Int) < (e : Int) := by omega
                    have q1d : decide ((mid : Int) < (e : Int)) = true := decide_eq_true q1z
                    by_cases q2 : e < b
                    · have q2z : (e : Int) < (b : Int) := by omega
                      have q2d : decide ((e : Int) < (b : Int)) = true := decide_eq_true q2z
                      go_wp2_with fail
                      go_meet
                      exact ⟨by simp [q1, q2], rfl⟩
                    · have q2z : ¬ (e : Int) < (b : Int) := by omega
                      have q2d : decide ((e : Int) < (b : Int)) = false := decide_eq_false q2z
                      go_wp2_with fail
                      go_meet
                      exact ⟨by simp [q1, q2], rfl⟩
                  · have q1z : ¬ (mid : Int) < (e : Int) := by omega
                    have q1d : decide ((mid : Int) < (e : Int)) = false := decide_eq_false q1z
                    go_wp2_with fail
                    go_meet
                    exact ⟨by simp [q1], rfl⟩
                case rest =>
                  obtain ⟨rfl, rfl⟩ := hcut
                  have hXl : X < wc.heap.size := (Array.getElem?_eq_some_iff.1 HX.out).1
                  have hXw := HX.out
                  have x0 : wc.cell? ⟨X, 0, none⟩ = some (.func (.func g) #[] cb) := by simp only [World.cell?, hXw]; rfl
                  have x1 : wc.cell? ⟨X, 1, none⟩ = some (.func (.func sf) #[] sb) := by simp only [World.cell?, hXw]; rfl
                  clear hXw
                  by_cases q : mid < e ∧ e < b
                  · have qb : (decide (mid < e) && decide (e < b)) = true := by simp [q.1, q.2]
                    have hc := Lib.hid (IH.out d2 wc mid e b hz2 HR.out q.1 q.2 (by omega) (by omega))
                    go_wp2_with fail
                    refine hc.out.mono ?_
                    rintro e1 w1 ⟨rfl, hR2, hG2⟩
                    have HX2 : Hid (w1.heap[X]? = some (.cells #[.func (.func g) #[] cb, .func (.func sf) #[] sb] 167)) := Lib.hid ((hG2.block X hXl (by intro e; cases e; omega)).trans HX.out)
                    have HR2 := Lib.hid hR2
                    have HG2 := Lib.hid (gbTs HG.out hG2)
                    clear hR2 hG2 x0 x1
                    go_wp2_with fail
                    go_end0
                    refine ⟨rfl, ?_, HG2.out⟩
                    rw [← HB.out, ← HEE.out]
                    unfold Stb.symG
                    rw [← HD1.out, ← HD2.out, Stb.symH, if_pos q]
                    exact HR2.out
                  · have qb : (decide (mid < e) && decide (e < b)) = false := by
                      cases hq : (decide (mid < e) && decide (e < b)) with
                      | false => rfl
                      | true => exact absurd (by simpa using hq) q
                    clear x0 x1
                    go_wp2_with fail
                    go_end0
                    refine ⟨rfl, ?_, HG.out⟩
                    rw [← HB.out, ← HEE.out]
                    unfold Stb.symG
                    rw [← HD1.out, ← HD2.out, Stb.symH, if_neg q]
                    exact HR.out

theorem symMerge_f (H : SrH blk n lt g cb sf sb R) (hn : n < 4611686018427387904) : ∀ (N a m b : Nat) (d : Array α) (w : World), b - a ≤ N → R d w → d.size = n → a < m → m < b → b ≤ n →
    Calls Tryz.prog 135 #[.agg #[.func (.func g) #[] cb, .func (.func sf) #[] sb], .int .i64 a, .int .i64 m, .int .i64 b] w fun e w' => e = .returned (.tuple #[]) ∧ R (Stb.sym lt N d a m b) w' ∧ w.grownBy w' (some blk) := by
  intro N
  induction N with
  | zero => intro a m b d w h1 h2 h3 h4 h5; omega
  | succ N ih =>
    intro a m b d w hN hR hd ham hmb hb
    unfold Stb.sym
    by_cases c1 : m - a = 1
    · rw [if_pos c1]
      exact symA_f H a m b d w hR hd ham c1 hmb hb hn
    · rw [if_neg c1]
      by_cases c2 : b - m = 1
      · rw [if_pos c2]
        exact symB_f H a m b d w hR hd ham c1 hmb c2 hb hn
      · rw [if_neg c2]
        exact symC_f H a m b d w hR hd ham c1 hmb c2 hb hn (Stb.sym lt N) (Stb.sym_size lt N) (fun d1 w1 a1 m1 b1 hz SS q1 q2 q3 q4 => ih a1 m1 b1 d1 w1 (by omega) SS hz q1 q2 q3)
end
end Go.Proofs.YtpbbbiifeihkaaaGreatDoor
