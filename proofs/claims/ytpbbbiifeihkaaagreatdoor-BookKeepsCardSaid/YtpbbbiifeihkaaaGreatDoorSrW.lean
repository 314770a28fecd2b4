/- sort's own stable sort over 'less' and 'swap': swapRange, rotate, insertionSort, walked over an abstract row. -/
import Derived.Test.YtpbbbiifeihkaaaGreatDoorProg
import Derived.Test.YtpbbbiifeihkaaaGreatDoorBase
import Derived.Lib.Hide
import Derived.RangeFuncRecord
import Derived.Test.YtpbbbiifeihkaaaGreatDoorEvt
import Derived.Test.YtpbbbiifeihkaaaGreatDoorStI
import Derived.Deep.LoopGhost
import Derived.Laws.EntriesVeiled
namespace Go.Proofs.YtpbbbiifeihkaaaGreatDoor
open Go.RowKit Go.Lib Go.Sort
set_option linter.unusedVariables false
set_option linter.unusedSimpArgs false
variable {α : Type} [Inhabited α]

/-- What is asked of a row in block blk, and of the two functions that read and turn it. -/
structure SrH (blk n : Nat) (lt : α → α → Bool) (g : Nat) (cb : Array Value) (sf : Nat) (sb : Array Value) (R : Array α → World → Prop) : Prop where
  low : ∀ d w, R d w → blk < w.heap.size
  keep : ∀ d w w', R d w → Below w.heap.size w w' → R d w'
  eg : ∀ args w, (callFunc g args).run Tryz.prog w = .ok (.enter g args) w
  less : ∀ d w (i j : Nat), R d w → d.size = n → i < n → j < n → Calls Tryz.prog g (#[.int .i64 i, .int .i64 j] ++ cb) w fun e w' => e = .returned (.bool (lt d[i]! d[j]!)) ∧ R d w' ∧ w.grownBy w' (some blk)
  swap : ∀ d w (i j : Nat), R d w → d.size = n → i < n → j < n → ∃ w', (callFunc sf (#[.int .i64 i, .int .i64 j] ++ sb)).run Tryz.prog w = .ok (.value (.tuple #[])) w' ∧ R (swp d i j) w' ∧ w.grownBy w' (some blk)
theorem gbTs {a b c : World} {r : Option Nat} (h : a.grownBy b r) (k : b.grownBy c r) : a.grownBy c r :=
  ⟨k.os.trans h.os, k.tape.trans h.tape, k.output.trans h.output, Nat.le_trans h.size k.size, fun j hj hne => (k.block j (Nat.lt_of_lt_of_le hj h.size) hne).trans (h.block j hj hne)⟩
theorem gbBs {a b : World} (r : Option Nat) (h : Below a.heap.size a b) : a.grownBy b r := ⟨h.os, h.tape, h.output, h.size, fun j hj _ => h.block j hj⟩
section
variable {blk n : Nat} {lt : α → α → Bool} {g : Nat} {cb : Array Value} {sf : Nat} {sb : Array Value} {R : Array α → World → Prop}

set_option maxHeartbeats 4000000 in
set_option maxRecDepth 100000 in
theorem swapRange_f (H : SrH blk n lt g cb sf sb R) (a b m : Nat) (d : Array α) (w : World) (hR : R d w) (hd : d.size = n) (hab : a + m ≤ b) (hb : b + m ≤ n) (hn : n < 4611686018427387904) :
    Calls Tryz.prog 175 #[.agg #[.func (.func g) #[] cb, .func (.func sf) #[] sb], .int .i64 a, .int .i64 b, .int .i64 m] w fun e w' => e = .returned (.tuple #[]) ∧ R (Stb.swr d a b m 0) w' ∧ w.grownBy w' (some blk) := by
  have hlw := H.low d w hR
  have hbx := (Below.refl w.heap.size w).new (.cells #[.func (.func g) #[] cb, .func (.func sf) #[] sb] 167)
  have HX0 := Lib.hid (World.alloc_heap_new w (.cells #[.func (.func g) #[] cb, .func (.func sf) #[] sb] 167))
  have HR0 := Lib.hid (H.keep d w _ hR hbx)
  have HG0 := Lib.hid (gbBs (some blk) hbx)
  clear hbx hR
  go_enter Tryz.func175, Tryz.ntmps175
  go_wp2_with fail
  generalize w.alloc (.cells #[.func (.func g) #[] cb, .func (.func sf) #[] sb] 167) = W0 at HX0 HR0 HG0 ⊢
  generalize w.heap.size = X at HX0 hlw ⊢
  go_loopg [8] m (fun kx i wr => ∃ (k : Nat) (dk : Array α), i = .int .i64 k ∧ k ≤ m ∧ m - k ≤ kx ∧ dk.size = n ∧ Hid (R dk wr) ∧ Hid (w.grownBy wr (some blk)) ∧ Hid (wr.heap[X]? = some (.cells #[.func (.func g) #[] cb, .func (.func sf) #[] sb] 167)) ∧ Hid (Stb.swr dk a b m k = Stb.swr d a b m 0))
  case atStart => exact ⟨0, d, rfl, by omega, by omega, hd, HR0, HG0, HX0, rfl⟩
  case round =>
    obtain ⟨k, dk, rfl, hk, hkx, hdk, HR, HG, HX, HE⟩ := hrel
    have hXl : X < wr.heap.size := (Array.getElem?_eq_some_iff.1 HX.out).1
    by_cases hlt : k < m
    · have hltz : (k : Int) < (m : Int) := by omega
      have hXw := HX.out
      have x0 : wr.cell? ⟨X, 0, none⟩ = some (.func (.func g) #[] cb) := by simp only [World.cell?, hXw]; rfl
      have x1 : wr.cell? ⟨X, 1, none⟩ = some (.func (.func sf) #[] sb) := by simp only [World.cell?, hXw]; rfl
      clear hXw
      obtain ⟨w2, hsw, hR2, hG2⟩ := H.swap dk wr (a + k) (b + k) HR.out hdk (by omega) (by omega)
      rw [show ((a + k : Nat) : Int) = (a : Int) + (k : Int) by omega, show ((b + k : Nat) : Int) = (b : Int) + (k : Int) by omega] at hsw
      have HX2 : Hid (w2.heap[X]? = some (.cells #[.func (.func g) #[] cb, .func (.func sf) #[] sb] 167)) := Lib.hid ((hG2.block X hXl (by intro e; cases e; omega)).trans HX.out)
      have HR2 := Lib.hid hR2
      have HG2 := Lib.hid (gbTs HG.out hG2)
      clear hR2 hG2
      go_wp2_with fail
      go_roundg (m - (k + 1))
      case measure => omega
      case rel =>
        refine ⟨k + 1, swp dk (a + k) (b + k), by first | rfl | go_num | (congr 1; omega), by omega, Nat.le_refl _, by rw [size_swp]; exact hdk, HR2, HG2, HX2, (show Hid _ from ?_)⟩
        show _ = _
        rw [← HE.out]
        conv => rhs; rw [Stb.swr, if_pos hlt]
    · have hltz : ¬ (k : Int) < (m : Int) := by omega
      go_wp2_with fail
      go_end0
      have h1 := HE.out
      rw [Stb.swr, if_neg hlt] at h1
      exact ⟨rfl, by rw [← h1]; exact HR.out, HG.out⟩

set_option maxHeartbeats 4000000 in
set_option maxRecDepth 100000 in
theorem rotate_f (H : SrH blk n lt g cb sf sb R) (a m b : Nat) (d : Array α) (w : World) (hR : R d w) (hd : d.size = n) (ham : a < m) (hmb : m < b) (hb : b ≤ n) (hn : n < 4611686018427387904) :
    Calls Tryz.prog 161 #[.agg #[.func (.func g) #[] cb, .func (.func sf) #[] sb], .int .i64 a, .int .i64 m, .int .i64 b] w fun e w' => e = .returned (.tuple #[]) ∧ R (Stb.rot m (m - a) (b - m) d) w' ∧ w.grownBy w' (some blk) := by
  have hlw := H.low d w hR
  have hbx := (Below.refl w.heap.size w).new (.cells #[.func (.func g) #[] cb, .func (.func sf) #[] sb] 167)
  have HX0 := Lib.hid (World.alloc_heap_new w (.cells #[.func (.func g) #[] cb, .func (.func sf) #[] sb] 167))
  have HR0 := Lib.hid (H.keep d w _ hR hbx)
  have HG0 := Lib.hid (gbBs (some blk) hbx)
  clear hbx hR
  have HSR := Lib.hid (fun (dk : Array α) (W : World) (x y z : Nat) (h : R dk W) (hz : dk.size = n) (h1 : x + z ≤ y) (h2 : y + z ≤ n) => swapRange_f H x y z dk W h hz h1 h2 hn)
  go_enter Tryz.func161, Tryz.ntmps161
  have ea : (m : Int) - (a : Int) = ((m - a : Nat) : Int) := by omega
  have eb : (b : Int) - (m : Int) = ((b - m : Nat) : Int) := by omega
  go_wp2_with fail
  generalize w.alloc (.cells #[.func (.func g) #[] cb, .func (.func sf) #[] sb] 167) = W0 at HX0 HR0 HG0 ⊢
  generalize w.heap.size = X at HX0 hlw ⊢
  go_loopg [8, 9] (b - a) (fun kx s8 s9 wr => ∃ (i j : Nat) (dk : Array α), s8 = .int .i64 i ∧ s9 = .int .i64 j ∧ 0 < i ∧ 0 < j ∧ i ≤ m ∧ m + j ≤ n ∧ i + j ≤ kx ∧ dk.size = n ∧ Hid (R dk wr) ∧ Hid (w.grownBy wr (some blk)) ∧ Hid (wr.heap[X]? = some (.cells #[.func (.func g) #[] cb, .func (.func sf) #[] sb] 167)) ∧ Hid (Stb.rot m i j dk = Stb.rot m (m - a) (b - m) d))
  case atStart => exact ⟨m - a, b - m, d, rfl, rfl, by omega, by omega, by omega, by omega, by omega, hd, HR0, HG0, HX0, rfl⟩
  case round =>
    clear ea eb
    obtain ⟨i, j, dk, rfl, rfl, hi, hj, him, hjm, hkx, hdk, HR, HG, HX, HE⟩ := hrel
    have hXl : X < wr.heap.size := (Array.getElem?_eq_some_iff.1 HX.out).1
    have hXw := HX.out
    have x0 : wr.cell? ⟨X, 0, none⟩ = some (.func (.func g) #[] cb) := by simp only [World.cell?, hXw]; rfl
    have x1 : wr.cell? ⟨X, 1, none⟩ = some (.func (.func sf) #[] sb) := by simp only [World.cell?, hXw]; rfl
    clear hXw
    have e1 : (m : Int) - (i : Int) = ((m - i : Nat) : Int) := by omega
    by_cases heq1 : i = j
    · subst heq1
      have hne : ((i : Int) != (i : Int)) = false := by simp
      have hc := Lib.hid (HSR.out dk wr (m - i) m i HR.out hdk (by omega) (by omega))
      go_wp2_with fail
      refine hc.out.mono ?_
      rintro e w2 ⟨rfl, hR2, hG2⟩
      have HR2 := Lib.hid hR2
      have HG2 := Lib.hid (gbTs HG.out hG2)
      clear hR2 hG2
      go_wp2_with fail
      go_end0
      have h1 := HE.out
      rw [Stb.rot, dif_pos (by omega)] at h1
      exact ⟨rfl, by rw [← h1]; exact HR2.out, HG2.out⟩
    · have hne : ((i : Int) != (j : Int)) = true := by simp; omega
      have hnz : ¬ (i : Int) = (j : Int) := by omega
      by_cases hlt : j < i
      · have hltz : (i : Int) > (j : Int) := by omega
        have e2 : (i : Int) - (j : Int) = ((i - j : Nat) : Int) := by omega
        have hc := Lib.hid (HSR.out dk wr (m - i) m j HR.out hdk (by omega) (by omega))
        go_wp2_with fail
        refine hc.out.mono ?_
        rintro e w2 ⟨rfl, hR2, hG2⟩
        have HX2 : Hid (w2.heap[X]? = some (.cells #[.func (.func g) #[] cb, .func (.func sf) #[] sb] 167)) := Lib.hid ((hG2.block X hXl (by intro e; cases e; omega)).trans HX.out)
        have HR2 := Lib.hid hR2
        have HG2 := Lib.hid (gbTs HG.out hG2)
        clear hR2 hG2
        go_wp2_with fail
        go_roundg (i - j + j)
        case measure => omega
        case rel =>
          refine ⟨i - j, j, Stb.swr dk (m - i) m j 0, by first | rfl | (congr 1; omega), rfl, by omega, by omega, by omega, by omega, by omega, by rw [Stb.swr_size]; exact hdk, HR2, HG2, HX2, (show Hid _ from ?_)⟩
          show _ = _
          rw [← HE.out]
          conv => rhs; rw [Stb.rot, dif_neg (by omega), dif_pos hlt]
      · have hltz : ¬ (i : Int) > (j : Int) := by omega
        have e2 : (j : Int) - (i : Int) = ((j - i : Nat) : Int) := by omega
        have e3 : (m : Int) + (j : Int) - (i : Int) = ((m + j - i : Nat) : Int) := by omega
        have hc := Lib.hid (HSR.out dk wr (m - i) (m + j - i) i HR.out hdk (by omega) (by omega))
        go_wp2_with fail
        refine hc.out.mono ?_
        rintro e w2 ⟨rfl, hR2, hG2⟩
        have HX2 : Hid (w2.heap[X]? = some (.cells #[.func (.func g) #[] cb, .func (.func sf) #[] sb] 167)) := Lib.hid ((hG2.block X hXl (by intro e; cases e; omega)).trans HX.out)
        have HR2 := Lib.hid hR2
        have HG2 := Lib.hid (gbTs HG.out hG2)
        clear hR2 hG2
        go_wp2_with fail
        go_roundg (i + (j - i))
        case measure => omega
        case rel =>
          refine ⟨i, j - i, Stb.swr dk (m - i) (m + j - i) i 0, rfl, by first | rfl | (congr 1; omega), by omega, by omega, by omega, by omega, by omega, by rw [Stb.swr_size]; exact hdk, HR2, HG2, HX2, (show Hid _ from ?_)⟩
          show _ = _
          rw [← HE.out]
          conv => rhs; rw [Stb.rot, dif_neg (by omega), dif_neg hlt]

set_option maxHeartbeats 4000000 in
set_option maxRecDepth 100000 in
theorem insertion_f (H : SrH blk n lt g cb sf sb R) (a b : Nat) (d : Array α) (w : World) (hR : R d w) (hd : d.size = n) (hab : a ≤ b) (hb : b ≤ n) (hn : n < 4611686018427387904) :
    Calls Tryz.prog 134 #[.agg #[.func (.func g) #[] cb, .func (.func sf) #[] sb], .int .i64 a, .int .i64 b] w fun e w' => e = .returned (.tuple #[]) ∧ R (insertionSort lt d a b) w' ∧ w.grownBy w' (some blk) := by
  have hlw := H.low d w hR
  have hbx := (Below.refl w.heap.size w).new (.cells #[.func (.func g) #[] cb, .func (.func sf) #[] sb] 167)
  have HX0 := Lib.hid (World.alloc_heap_new w (.cells #[.func (.func g) #[] cb, .func (.func sf) #[] sb] 167))
  have HR0 := Lib.hid (H.keep d w _ hR hbx)
  have HG0 := Lib.hid (gbBs (some blk) hbx)
  clear hbx hR
  have eg := H.eg
  go_enter Tryz.func134, Tryz.ntmps134
  go_wp2_with fail
  generalize w.alloc (.cells #[.func (.func g) #[] cb, .func (.func sf) #[] sb] 167) = W0 at HX0 HR0 HG0 ⊢
  generalize w.heap.size = X at HX0 hlw ⊢
  go_loopg [6] (b + 1) (fun kx s6 wr => ∃ (i : Nat) (dk : Array α), s6 = .int .i64 i ∧ a < i ∧ i ≤ b + 1 ∧ b + 1 - i ≤ kx ∧ dk.size = n ∧ Hid (R dk wr) ∧ Hid (w.grownBy wr (some blk)) ∧ Hid (wr.heap[X]? = some (.cells #[.func (.func g) #[] cb, .func (.func sf) #[] sb] 167)) ∧ Hid (insOuter lt a b i dk = insertionSort lt d a b))
  case atStart => exact ⟨a + 1, d, by first | rfl | go_num | (congr 1; omega), by omega, by omega, by omega, hd, HR0, HG0, HX0, rfl⟩
  case round =>
    obtain ⟨i, dk, rfl, hai, hib, hkx, hdk, HR, HG, HX, HE⟩ := hrel
    by_cases hlt : i < b
    · have hltz : (i : Int) < (b : Int) := by omega
      go_wp2_with fail
      go_loopg [7] i (fun ky s7 wi => ∃ (j : Nat) (dj : Array α), s7 = .int .i64 j ∧ j ≤ i ∧ j ≤ ky ∧ dj.size = n ∧ Hid (R dj wi) ∧ Hid (w.grownBy wi (some blk)) ∧ Hid (wi.heap[X]? = some (.cells #[.func (.func g) #[] cb, .func (.func sf) #[] sb] 167)) ∧ Hid (insInner lt a j dj = insInner lt a i dk))
      case atStart => exact ⟨i, dk, rfl, Nat.le_refl _, Nat.le_refl _, hdk, HR, HG, HX, rfl⟩
      case round =>
        obtain ⟨j, dj, rfl, hji, hjy, hdj, HRJ, HGJ, HXJ, HEJ⟩ := hrel
        have hXl : X < wr.heap.size := (Array.getElem?_eq_some_iff.1 HXJ.out).1
        have hXw := HXJ.out
        have x0 : wr.cell? ⟨X, 0, none⟩ = some (.func (.func g) #[] cb) := by simp only [World.cell?, hXw]; rfl
        have x1 : wr.cell? ⟨X, 1, none⟩ = some (.func (.func sf) #[] sb) := by simp only [World.cell?, hXw]; rfl
        clear hXw
        by_cases hja : a < j
        · have hjd : decide (a < j) = true := decide_eq_true hja
          have hjz : (j : Int) > (a : Int) := by omega
          obtain ⟨q, rfl⟩ : ∃ q, j = q + 1 := ⟨j - 1, by omega⟩
          have HL := Lib.hid (H.less dj wr (q + 1) q HRJ.out hdj (by omega) (by omega))
          have eq1 : ((q + 1 : Nat) : Int) - 1 = (q : Int) := by omega
          cases hl : lt dj[q + 1]! dj[q]! with
          | true =>
            rw [hl, show ((q + 1 : Nat) : Int) = (q : Int) + 1 by omega] at HL
            have HHL := Lib.hid hl
            clear hl
            go_wp2_with fail
            refine HL.out.mono ?_
            rintro e w2 ⟨rfl, hR2, hG2⟩
            have HX2 : Hid (w2.heap[X]? = some (.cells #[.func (.func g) #[] cb, .func (.func sf) #[] sb] 167)) := Lib.hid ((hG2.block X hXl (by intro e; cases e; omega)).trans HXJ.out)
            have HR2 := Lib.hid hR2
            have HG2 := Lib.hid (gbTs HGJ.out hG2)
            clear hR2 hG2
            obtain ⟨w3, hsw, hR3, hG3⟩ := H.swap dj w2 (q + 1) q HR2.out hdj (by omega) (by omega)
            rw [show ((q + 1 : Nat) : Int) = (q : Int) + 1 by omega] at hsw
            have hXl2 : X < w2.heap.size := (Array.getElem?_eq_some_iff.1 HX2.out).1
            have HX3 : Hid (w3.heap[X]? = some (.cells #[.func (.func g) #[] cb, .func (.func sf) #[] sb] 167)) := Lib.hid ((hG3.block X hXl2 (by intro e; cases e; omega)).trans HX2.out)
            have hXw := HX2.out
            have y0 : w2.cell? ⟨X, 0, none⟩ = some (.func (.func g) #[] cb) := by simp only [World.cell?, hXw]; rfl
            have y1 : w2.cell? ⟨X, 1, none⟩ = some (.func (.func sf) #[] sb) := by simp only [World.cell?, hXw]; rfl
            have HR3 := Lib.hid hR3
            have HG3 := Lib.hid (gbTs HG2.out hG3)
            clear hXw hR3 hG3 x0 x1
            go_wp2_with fail
            go_roundg q
            case measure => omega
            case rel =>
              refine ⟨q, swp dj (q + 1) q, by first | rfl | go_num | (congr 1; omega), by omega, Nat.le_refl _, by rw [size_swp]; exact hdj, HR3, HG3, HX3, (show Hid _ from ?_)⟩
              show _ = _
              rw [← HEJ.out]
              conv => rhs; rw [insInner, if_pos (by rw [HHL.out]; simpa using hja)]
          | false =>
            rw [hl, show ((q + 1 : Nat) : Int) = (q : Int) + 1 by omega] at HL
            have HHL := Lib.hid hl
            clear hl
            go_wp2_with fail
            refine HL.out.mono ?_
            rintro e w2 ⟨rfl, hR2, hG2⟩
            have HX2 : Hid (w2.heap[X]? = some (.cells #[.func (.func g) #[] cb, .func (.func sf) #[] sb] 167)) := Lib.hid ((hG2.block X hXl (by intro e; cases e; omega)).trans HXJ.out)
            have HR2 := Lib.hid hR2
            have HG2 := Lib.hid (gbTs HGJ.out hG2)
            clear hR2 hG2
            clear x0 x1
            go_wp2_with fail
            go_roundg (b + 1 - (i + 1))
            case measure => omega
            case rel =>
              refine ⟨i + 1, dj, by first | rfl | go_num | (congr 1; omega), by omega, by omega, Nat.le_refl _, hdj, HR2, HG2, HX2, (show Hid _ from ?_)⟩
              show _ = _
              have h1 := HEJ.out
              rw [insInner, if_neg (by rw [HHL.out]; simp)] at h1
              rw [← HE.out, h1]
              conv => rhs; rw [insOuter, if_pos hlt]
        · have hjd : decide (a < j) = false := decide_eq_false hja
          have hjz : ¬ (j : Int) > (a : Int) := by omega
          go_wp2_with fail
          go_roundg (b + 1 - (i + 1))
          case measure => omega
          case rel =>
            refine ⟨i + 1, dj, by first | rfl | go_num | (congr 1; omega), by omega, by omega, Nat.le_refl _, hdj, HRJ, HGJ, HXJ, (show Hid _ from ?_)⟩
            show _ = _
            have h1 := HEJ.out
            have h2 : insInner lt a j dj = dj := by
              cases j with
              | zero => rfl
              | succ q => rw [insInner, if_neg (by simp; omega)]
            rw [h2] at h1
            rw [← HE.out, h1]
            conv => rhs; rw [insOuter, if_pos hlt]
    · have hltz : ¬ (i : Int) < (b : Int) := by omega
      go_wp2_with fail
      go_end0
      have h1 := HE.out
      rw [insOuter, if_neg hlt] at h1
      exact ⟨rfl, by rw [← h1]; exact HR.out, HG.out⟩
end
end Go.Proofs.YtpbbbiifeihkaaaGreatDoor
