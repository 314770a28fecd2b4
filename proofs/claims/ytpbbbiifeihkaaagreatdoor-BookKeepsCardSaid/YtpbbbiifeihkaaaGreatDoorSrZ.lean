/- sort.stable_func over an abstract row. -/
import Derived.Test.YtpbbbiifeihkaaaGreatDoorSrY
namespace Go.Proofs.YtpbbbiifeihkaaaGreatDoor
open Go.RowKit Go.Lib Go.Sort
set_option linter.unusedVariables false
set_option linter.unusedSimpArgs false
variable {α : Type} [Inhabited α]
theorem srI1 (lt : α → α → Bool) (a : Nat) : ∀ (j : Nat) (d : Array α), (insInner lt a j d).size = d.size := by
  intro j
  induction j with
  | zero => intro d; rfl
  | succ j ih =>
    intro d
    rw [insInner]
    split
    · rw [ih, size_swp]
    · rfl
theorem srI2 (lt : α → α → Bool) (a b : Nat) : ∀ (i : Nat) (d : Array α), (insOuter lt a b i d).size = d.size := by
  intro i
  induction h : b - i generalizing i with
  | zero => intro d; rw [insOuter, if_neg (by omega)]
  | succ n ih => intro d; rw [insOuter, if_pos (by omega), ih (i + 1) (by omega), srI1]
theorem srI (lt : α → α → Bool) (d : Array α) (a b : Nat) : (insertionSort lt d a b).size = d.size := srI2 lt a b _ d
section
variable {blk n : Nat} {lt : α → α → Bool} {g : Nat} {cb : Array Value} {sf : Nat} {sb : Array Value} {R : Array α → World → Prop}

set_option maxHeartbeats 8000000 in
set_option maxRecDepth 100000 in
theorem stable_f (H : SrH blk n lt g cb sf sb R) (d : Array α) (w : World) (hR : R d w) (hd : d.size = n) (hn : n < 2305843009213693952) :
    Calls Tryz.prog 97 #[.agg #[.func (.func g) #[] cb, .func (.func sf) #[] sb], .int .i64 n] w fun e w' => e = .returned (.tuple #[]) ∧ R (Stb.stab lt d n) w' ∧ w.grownBy w' (some blk) := by
  have hlw := H.low d w hR
  have hbx := (Below.refl w.heap.size w).new (.cells #[.func (.func g) #[] cb, .func (.func sf) #[] sb] 167)
  have HX0 := Lib.hid (World.alloc_heap_new w (.cells #[.func (.func g) #[] cb, .func (.func sf) #[] sb] 167))
  have HR0 := Lib.hid (H.keep d w _ hR hbx)
  have HG0 := Lib.hid (gbBs (some blk) hbx)
  clear hbx hR
  have HI := Lib.hid (fun (dk : Array α) (W : World) (x y : Nat) (h : R dk W) (hz : dk.size = n) (h1 : x ≤ y) (h2 : y ≤ n) => insertion_f H x y dk W h hz h1 h2 (by omega))
  have HM := Lib.hid (fun (dk : Array α) (W : World) (x y z : Nat) (h : R dk W) (hz : dk.size = n) (h1 : x < y) (h2 : y < z) (h3 : z ≤ n) => symMerge_f H (by omega) (z - x) x y z dk W (Nat.le_refl _) h hz h1 h2 h3)
  go_enter Tryz.func97, Tryz.ntmps97
  go_wp2_with fail
  generalize w.alloc (.cells #[.func (.func g) #[] cb, .func (.func sf) #[] sb] 167) = W0 at HX0 HR0 HG0 ⊢
  generalize w.heap.size = X at HX0 hlw ⊢
  go_loopg [5, 6] (n + 1) (fun kx s7 s8 wr => ∃ (a b : Nat) (dk : Array α), s7 = .int .i64 a ∧ s8 = .int .i64 b ∧ a ≤ n ∧ (b ≤ a + 20 ∧ a + 20 ≤ b) ∧ n + 1 - b ≤ kx ∧ dk.size = n ∧ Hid (R dk wr) ∧ Hid (w.grownBy wr (some blk)) ∧ Hid (wr.heap[X]? = some (.cells #[.func (.func g) #[] cb, .func (.func sf) #[] sb] 167)) ∧ Hid (Stb.blk lt dk a b n = Stb.blk lt d 0 20 n))
  case atStart => exact ⟨0, 20, d, rfl, rfl, by omega, by omega, by omega, hd, HR0, HG0, HX0, rfl⟩
  case round =>
    obtain ⟨a, b, dk, rfl, rfl, ha, hab, hkx, hdk, HR, HG, HX, HE⟩ := hrel
    have hXl : X < wr.heap.size := (Array.getElem?_eq_some_iff.1 HX.out).1
    have hXw := HX.out
    have x0 : wr.cell? ⟨X, 0, none⟩ = some (.func (.func g) #[] cb) := by simp only [World.cell?, hXw]; rfl
    have x1 : wr.cell? ⟨X, 1, none⟩ = some (.func (.func sf) #[] sb) := by simp only [World.cell?, hXw]; rfl
    clear hXw
    by_cases hlt : b ≤ n
    · have hltz : (b : Int) ≤ (n : Int) := by omega
      have hc := Lib.hid (HI.out dk wr a b HR.out hdk (by omega) hlt)
      go_wp2_with fail
      refine hc.out.mono ?_
      rintro e1 w1 ⟨rfl, hR2, hG2⟩
      have HX2 : Hid (w1.heap[X]? = some (.cells #[.func (.func g) #[] cb, .func (.func sf) #[] sb] 167)) := Lib.hid ((hG2.block X hXl (by intro e; cases e; omega)).trans HX.out)
      have HR2 := Lib.hid hR2
      have HG2 := Lib.hid (gbTs HG.out hG2)
      clear hR2 hG2 x0 x1
      go_wp2_with fail
      go_roundg (n + 1 - (b + 20))
      case measure => omega
      case rel =>
        refine ⟨b, b + 20, insertionSort lt dk a b, rfl, by first | rfl | go_num | (congr 1; omega), hlt, by omega, Nat.le_refl _, by rw [srI]; exact hdk, HR2, HG2, HX2, (show Hid _ from ?_)⟩
        show _ = _
        rw [← HE.out]
        conv => rhs; rw [Stb.blk, if_pos hlt]
    · have hltz : ¬ (b : Int) ≤ (n : Int) := by omega
      have hc := Lib.hid (HI.out dk wr a n HR.out hdk ha (Nat.le_refl n))
      have HB : Hid (insertionSort lt dk a n = Stb.blk lt d 0 20 n) := by
        show _ = _
        rw [← HE.out, Stb.blk, if_neg hlt]
      have hdk2 : (insertionSort lt dk a n).size = n := by rw [srI]; exact hdk
      go_wp2_with fail
      refine hc.out.mono ?_
      rintro e1 w1 ⟨rfl, hR2, hG2⟩
      have HX2 : Hid (w1.heap[X]? = some (.cells #[.func (.func g) #[] cb, .func (.func sf) #[] sb] 167)) := Lib.hid ((hG2.block X hXl (by intro e; cases e; omega)).trans HX.out)
      have HR2 := Lib.hid hR2
      have HG2 := Lib.hid (gbTs HG.out hG2)
      clear hR2 hG2 x0 x1
      go_wp2_with fail
      clear HR HG HX hc HE hltz hlt hkx hab ha hdk
      generalize insertionSort lt dk a n = d1 at HR2 HB hdk2
      go_loopg [4, 5, 6] n (fun kx s6 s7 s8 wr => ∃ (z : Nat) (dk : Array α), s6 = .int .i64 z ∧ 0 < z ∧ n - z ≤ kx ∧ dk.size = n ∧ Hid (R dk wr) ∧ Hid (w.grownBy wr (some blk)) ∧ Hid (wr.heap[X]? = some (.cells #[.func (.func g) #[] cb, .func (.func sf) #[] sb] 167)) ∧ Hid (Stb.outer lt z dk n = Stb.outer lt 20 d1 n))
      case atStart => exact ⟨20, d1, rfl, by omega, by omega, hdk2, HR2, HG2, HX2, rfl⟩
      case round =>
        clear HR2 HG2 HX2
        obtain ⟨z, dk, rfl, hz, hkx, hdk, HR, HG, HX, HE⟩ := hrel
        by_cases hlt : z < n
        · have hltz : (z : Int) < (n : Int) := by omega
          have HO : Hid (Stb.outer lt (2 * z) (Stb.mloop lt z dk 0 (2 * z) n) n = Stb.outer lt 20 d1 n) := by
            show _ = _
            rw [← HE.out]
            conv => rhs; rw [Stb.outer, dif_pos ⟨hlt, hz⟩]
          clear HE
          go_wp2_with fail
          go_loopg [5, 6] (n + 1) (fun kx2 s7 s8 wr => ∃ (a b : Nat) (dj : Array α), s7 = .int .i64 a ∧ s8 = .int .i64 b ∧ a ≤ n ∧ (b ≤ a + 2 * z ∧ a + 2 * z ≤ b) ∧ n + 1 - b ≤ kx2 ∧ dj.size = n ∧ Hid (R dj wr) ∧ Hid (w.grownBy wr (some blk)) ∧ Hid (wr.heap[X]? = some (.cells #[.func (.func g) #[] cb, .func (.func sf) #[] sb] 167)) ∧ Hid (Stb.mloop lt z dj a b n = Stb.mloop lt z dk 0 (2 * z) n))
          case atStart => exact ⟨0, 2 * z, dk, rfl, by first | rfl | go_num | (congr 1; omega), by omega, by omega, by omega, hdk, HR, HG, HX, rfl⟩
          case round =>
            clear HR HG HX
            obtain ⟨a, b, dj, rfl, rfl, ha, hab, hkx2, hdj, HR, HG, HX, HE⟩ := hrel
            have hXl : X < wr.heap.size := (Array.getElem?_eq_some_iff.1 HX.out).1
            have hXw := HX.out
            have x0 : wr.cell? ⟨X, 0, none⟩ = some (.func (.func g) #[] cb) := by simp only [World.cell?, hXw]; rfl
            have x1 : wr.cell? ⟨X, 1, none⟩ = some (.func (.func sf) #[] sb) := by simp only [World.cell?, hXw]; rfl
            clear hXw
            by_cases hlt2 : b ≤ n
            · have hlt2z : (b : Int) ≤ (n : Int) := by omega
              have hc := Lib.hid (HM.out dj wr a (a + z) b HR.out hdj (by omega) (by omega) hlt2)
              rw [show ((a + z : Nat) : Int) = (a : Int) + (z : Int) by omega] at hc
              go_wp2_with fail
              refine hc.out.mono ?_
              rintro e1 w1 ⟨rfl, hR2, hG2⟩
              have HX2 : Hid (w1.heap[X]? = some (.cells #[.func (.func g) #[] cb, .func (.func sf) #[] sb] 167)) := Lib.hid ((hG2.block X hXl (by intro e; cases e; omega)).trans HX.out)
              have HR2 := Lib.hid hR2
              have HG2 := Lib.hid (gbTs HG.out hG2)
              clear hR2 hG2 x0 x1
              go_wp2_with fail
              go_roundg (n + 1 - (b + 2 * z))
              case measure => omega
              case rel =>
                refine ⟨b, b + 2 * z, Stb.sym lt (b - a) dj a (a + z) b, rfl, by first | rfl | go_num | (congr 1; omega), hlt2, by omega, Nat.le_refl _, by rw [Stb.sym_size]; exact hdj, HR2, HG2, HX2, (show Hid _ from ?_)⟩
                show _ = _
                rw [← HE.out]
                conv => rhs; rw [Stb.mloop, dif_pos ⟨hlt2, hz⟩]
            · have hlt2z : ¬ (b : Int) ≤ (n : Int) := by omega
              by_cases hm : a + z < n
              · have hmz : (a : Int) + (z : Int) < (n : Int) := by omega
                have hc := Lib.hid (HM.out dj wr a (a + z) n HR.out hdj (by omega) hm (Nat.le_refl n))
                rw [show ((a + z : Nat) : Int) = (a : Int) + (z : Int) by omega] at hc
                go_wp2_with fail
                refine hc.out.mono ?_
                rintro e1 w1 ⟨rfl, hR2, hG2⟩
                have HX2 : Hid (w1.heap[X]? = some (.cells #[.func (.func g) #[] cb, .func (.func sf) #[] sb] 167)) := Lib.hid ((hG2.block X hXl (by intro e; cases e; omega)).trans HX.out)
                have HR2 := Lib.hid hR2
                have HG2 := Lib.hid (gbTs HG.out hG2)
                clear hR2 hG2 x0 x1
                go_wp2_with fail
                go_roundg (n - 2 * z)
                case measure => omega
                case rel =>
                  refine ⟨2 * z, Stb.sym lt (n - a) dj a (a + z) n, by first | rfl | go_num | (congr 1; omega), by omega, Nat.le_refl _, by rw [Stb.sym_size]; exact hdj, HR2, HG2, HX2, (show Hid _ from ?_)⟩
                  show _ = _
                  rw [← HO.out, ← HE.out]
                  conv => rhs; rw [Stb.mloop, dif_neg (fun h => hlt2 h.1), if_pos hm]
              · have hmz : ¬ (a : Int) + (z : Int) < (n : Int) := by omega
                clear x0 x1
                go_wp2_with fail
                go_roundg (n - 2 * z)
                case measure => omega
                case rel =>
                  refine ⟨2 * z, dj, by first | rfl | go_num | (congr 1; omega), by omega, Nat.le_refl _, hdj, HR, HG, HX, (show Hid _ from ?_)⟩
                  show _ = _
                  rw [← HO.out, ← HE.out]
                  conv => rhs; rw [Stb.mloop, dif_neg (fun h => hlt2 h.1), if_neg hm]
        · have hltz : ¬ (z : Int) < (n : Int) := by omega
          go_wp2_with fail
          go_end0
          have h1 := HE.out
          rw [Stb.outer, dif_neg (fun h => hlt h.1)] at h1
          refine ⟨rfl, ?_, HG.out⟩
          unfold Stb.stab
          rw [← HB.out, ← h1]
          exact HR.out
end
end Go.Proofs.YtpbbbiifeihkaaaGreatDoor
