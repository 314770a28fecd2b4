/- slices' stable sort at structs of k cells, whole, walked; and what comes out of it. -/
import Derived.Test.YtefbedineniejaaDoorStY
import Derived.Test.YtefbedineniejaaDoorStI
namespace Go.Proofs.YtefbedineniejaaDoor
open Go.Shelf Go.RowKit Go.Lib Go.Sort
variable {P : Program} {α : Type} [Inhabited α]

def renI : Ren := ⟨fun n => if n = 20 then 102 else 0, fun n => if n = 3 then 3 else if n = 4 then 4 else if n = 22 then 37 else if n = 24 then 50 else if n = 25 then 99 else 0, fun n => n⟩
set_option maxRecDepth 1000000 in
theorem StL.ins (L : StL P) : SlLaysF0.n20 P renI :=
  { mixed := L.mixed, f20 := ⟨Tryd.f102.name, by kernel_rfl, by rw [show renI.f 20 = 102 from rfl, L.fins]; kernel_rfl⟩, t0 := L.tT, a0 := L.aT, z0 := L.zT, v0 := L.vT, t3 := L.tI, a3 := L.aI, z3 := L.zI, v3 := L.vI, t4 := L.tB, a4 := L.aB, z4 := L.zB, v4 := L.vB, t22 := L.tS, a22 := L.aS, z22 := L.zS, v22 := L.vS, t25 := L.tC, a25 := L.aC, z25 := L.zC, v25 := L.vC }
namespace Stb
variable (lt : α → α → Bool)
theorem insInner_size (a : Nat) : ∀ (j : Nat) (d : Array α), (insInner lt a j d).size = d.size := by
  intro j
  induction j with
  | zero => intro d; rfl
  | succ j ih =>
    intro d
    rw [insInner]
    split
    · rw [ih, swp_size]
    · rfl
theorem insOuter_size (a b : Nat) : ∀ (i : Nat) (d : Array α), (insOuter lt a b i d).size = d.size := by
  intro i
  induction h : b - i generalizing i with
  | zero => intro d; rw [insOuter, if_neg (by omega)]
  | succ n ih => intro d; rw [insOuter, if_pos (by omega), ih (i + 1) (by omega), insInner_size]
theorem insertionSort_size (d : Array α) (a b : Nat) : (insertionSort lt d a b).size = d.size := insOuter_size lt a b _ d
end Stb
theorem insertion_w (L : StL P) (k : Nat) (aE : ∀ w, (isAgg 50).run P w = .ok true w) (zE : ∀ w, (Go.sizeOf 50).run P w = .ok k w) (enc : α → List Value) (g : Nat) (cb : Array Value) (cf : α → α → Int) (eg : ∀ args w, (callFunc g args).run P w = .ok (.enter g args) w) (blk off cap a b : Nat) (d0 d : Array α) (w0 w : World)
    (hcmp : CmpLays P g cb enc k cf blk off d0.size w0) (R : RowK enc k w0 blk off d0) (hs : d0.size = d.size) (S : SWK enc k w0 blk off d w) (hab : a ≤ b) (hb : b ≤ d.size) (hsz : d.size < 4611686018427387904) :
    Calls P 102 #[.slice (some ⟨blk, off, none⟩) d.size cap, .int .i64 a, .int .i64 b, .func (.func g) #[] cb] w fun e w' => e = .returned (.tuple #[]) ∧ SWK enc k w0 blk off (insertionSort (ltOf cf) d a b) w' := by
  have hC : CmpLays P g cb enc k cf blk off d.size w := fun m os dk hdk x y => by
    obtain ⟨n0, os0, rfl⟩ := S
    rw [sortWorldK_on enc k w0 blk off n0 m d dk os0 os R.hblk hdk]
    exact hcmp _ _ dk (by omega) x y
  refine (AnyQ.insertionSortCmpFunc (ρ := renI) L.ins k aE zE enc R.hk R.h1 cf g cb blk off cap a b d w eg hC (S.holds R.hblk R.hH hs.symm) (S.lt R.hblk) hab hb hsz).mono ?_
  rintro e w' ⟨rfl, n, os, rfl⟩
  exact ⟨rfl, S.on R.hblk n _ os (Stb.insertionSort_size _ _ _ _)⟩

set_option maxHeartbeats 8000000 in
set_option maxRecDepth 1000000 in
theorem stable_w (L : StL P) (k : Nat) (aE : ∀ w, (isAgg 50).run P w = .ok true w) (zE : ∀ w, (Go.sizeOf 50).run P w = .ok k w) (enc : α → List Value) (g : Nat) (cb : Array Value) (cf : α → α → Int) (eg : ∀ args w, (callFunc g args).run P w = .ok (.enter g args) w) (blk off cap n : Nat) (d0 d : Array α) (w0 w : World)
    (hcmp : CmpLays P g cb enc k cf blk off d0.size w0) (R : RowK enc k w0 blk off d0) (hs : d0.size = d.size) (S : SWK enc k w0 blk off d w) (hn : n ≤ d.size) (hsz : d.size < 2305843009213693952) :
    Calls P 83 #[.slice (some ⟨blk, off, none⟩) d.size cap, .int .i64 n, .func (.func g) #[] cb] w fun e w' => e = .returned (.tuple #[]) ∧ SWK enc k w0 blk off (Stb.stab (ltOf cf) d n) w' := by
  have mixed := L.mixed; have tT := L.tT; have aT := L.aT; have zT := L.zT; have vT := L.vT; have tI := L.tI; have aI := L.aI; have zI := L.zI; have vI := L.vI; have tB := L.tB; have aB := L.aB; have zB := L.zB; have vB := L.vB; have tU := L.tU; have aU := L.aU; have zU := L.zU; have vU := L.vU; have tS := L.tS; have aS := L.aS; have zS := L.zS; have vS := L.vS; have tC := L.tC; have aC := L.aC; have zC := L.zC; have vC := L.vC
  have FG := L.fstab
  have eins : ∀ args w, (callFunc 102 args).run P w = .ok (.enter 102 args) w := enters_of L.fins (by kernel_rfl) rfl
  have esym : ∀ args w, (callFunc 103 args).run P w = .ok (.enter 103 args) w := enters_of L.fsym (by kernel_rfl) rfl
  have HI : Aside (∀ (dk : Array α) (W : World) (x y : Nat), dk.size = d.size → SWK enc k w0 blk off dk W → x ≤ y → y ≤ n → Calls P 102 #[.slice (some ⟨blk, off, none⟩) d.size cap, .int .i64 x, .int .i64 y, .func (.func g) #[] cb] W fun e w' => e = .returned (.tuple #[]) ∧ SWK enc k w0 blk off (insertionSort (ltOf cf) dk x y) w') := fun dk W x y hz SS q1 q2 => by
    have := insertion_w L k aE zE enc g cb cf eg blk off cap x y d0 dk w0 W hcmp R (by omega) SS q1 (by omega) (by omega)
    rw [hz] at this; exact this
  have HM : Aside (∀ (dk : Array α) (W : World) (x y z : Nat), dk.size = d.size → SWK enc k w0 blk off dk W → x < y → y < z → z ≤ n → Calls P 103 #[.slice (some ⟨blk, off, none⟩) d.size cap, .int .i64 x, .int .i64 y, .int .i64 z, .func (.func g) #[] cb] W fun e w' => e = .returned (.tuple #[]) ∧ SWK enc k w0 blk off (Stb.sym (ltOf cf) (z - x) dk x y z) w') := fun dk W x y z hz SS q1 q2 q3 => by
    have := symMerge_w L k aE zE enc g cb cf eg blk off cap d0 w0 hcmp R (z - x) x y z dk W (Nat.le_refl _) (by omega) SS q1 q2 (by omega) (by omega)
    rw [hz] at this; exact this
  have S0 : Aside (SWK enc k w0 blk off d w) := S
  clear S hcmp
  go_enter FG, Tryd.ntmps83
  go_wp2
  go_loopg [7, 8] (n + 1) (fun kx s7 s8 wr => ∃ (a b : Nat) (dk : Array α), s7 = .int .i64 a ∧ s8 = .int .i64 b ∧ a ≤ n ∧ (b ≤ a + 20 ∧ a + 20 ≤ b) ∧ n + 1 - b ≤ kx ∧ dk.size = d.size ∧ Aside (SWK enc k w0 blk off dk wr) ∧ Hid (Stb.blk (ltOf cf) dk a b n = Stb.blk (ltOf cf) d 0 20 n))
  case atStart => exact ⟨0, 20, d, rfl, rfl, by omega, by omega, by omega, rfl, S0, rfl⟩
  case round =>
    clear S0
    obtain ⟨a, b, dk, rfl, rfl, ha, hab, hkx, hds, S1, HE⟩ := hrel
    by_cases hlt : b ≤ n
    · have hltz : (b : Int) ≤ (n : Int) := by omega
      have hc := HI.out dk wr a b hds S1.out (by omega) hlt
      go_wp2_with (go_at_fn 102; refine hc.mono ?_; rintro e w1 ⟨rfl, hw1⟩)
      go_roundg (n + 1 - (b + 20))
      case measure => omega
      case rel =>
        refine ⟨b, b + 20, insertionSort (ltOf cf) dk a b, rfl, by first | rfl | go_num | (congr 1; omega), hlt, by omega, Nat.le_refl _, by rw [Stb.insertionSort_size]; exact hds, hw1, (show Hid _ from ?_)⟩
        show _ = _
        rw [← HE.out]
        conv => rhs; rw [Stb.blk, if_pos hlt]
    · have hltz : ¬ (b : Int) ≤ (n : Int) := by omega
      have hc := HI.out dk wr a n hds S1.out ha (Nat.le_refl n)
      have HB : Hid (insertionSort (ltOf cf) dk a n = Stb.blk (ltOf cf) d 0 20 n) := by
        show _ = _
        rw [← HE.out, Stb.blk, if_neg hlt]
      go_wp2_with (go_at_fn 102; refine hc.mono ?_; rintro e w1 ⟨rfl, hw1⟩)
      have S2 : Aside (SWK enc k w0 blk off (insertionSort (ltOf cf) dk a n) w1) := hw1
      clear S1 hw1 hc HE hltz hlt hkx hab ha
      have hds2 : (insertionSort (ltOf cf) dk a n).size = d.size := by rw [Stb.insertionSort_size]; exact hds
      generalize insertionSort (ltOf cf) dk a n = d1 at S2 HB hds2
      clear hds
      go_loopg [6, 7, 8] n (fun kx s6 s7 s8 wr => ∃ (z : Nat) (dk : Array α), s6 = .int .i64 z ∧ 0 < z ∧ n - z ≤ kx ∧ dk.size = d.size ∧ Aside (SWK enc k w0 blk off dk wr) ∧ Hid (Stb.outer (ltOf cf) z dk n = Stb.outer (ltOf cf) 20 d1 n))
      case atStart => exact ⟨20, d1, rfl, by omega, by omega, hds2, S2, rfl⟩
      case round =>
        clear S2 hds2
        obtain ⟨z, dk, rfl, hz, hkx, hds, S1, HE⟩ := hrel
        by_cases hlt : z < n
        · have hltz : (z : Int) < (n : Int) := by omega
          have HO : Hid (Stb.outer (ltOf cf) (2 * z) (Stb.mloop (ltOf cf) z dk 0 (2 * z) n) n = Stb.outer (ltOf cf) 20 d1 n) := by
            show _ = _
            rw [← HE.out]
            conv => rhs; rw [Stb.outer, dif_pos ⟨hlt, hz⟩]
          clear HE
          go_wp2
          go_loopg [7, 8] (n + 1) (fun kx2 s7 s8 wr => ∃ (a b : Nat) (dj : Array α), s7 = .int .i64 a ∧ s8 = .int .i64 b ∧ a ≤ n ∧ (b ≤ a + 2 * z ∧ a + 2 * z ≤ b) ∧ n + 1 - b ≤ kx2 ∧ dj.size = d.size ∧ Aside (SWK enc k w0 blk off dj wr) ∧ Hid (Stb.mloop (ltOf cf) z dj a b n = Stb.mloop (ltOf cf) z dk 0 (2 * z) n))
          case atStart => exact ⟨0, 2 * z, dk, rfl, by first | rfl | go_num | (congr 1; omega), by omega, by omega, by omega, hds, S1, rfl⟩
          case round =>
            clear S1
            obtain ⟨a, b, dj, rfl, rfl, ha, hab, hkx2, hdj, S1, HE⟩ := hrel
            by_cases hlt2 : b ≤ n
            · have hlt2z : (b : Int) ≤ (n : Int) := by omega
              have hc := HM.out dj wr a (a + z) b hdj S1.out (by omega) (by omega) hlt2
              rw [show ((a + z : Nat) : Int) = (a : Int) + (z : Int) by omega] at hc
              go_wp2_with (go_at_fn 103; refine hc.mono ?_; rintro e w1 ⟨rfl, hw1⟩)
              go_roundg (n + 1 - (b + 2 * z))
              case measure => omega
              case rel =>
                refine ⟨b, b + 2 * z, Stb.sym (ltOf cf) (b - a) dj a (a + z) b, rfl, by first | rfl | go_num | (congr 1; omega), hlt2, by omega, Nat.le_refl _, by rw [Stb.sym_size]; exact hdj, hw1, (show Hid _ from ?_)⟩
                show _ = _
                rw [← HE.out]
                conv => rhs; rw [Stb.mloop, dif_pos ⟨hlt2, hz⟩]
            · have hlt2z : ¬ (b : Int) ≤ (n : Int) := by omega
              by_cases hm : a + z < n
              · have hmz : (a : Int) + (z : Int) < (n : Int) := by omega
                have hc := HM.out dj wr a (a + z) n hdj S1.out (by omega) hm (Nat.le_refl n)
                rw [show ((a + z : Nat) : Int) = (a : Int) + (z : Int) by omega] at hc
                go_wp2_with (go_at_fn 103; refine hc.mono ?_; rintro e w1 ⟨rfl, hw1⟩)
                go_roundg (n - 2 * z)
                case measure => omega
                case rel =>
                  refine ⟨2 * z, Stb.sym (ltOf cf) (n - a) dj a (a + z) n, by first | rfl | go_num | (congr 1; omega), by omega, Nat.le_refl _, by rw [Stb.sym_size]; exact hdj, hw1, (show Hid _ from ?_)⟩
                  show _ = _
                  rw [← HO.out, ← HE.out]
                  conv => rhs; rw [Stb.mloop, dif_neg (fun h => hlt2 h.1), if_pos hm]
              · have hmz : ¬ (a : Int) + (z : Int) < (n : Int) := by omega
                go_wp2
                go_roundg (n - 2 * z)
                case measure => omega
                case rel =>
                  refine ⟨2 * z, dj, by first | rfl | go_num | (congr 1; omega), by omega, Nat.le_refl _, hdj, S1, (show Hid _ from ?_)⟩
                  show _ = _
                  rw [← HO.out, ← HE.out]
                  conv => rhs; rw [Stb.mloop, dif_neg (fun h => hlt2 h.1), if_neg hm]
        · have hltz : ¬ (z : Int) < (n : Int) := by omega
          go_wp2
          go_end0
          refine ⟨rfl, ?_⟩
          have := HE.out
          rw [Stb.outer, dif_neg (fun h => hlt h.1)] at this
          unfold Stb.stab
          rw [← HB.out, ← this]
          exact S1.out
end Go.Proofs.YtefbedineniejaaDoor
