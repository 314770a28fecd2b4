/- slices' stable sort at structs of k cells: swapRange and rotate, walked. -/
import Derived.Shelf.SlSortCmp.KitK
import Derived.Sort.WalkB2
import Derived.Sort.WalkB12
import Derived.Deep.LoopGhost
import Derived.Test.YtefbedineniejaaDoorProg
import Derived.Test.YtefbedineniejaaDoorBase
import Derived.Test.YtefbedineniejaaDoorStI
namespace Go.Proofs.YtefbedineniejaaDoor
open Go.Shelf Go.RowKit Go.Lib Go.Sort
variable {P : Program} {α : Type} [Inhabited α]
/-- What the walks ask of a program. -/
structure StL (P : Program) : Prop where
  mixed : P.follows .mixedOrders = true
  fswr : P.funcs[115]? = some Tryd.f115
  frot : P.funcs[111]? = some Tryd.f111
  fsym : P.funcs[103]? = some Tryd.f103
  fstab : P.funcs[83]? = some Tryd.f83
  fins : P.funcs[102]? = some Tryd.f102
  tT : P.underlying 0 = some (TypeDesc.tuple #[])
  aT : ∀ w, (isAgg 0).run P w = .ok false w
  zT : ∀ w, (Go.sizeOf 0).run P w = .ok 1 w
  vT : ∀ w, (zeroValue 0).run P w = .ok (Value.tuple #[]) w
  tI : P.underlying 3 = some (TypeDesc.int IntKind.i64)
  aI : ∀ w, (isAgg 3).run P w = .ok false w
  zI : ∀ w, (Go.sizeOf 3).run P w = .ok 1 w
  vI : ∀ w, (zeroValue 3).run P w = .ok (Value.int IntKind.i64 0) w
  tB : P.underlying 4 = some (TypeDesc.bool)
  aB : ∀ w, (isAgg 4).run P w = .ok false w
  zB : ∀ w, (Go.sizeOf 4).run P w = .ok 1 w
  vB : ∀ w, (zeroValue 4).run P w = .ok (Value.bool false) w
  tU : P.underlying 104 = some (TypeDesc.int IntKind.u64)
  aU : ∀ w, (isAgg 104).run P w = .ok false w
  zU : ∀ w, (Go.sizeOf 104).run P w = .ok 1 w
  vU : ∀ w, (zeroValue 104).run P w = .ok (Value.int IntKind.u64 0) w
  tS : P.underlying 37 = some (TypeDesc.slice 50)
  aS : ∀ w, (isAgg 37).run P w = .ok false w
  zS : ∀ w, (Go.sizeOf 37).run P w = .ok 1 w
  vS : ∀ w, (zeroValue 37).run P w = .ok (Value.slice none 0 0) w
  tC : P.underlying 99 = some (TypeDesc.func #[50, 50] #[3] false)
  aC : ∀ w, (isAgg 99).run P w = .ok false w
  zC : ∀ w, (Go.sizeOf 99).run P w = .ok 1 w
  vC : ∀ w, (zeroValue 99).run P w = .ok (Value.nilFunc) w

set_option maxHeartbeats 4000000 in
set_option maxRecDepth 1000000 in
theorem swapRange_w (L : StL P) (k : Nat) (aE : ∀ w, (isAgg 50).run P w = .ok true w) (zE : ∀ w, (Go.sizeOf 50).run P w = .ok k w) (enc : α → List Value) (g : Nat) (cb : Array Value) (blk off cap a b n : Nat) (d0 d : Array α) (w0 w : World)
    (R : RowK enc k w0 blk off d0) (hs : d0.size = d.size) (S : SWK enc k w0 blk off d w) (hab : a + n ≤ b) (hb : b + n ≤ d.size) (hsz : d.size < 4611686018427387904) :
    Calls P 115 #[.slice (some ⟨blk, off, none⟩) d.size cap, .int .i64 a, .int .i64 b, .int .i64 n, .func (.func g) #[] cb] w fun e w' => e = .returned (.tuple #[]) ∧ SWK enc k w0 blk off (Stb.swr d a b n 0) w' := by
  have mixed := L.mixed; have tT := L.tT; have aT := L.aT; have zT := L.zT; have vT := L.vT; have tI := L.tI; have aI := L.aI; have zI := L.zI; have vI := L.vI; have tB := L.tB; have aB := L.aB; have zB := L.zB; have vB := L.vB; have tU := L.tU; have aU := L.aU; have zU := L.zU; have vU := L.vU; have tS := L.tS; have aS := L.aS; have zS := L.zS; have vS := L.vS; have tC := L.tC; have aC := L.aC; have zC := L.zC; have vC := L.vC
  have FG := L.fswr
  have S0 : Aside (SWK enc k w0 blk off d w) := S
  clear S
  go_enter FG, Tryd.ntmps115
  go_wp2
  go_loopg [10] n (fun kx s10 wr => ∃ (i : Nat) (dk : Array α), s10 = .int .i64 i ∧ i ≤ n ∧ n - i ≤ kx ∧ dk.size = d.size ∧ Aside (SWK enc k w0 blk off dk wr) ∧ Hid (Stb.swr dk a b n i = Stb.swr d a b n 0))
  case atStart => exact ⟨0, d, rfl, by omega, by omega, rfl, S0, rfl⟩
  case round =>
    clear S0
    obtain ⟨i, dk, rfl, hi, hkx, hds, S1, heq⟩ := hrel
    by_cases hlt : i < n
    · have hltz : (i : Int) < (n : Int) := by omega
      go_wp2_with fail
      have ea1 : ((a : Int) + (i : Int)).toNat = a + i := by omega
      have pa1 : (0 : Int) ≤ (a : Int) + (i : Int) := by omega
      have ba1 : (a : Int) + (i : Int) < (d.size : Int) := by omega
      have ra1 : IntKind.i64.wrap ((a : Int) + (i : Int)) = (a : Int) + (i : Int) := by rw [IntKind.wrap_i64]; omega
      have ec1 : ((b : Int) + (i : Int)).toNat = b + i := by omega
      have pc1 : (0 : Int) ≤ (b : Int) + (i : Int) := by omega
      have bc1 : (b : Int) + (i : Int) < (d.size : Int) := by omega
      have rc1 : IntKind.i64.wrap ((b : Int) + (i : Int)) = (b : Int) + (i : Int) := by rw [IntKind.wrap_i64]; omega
      have S2 : Aside (SWK enc k w0 blk off (swp dk (a + i) (b + i)) ((wr.drew.setCells blk (off + (a + i) * k) (enc dk[b + i]!)).setCells blk (off + (b + i) * k) (enc dk[a + i]!))) := S1.out.swapped R (a + i) (b + i) (by omega) (by omega)
      have l1a := S1.out.ld1 R (by omega) P (a + i) (by omega)
      have l1b := S1.out.ld1 R (by omega) P (b + i) (by omega)
      have s1a := S1.out.st1 R (by omega) P (a + i) (by omega) dk[b + i]!
      have s1b := S1.out.st2 R (by omega) P (a + i) (b + i) (by omega) (by omega) dk[b + i]! dk[a + i]!
      have n1a : (enc dk[a + i]!).length = k := R.hk _
      have n1b : (enc dk[b + i]!).length = k := R.hk _
      generalize enc dk[a + i]! = cI1 at S2 l1a s1b n1a
      generalize enc dk[b + i]! = cJ1 at S2 l1b s1a s1b n1b
      clear S1
      go_wp2_with fail
      go_big_region_o
      clear l1a l1b s1a s1b
      generalize (wr.drew.setCells blk (off + (a + i) * k) cJ1).setCells blk (off + (b + i) * k) cI1 = w2 at S2 ⊢
      go_wp2
      go_roundg (n - (i + 1))
      case measure => omega
      case rel =>
        refine ⟨i + 1, swp dk (a + i) (b + i), by go_num, by omega, Nat.le_refl _, by rw [size_swp]; exact hds, S2, (show Hid _ from ?_)⟩
        show _ = _
        rw [← heq.out]
        conv => rhs; rw [Stb.swr, if_pos hlt]
    · have hltz : ¬ (i : Int) < (n : Int) := by omega
      go_wp2
      go_end0
      refine ⟨rfl, ?_⟩
      have := heq.out
      rw [Stb.swr, if_neg hlt] at this
      rw [← this]
      exact S1.out

set_option maxHeartbeats 4000000 in
set_option maxRecDepth 1000000 in
theorem rotate_w (L : StL P) (k : Nat) (aE : ∀ w, (isAgg 50).run P w = .ok true w) (zE : ∀ w, (Go.sizeOf 50).run P w = .ok k w) (enc : α → List Value) (g : Nat) (cb : Array Value) (blk off cap a m b : Nat) (d0 d : Array α) (w0 w : World)
    (R : RowK enc k w0 blk off d0) (hs : d0.size = d.size) (S : SWK enc k w0 blk off d w) (ham : a < m) (hmb : m < b) (hb : b ≤ d.size) (hsz : d.size < 4611686018427387904) :
    Calls P 111 #[.slice (some ⟨blk, off, none⟩) d.size cap, .int .i64 a, .int .i64 m, .int .i64 b, .func (.func g) #[] cb] w fun e w' => e = .returned (.tuple #[]) ∧ SWK enc k w0 blk off (Stb.rot m (m - a) (b - m) d) w' := by
  have mixed := L.mixed; have tT := L.tT; have aT := L.aT; have zT := L.zT; have vT := L.vT; have tI := L.tI; have aI := L.aI; have zI := L.zI; have vI := L.vI; have tB := L.tB; have aB := L.aB; have zB := L.zB; have vB := L.vB; have tU := L.tU; have aU := L.aU; have zU := L.zU; have vU := L.vU; have tS := L.tS; have aS := L.aS; have zS := L.zS; have vS := L.vS; have tC := L.tC; have aC := L.aC; have zC := L.zC; have vC := L.vC
  have FG := L.frot
  have eswr : ∀ args w, (callFunc 115 args).run P w = .ok (.enter 115 args) w := enters_of L.fswr (by kernel_rfl) rfl
  have S0 : Aside (SWK enc k w0 blk off d w) := S
  have HW := fun (dk : Array α) (W : World) (x y n : Nat) (hz : dk.size = d.size) (SS : SWK enc k w0 blk off dk W) (h1 : x + n ≤ y) (h2 : y + n ≤ dk.size) => swapRange_w L k aE zE enc g cb blk off cap x y n d0 dk w0 W R (by omega) SS h1 h2 (by omega)
  clear S
  have HWA : Aside _ := HW
  clear HW
  go_enter FG, Tryd.ntmps111
  have ea : (m : Int) - (a : Int) = ((m - a : Nat) : Int) := by omega
  have eb : (b : Int) - (m : Int) = ((b - m : Nat) : Int) := by omega
  go_wp2
  go_loopg [10, 11] (b - a) (fun kx s10 s11 wr => ∃ (i j : Nat) (dk : Array α), s10 = .int .i64 i ∧ s11 = .int .i64 j ∧ 0 < i ∧ 0 < j ∧ i ≤ m ∧ m + j ≤ d.size ∧ i + j ≤ kx ∧ dk.size = d.size ∧ Aside (SWK enc k w0 blk off dk wr) ∧ Hid (Stb.rot m i j dk = Stb.rot m (m - a) (b - m) d))
  case atStart => exact ⟨m - a, b - m, d, rfl, rfl, by omega, by omega, by omega, by omega, by omega, rfl, S0, rfl⟩
  case round =>
    clear S0 ea eb
    obtain ⟨i, j, dk, rfl, rfl, hi, hj, him, hjm, hkx, hds, S1, heq⟩ := hrel
    have e1 : (m : Int) - (i : Int) = ((m - i : Nat) : Int) := by omega
    by_cases heq1 : i = j
    · subst heq1
      have hne : ((i : Int) != (i : Int)) = false := by simp
      have hc := HWA.out dk wr (m - i) m i hds S1.out (by omega) (by omega)
      rw [hds] at hc
      go_wp2_with (go_at_fn 115; refine hc.mono ?_; rintro e w1 ⟨rfl, hw1⟩)
      go_end0
      refine ⟨rfl, ?_⟩
      have := heq.out
      rw [Stb.rot, dif_pos (by omega)] at this
      rw [← this]
      exact hw1
    · have hne : ((i : Int) != (j : Int)) = true := by simp; omega
      have hnz : ¬ (i : Int) = (j : Int) := by omega
      by_cases hlt : j < i
      · have hltz : (j : Int) < (i : Int) := by omega
        have e2 : (i : Int) - (j : Int) = ((i - j : Nat) : Int) := by omega
        have hc := HWA.out dk wr (m - i) m j hds S1.out (by omega) (by omega)
        rw [hds] at hc
        go_wp2_with (go_at_fn 115; refine hc.mono ?_; rintro e w1 ⟨rfl, hw1⟩)
        go_roundg (i - j + j)
        case measure => omega
        case rel =>
          refine ⟨i - j, j, Stb.swr dk (m - i) m j 0, by first | rfl | (congr 1; omega), rfl, by omega, by omega, by omega, by omega, by omega, by rw [Stb.swr_size]; exact hds, hw1, (show Hid _ from ?_)⟩
          show _ = _
          rw [← heq.out]
          conv => rhs; rw [Stb.rot, dif_neg (by omega), dif_pos hlt]
      · have hltz : ¬ (j : Int) < (i : Int) := by omega
        have e2 : (j : Int) - (i : Int) = ((j - i : Nat) : Int) := by omega
        have e3 : (m : Int) + (j : Int) - (i : Int) = ((m + j - i : Nat) : Int) := by omega
        have hc := HWA.out dk wr (m - i) (m + j - i) i hds S1.out (by omega) (by omega)
        rw [hds] at hc
        go_wp2_with (go_at_fn 115; refine hc.mono ?_; rintro e w1 ⟨rfl, hw1⟩)
        go_roundg (i + (j - i))
        case measure => omega
        case rel =>
          refine ⟨i, j - i, Stb.swr dk (m - i) (m + j - i) i 0, rfl, by first | rfl | (congr 1; omega), by omega, by omega, by omega, by omega, by omega, by rw [Stb.swr_size]; exact hds, hw1, (show Hid _ from ?_)⟩
          show _ = _
          rw [← heq.out]
          conv => rhs; rw [Stb.rot, dif_neg (by omega), dif_neg hlt]
end Go.Proofs.YtefbedineniejaaDoor
