/- Joined: StW, StY, StZ, StX. -/
import Derived.Shelf.SlSortCmp.KitK
import Derived.Sort.WalkB2
import Derived.Sort.WalkB12
import Derived.Deep.LoopGhost
import Derived.Test.YtackpcohmmlkeaaGreatDoorProg
import Derived.Test.YtackpcohmmlkeaaGreatDoorBase
import Derived.Test.YtackpcohmmlkeaaGreatDoorStI
import Derived.Deep.DeepCutAuto
import Derived.Test.YtackpcohmmlkeaaGreatDoorCsRp
import Derived.Test.YtackpcohmmlkeaaGreatDoorStQ
import Derived.Test.YtackpcohmmlkeaaGreatDoorEvG

/- StW: slices' stable sort at structs of k cells: swapRange and rotate, walked. -/
section
namespace Go.Proofs.YtackpcohmmlkeaaGreatDoor
open Go.Shelf Go.RowKit Go.Lib Go.Sort
variable {P : Program} {α : Type} [Inhabited α]
/-- What the walks ask of a program. -/
structure StL (P : Program) : Prop where
  mixed : P.follows .mixedOrders = true
  fswr : P.funcs[200]? = some Tryz.f200
  frot : P.funcs[193]? = some Tryz.f193
  fsym : P.funcs[170]? = some Tryz.f170
  fstab : P.funcs[132]? = some Tryz.f132
  fins : P.funcs[117]? = some Tryz.f117
  tT : P.underlying 0 = some (TypeDesc.tuple #[])
  aT : ∀ w, (isAgg 0).run P w = .ok false w
  zT : ∀ w, (Go.sizeOf 0).run P w = .ok 1 w
  vT : ∀ w, (zeroValue 0).run P w = .ok (Value.tuple #[]) w
  tI : P.underlying 3 = some (TypeDesc.int IntKind.i64)
  aI : ∀ w, (isAgg 3).run P w = .ok false w
  zI : ∀ w, (Go.sizeOf 3).run P w = .ok 1 w
  vI : ∀ w, (zeroValue 3).run P w = .ok (Value.int IntKind.i64 0) w
  tB : P.underlying 4 = some (TypeDesc.bool)
  aB : ∀ w, (isAgg 4).run P w = .ok false w
  zB : ∀ w, (Go.sizeOf 4).run P w = .ok 1 w
  vB : ∀ w, (zeroValue 4).run P w = .ok (Value.bool false) w
  tU : P.underlying 164 = some (TypeDesc.int IntKind.u64)
  aU : ∀ w, (isAgg 164).run P w = .ok false w
  zU : ∀ w, (Go.sizeOf 164).run P w = .ok 1 w
  vU : ∀ w, (zeroValue 164).run P w = .ok (Value.int IntKind.u64 0) w
  tS : P.underlying 22 = some (TypeDesc.slice 49)
  aS : ∀ w, (isAgg 22).run P w = .ok false w
  zS : ∀ w, (Go.sizeOf 22).run P w = .ok 1 w
  vS : ∀ w, (zeroValue 22).run P w = .ok (Value.slice none 0 0) w
  tC : P.underlying 116 = some (TypeDesc.func #[49, 49] #[3] false)
  aC : ∀ w, (isAgg 116).run P w = .ok false w
  zC : ∀ w, (Go.sizeOf 116).run P w = .ok 1 w
  vC : ∀ w, (zeroValue 116).run P w = .ok (Value.nilFunc) w

set_option maxHeartbeats 4000000 in
set_option maxRecDepth 1000000 in
theorem swapRange_w (L : StL P) (k : Nat) (aE : ∀ w, (isAgg 49).run P w = .ok true w) (zE : ∀ w, (Go.sizeOf 49).run P w = .ok k w) (enc : α → List Value) (g : Nat) (cb : Array Value) (blk off cap a b n : Nat) (d0 d : Array α) (w0 w : World)
    (R : RowK enc k w0 blk off d0) (hs : d0.size = d.size) (S : SWK enc k w0 blk off d w) (hab : a + n ≤ b) (hb : b + n ≤ d.size) (hsz : d.size < 4611686018427387904) :
    Calls P 200 #[.slice (some ⟨blk, off, none⟩) d.size cap, .int .i64 a, .int .i64 b, .int .i64 n, .func (.func g) #[] cb] w fun e w' => e = .returned (.tuple #[]) ∧ SWK enc k w0 blk off (Stb.swr d a b n 0) w' := by
  have mixed := L.mixed; have tT := L.tT; have aT := L.aT; have zT := L.zT; have vT := L.vT; have tI := L.tI; have aI := L.aI; have zI := L.zI; have vI := L.vI; have tB := L.tB; have aB := L.aB; have zB := L.zB; have vB := L.vB; have tU := L.tU; have aU := L.aU; have zU := L.zU; have vU := L.vU; have tS := L.tS; have aS := L.aS; have zS := L.zS; have vS := L.vS; have tC := L.tC; have aC := L.aC; have zC := L.zC; have vC := L.vC
  have FG := L.fswr
  have S0 : Aside (SWK enc k w0 blk off d w) := S
  clear S
  go_enter FG, Tryz.ntmps200
  go_wp2
  go_loopg [10] n (fun kx s10 wr => ∃ (i : Nat) (dk : Array α), s10 = .int .i64 i ∧ i ≤ n ∧ n - i ≤ kx ∧ dk.size = d.size ∧ Aside (SWK enc k w0 blk off dk wr) ∧ Hid (Stb.swr dk a b n i = Stb.swr d a b n 0))
  case atStart => exact ⟨0, d, rfl, by omega, by omega, rfl, S0, rfl⟩
  case round =>
    clear S0
    obtain ⟨i, dk, rfl, hi, hkx, hds, S1, heq⟩ := hrel
    by_cases hlt : i < n
    · have hltz : (i : Int) < (n : Int) := by omega
      go_wp2_with fail
      have ea1 : ((a : Int) + (i : Int)).toNat = a + i := by omega
      have pa1 : (0 : Int) ≤ (a : Int) + (i : Int) := by omega
      have ba1 : (a : Int) + (i : Int) < (d.size : Int) := by omega
      have ra1 : IntKind.i64.wrap ((a : Int) + (i : Int)) = (a : Int) + (i : Int) := by rw [IntKind.wrap_i64]; omega
      have ec1 : ((b : Int) + (i : Int)).toNat = b + i := by omega
      have pc1 : (0 : Int) ≤ (b : Int) + (i : Int) := by omega
      have bc1 : (b : Int) + (i : Int) < (d.size : Int) := by omega
      have rc1 : IntKind.i64.wrap ((b : Int) + (i : Int)) = (b : Int) + (i : Int) := by rw [IntKind.wrap_i64]; omega
      have S2 : Aside (SWK enc k w0 blk off (swp dk (a + i) (b + i)) ((wr.drew.setCells blk (off + (a + i) * k) (enc dk[b + i]!)).setCells blk (off + (b + i) * k) (enc dk[a + i]!))) := S1.out.swapped R (a + i) (b + i) (by omega) (by omega)
      have l1a := S1.out.ld1 R (by omega) P (a + i) (by omega)
      have l1b := S1.out.ld1 R (by omega) P (b + i) (by omega)
      have s1a := S1.out.st1 R (by omega) P (a + i) (by omega) dk[b + i]!
      have s1b := S1.out.st2 R (by omega) P (a + i) (b + i) (by omega) (by omega) dk[b + i]! dk[a + i]!
      have n1a : (enc dk[a + i]!).length = k := R.hk _
      have n1b : (enc dk[b + i]!).length = k := R.hk _
      generalize enc dk[a + i]! = cI1 at S2 l1a s1b n1a
      generalize enc dk[b + i]! = cJ1 at S2 l1b s1a s1b n1b
      clear S1
      go_wp2_with fail
      go_big_region_o
      clear l1a l1b s1a s1b
      generalize (wr.drew.setCells blk (off + (a + i) * k) cJ1).setCells blk (off + (b + i) * k) cI1 = w2 at S2 ⊢
      go_wp2
      go_roundg (n - (i + 1))
      case measure => omega
      case rel =>
        refine ⟨i + 1, swp dk (a + i) (b + i), by go_num, by omega, Nat.le_refl _, by rw [size_swp]; exact hds, S2, (show Hid _ from ?_)⟩
        show _ = _
        rw [← heq.out]
        conv => rhs; rw [Stb.swr, if_pos hlt]
    · have hltz : ¬ (i : Int) < (n : Int) := by omega
      go_wp2
      go_end0
      refine ⟨rfl, ?_⟩
      have := heq.out
      rw [Stb.swr, if_neg hlt] at this
      rw [← this]
      exact S1.out

set_option maxHeartbeats 4000000 in
set_option maxRecDepth 1000000 in
theorem rotate_w (L : StL P) (k : Nat) (aE : ∀ w, (isAgg 49).run P w = .ok true w) (zE : ∀ w, (Go.sizeOf 49).run P w = .ok k w) (enc : α → List Value) (g : Nat) (cb : Array Value) (blk off cap a m b : Nat) (d0 d : Array α) (w0 w : World)
    (R : RowK enc k w0 blk off d0) (hs : d0.size = d.size) (S : SWK enc k w0 blk off d w) (ham : a < m) (hmb : m < b) (hb : b ≤ d.size) (hsz : d.size < 4611686018427387904) :
    Calls P 193 #[.slice (some ⟨blk, off, none⟩) d.size cap, .int .i64 a, .int .i64 m, .int .i64 b, .func (.func g) #[] cb] w fun e w' => e = .returned (.tuple #[]) ∧ SWK enc k w0 blk off (Stb.rot m (m - a) (b - m) d) w' := by
  have mixed := L.mixed; have tT := L.tT; have aT := L.aT; have zT := L.zT; have vT := L.vT; have tI := L.tI; have aI := L.aI; have zI := L.zI; have vI := L.vI; have tB := L.tB; have aB := L.aB; have zB := L.zB; have vB := L.vB; have tU := L.tU; have aU := L.aU; have zU := L.zU; have vU := L.vU; have tS := L.tS; have aS := L.aS; have zS := L.zS; have vS := L.vS; have tC := L.tC; have aC := L.aC; have zC := L.zC; have vC := L.vC
  have FG := L.frot
  have eswr : ∀ args w, (callFunc 200 args).run P w = .ok (.enter 200 args) w := enters_of L.fswr (by kernel_rfl) rfl
  have S0 : Aside (SWK enc k w0 blk off d w) := S
  have HW := fun (dk : Array α) (W : World) (x y n : Nat) (hz : dk.size = d.size) (SS : SWK enc k w0 blk off dk W) (h1 : x + n ≤ y) (h2 : y + n ≤ dk.size) => swapRange_w L k aE zE enc g cb blk off cap x y n d0 dk w0 W R (by omega) SS h1 h2 (by omega)
  clear S
  have HWA : Aside _ := HW
  clear HW
  go_enter FG, Tryz.ntmps193
  have ea : (m : Int) - (a : Int) = ((m - a : Nat) : Int) := by omega
  have eb : (b : Int) - (m : Int) = ((b - m : Nat) : Int) := by omega
  go_wp2
  go_loopg [10, 11] (b - a) (fun kx s10 s11 wr => ∃ (i j : Nat) (dk : Array α), s10 = .int .i64 i ∧ s11 = .int .i64 j ∧ 0 < i ∧ 0 < j ∧ i ≤ m ∧ m + j ≤ d.size ∧ i + j ≤ kx ∧ dk.size = d.size ∧ Aside (SWK enc k w0 blk off dk wr) ∧ Hid (Stb.rot m i j dk = Stb.rot m (m - a) (b - m) d))
  case atStart => exact ⟨m - a, b - m, d, rfl, rfl, by omega, by omega, by omega, by omega, by omega, rfl, S0, rfl⟩
  case round =>
    clear S0 ea eb
    obtain ⟨i, j, dk, rfl, rfl, hi, hj, him, hjm, hkx, hds, S1, heq⟩ := hrel
    have e1 : (m : Int) - (i : Int) = ((m - i : Nat) : Int) := by omega
    by_cases heq1 : i = j
    · subst heq1
      have hne : ((i : Int) != (i : Int)) = false := by simp
      have hc := HWA.out dk wr (m - i) m i hds S1.out (by omega) (by omega)
      rw [hds] at hc
      go_wp2_with (go_at_fn 200; refine hc.mono ?_; rintro e w1 ⟨rfl, hw1⟩)
      go_end0
      refine ⟨rfl, ?_⟩
      have := heq.out
      rw [Stb.rot, dif_pos (by omega)] at this
      rw [← this]
      exact hw1
    · have hne : ((i : Int) != (j : Int)) = true := by simp; omega
      have hnz : ¬ (i : Int) = (j : Int) := by omega
      by_cases hlt : j < i
      · have hltz : (j : Int) < (i : Int) := by omega
        have e2 : (i : Int) - (j : Int) = ((i - j : Nat) : Int) := by omega
        have hc := HWA.out dk wr (m - i) m j hds S1.out (by omega) (by omega)
        rw [hds] at hc
        go_wp2_with (go_at_fn 200; refine hc.mono ?_; rintro e w1 ⟨rfl, hw1⟩)
        go_roundg (i - j + j)
        case measure => omega
        case rel =>
          refine ⟨i - j, j, Stb.swr dk (m - i) m j 0, by first | rfl | (congr 1; omega), rfl, by omega, by omega, by omega, by omega, by omega, by rw [Stb.swr_size]; exact hds, hw1, (show Hid _ from ?_)⟩
          show _ = _
          rw [← heq.out]
          conv => rhs; rw [Stb.rot, dif_neg (by omega), dif_pos hlt]
      · have hltz : ¬ (j : Int) < (i : Int) := by omega
        have e2 : (j : Int) - (i : Int) = ((j - i : Nat) : Int) := by omega
        have e3 : (m : Int) + (j : Int) - (i : Int) = ((m + j - i : Nat) : Int) := by omega
        have hc := HWA.out dk wr (m - i) (m + j - i) i hds S1.out (by omega) (by omega)
        rw [hds] at hc
        go_wp2_with (go_at_fn 200; refine hc.mono ?_; rintro e w1 ⟨rfl, hw1⟩)
        go_roundg (i + (j - i))
        case measure => omega
        case rel =>
          refine ⟨i, j - i, Stb.swr dk (m - i) (m + j - i) i 0, rfl, by first | rfl | (congr 1; omega), by omega, by omega, by omega, by omega, by omega, by rw [Stb.swr_size]; exact hds, hw1, (show Hid _ from ?_)⟩
          show _ = _
          rw [← heq.out]
          conv => rhs; rw [Stb.rot, dif_neg (by omega), dif_neg hlt]
end Go.Proofs.YtackpcohmmlkeaaGreatDoor
end

/- StY: slices' stable sort at structs of k cells: symMerge, walked. -/
section
namespace Go.Proofs.YtackpcohmmlkeaaGreatDoor
open Go.Shelf Go.RowKit Go.Lib Go.Sort
variable {P : Program} {α : Type} [Inhabited α]

set_option maxHeartbeats 8000000 in
set_option maxRecDepth 1000000 in
theorem sym_one (L : StL P) (k : Nat) (aE : ∀ w, (isAgg 49).run P w = .ok true w) (zE : ∀ w, (Go.sizeOf 49).run P w = .ok k w) (enc : α → List Value) (g : Nat) (cb : Array Value) (cf : α → α → Int) (eg : ∀ args w, (callFunc g args).run P w = .ok (.enter g args) w) (blk off cap a m b : Nat) (d0 d : Array α) (w0 w : World)
    (hcmp : CmpLays P g cb enc k cf blk off d0.size w0) (R : RowK enc k w0 blk off d0) (hs : d0.size = d.size) (S : SWK enc k w0 blk off d w) (ham : a < m) (hmb : m < b) (hb : b ≤ d.size) (hsz : d.size < 4611686018427387904) (h1 : m - a = 1) :
    Calls P 170 #[.slice (some ⟨blk, off, none⟩) d.size cap, .int .i64 a, .int .i64 m, .int .i64 b, .func (.func g) #[] cb] w fun e w' => e = .returned (.tuple #[]) ∧ SWK enc k w0 blk off (Stb.upRun d a (Stb.bs (fun h => ltOf cf d[h]! d[a]!) m b - 1)) w' := by
  have mixed := L.mixed; have tT := L.tT; have aT := L.aT; have zT := L.zT; have vT := L.vT; have tI := L.tI; have aI := L.aI; have zI := L.zI; have vI := L.vI; have tB := L.tB; have aB := L.aB; have zB := L.zB; have vB := L.vB; have tU := L.tU; have aU := L.aU; have zU := L.zU; have vU := L.vU; have tS := L.tS; have aS := L.aS; have zS := L.zS; have vS := L.vS; have tC := L.tC; have aC := L.aC; have zC := L.zC; have vC := L.vC
  have FG := L.fsym
  have HC : Aside _ := hcmp
  have S0 : Aside (SWK enc k w0 blk off d w) := S
  clear S hcmp
  go_enter FG, Tryz.ntmps170
  have hmaz : (m : Int) - (a : Int) = 1 := by omega
  go_wp2
  go_loopg [10, 11] (b - m) (fun kx s10 s11 wr => ∃ (i j : Nat), s10 = .int .i64 i ∧ s11 = .int .i64 j ∧ m ≤ i ∧ i ≤ j ∧ j ≤ b ∧ j - i ≤ kx ∧ Aside (SWK enc k w0 blk off d wr) ∧ Hid (Stb.bs (fun h => ltOf cf d[h]! d[a]!) i j = Stb.bs (fun h => ltOf cf d[h]! d[a]!) m b))
  case atStart => exact ⟨m, b, rfl, rfl, Nat.le_refl _, by omega, Nat.le_refl _, Nat.le_refl _, S0, rfl⟩
  case round =>
    clear S0
    obtain ⟨i, j, rfl, rfl, hi, hij0, hj, hkx, S1, HE⟩ := hrel
    by_cases hlt : i < j
    · have hltz : (i : Int) < (j : Int) := by omega
      go_wp2_with fail
      obtain ⟨h, hh⟩ : ∃ h, h = (i + j) / 2 := ⟨_, rfl⟩
      have eh : (((i : Nat) : Int) + ((j : Nat) : Int)) / 2 = ((h : Nat) : Int) := by omega
      rw [eh]
      clear eh
      have bh : 2 * h ≤ i + j ∧ i + j ≤ 2 * h + 1 := by omega
      have Hh : Hid (h = (i + j) / 2) := hh
      clear hh
      cases hL : ltOf cf d[h]! d[a]! with
      | true =>
        have ea1 : ((h : Int)).toNat = h := by omega
        have pa1 : (0 : Int) ≤ (h : Int) := by omega
        have ba1 : (h : Int) < (d.size : Int) := by omega
        have ra1 : IntKind.i64.wrap ((h : Int)) = (h : Int) := by rw [IntKind.wrap_i64]; omega
        have ec1 : ((a : Int)).toNat = a := by omega
        have pc1 : (0 : Int) ≤ (a : Int) := by omega
        have bc1 : (a : Int) < (d.size : Int) := by omega
        have rc1 : IntKind.i64.wrap ((a : Int)) = (a : Int) := by rw [IntKind.wrap_i64]; omega
        obtain ⟨x1, hx1⟩ : ∃ x, x = d[h]! := ⟨_, rfl⟩
        obtain ⟨y1, hy1⟩ : ∃ x, x = d[a]! := ⟨_, rfl⟩
        have l1a := S1.out.ld R (by omega) P (h) (by omega)
        have l1b := S1.out.ld R (by omega) P (a) (by omega)
        rw [← hx1] at l1a
        rw [← hy1] at l1b
        have hc1 := S1.out.cmp HC.out (by omega) x1 y1
        have hv1 : cf x1 y1 < 0 := by rw [hx1, hy1]; exact of_decide_eq_true hL
        have hd1 : decide (cf x1 y1 < 0) = true := decide_eq_true hv1
        clear hx1 hy1
        go_wp2_with fail
        go_quiet_grown (first | (go_at_fn g; refine Calls.grown_of (hc1 _ _)))
        have S2 : Aside (SWK enc k w0 blk off d (grow (wr.drewN nq) osq)) := S1.out.grown nq osq
        clear l1a l1b hc1 S1
        generalize grow (wr.drewN nq) osq = w2 at S2 ⊢
        clear nq osq
        go_wp2
        go_roundg (j - (h + 1))
        case measure => omega
        case rel =>
          refine ⟨h + 1, j, by first | rfl | go_num | (congr 1; omega), rfl, by omega, by omega, by omega, Nat.le_refl _, S2, (show Hid _ from ?_)⟩
          show _ = _
          rw [← HE.out]
          conv => rhs; rw [Stb.bs, if_pos hlt, ← Hh.out, if_pos (show (fun h => ltOf cf d[h]! d[a]!) h = true by simp [hL])]
      | false =>
        have ea2 : ((h : Int)).toNat = h := by omega
        have pa2 : (0 : Int) ≤ (h : Int) := by omega
        have ba2 : (h : Int) < (d.size : Int) := by omega
        have ra2 : IntKind.i64.wrap ((h : Int)) = (h : Int) := by rw [IntKind.wrap_i64]; omega
        have ec2 : ((a : Int)).toNat = a := by omega
        have pc2 : (0 : Int) ≤ (a : Int) := by omega
        have bc2 : (a : Int) < (d.size : Int) := by omega
        have rc2 : IntKind.i64.wrap ((a : Int)) = (a : Int) := by rw [IntKind.wrap_i64]; omega
        obtain ⟨x2, hx2⟩ : ∃ x, x = d[h]! := ⟨_, rfl⟩
        obtain ⟨y2, hy2⟩ : ∃ x, x = d[a]! := ⟨_, rfl⟩
        have l2a := S1.out.ld R (by omega) P (h) (by omega)
        have l2b := S1.out.ld R (by omega) P (a) (by omega)
        rw [← hx2] at l2a
        rw [← hy2] at l2b
        have hc2 := S1.out.cmp HC.out (by omega) x2 y2
        have hv2 : ¬ cf x2 y2 < 0 := by rw [hx2, hy2]; exact of_decide_eq_false hL
        have hd2 : decide (cf x2 y2 < 0) = false := decide_eq_false hv2
        clear hx2 hy2
        go_wp2_with fail
        go_quiet_grown (first | (go_at_fn g; refine Calls.grown_of (hc2 _ _)))
        have S2 : Aside (SWK enc k w0 blk off d (grow (wr.drewN nq) osq)) := S1.out.grown nq osq
        clear l2a l2b hc2 S1
        generalize grow (wr.drewN nq) osq = w2 at S2 ⊢
        clear nq osq
        go_wp2
        go_roundg (h - i)
        case measure => omega
        case rel =>
          refine ⟨i, h, rfl, by first | rfl | (congr 1; omega), by omega, by omega, by omega, Nat.le_refl _, S2, (show Hid _ from ?_)⟩
          show _ = _
          rw [← HE.out]
          conv => rhs; rw [Stb.bs, if_pos hlt, ← Hh.out, if_neg (show ¬ (fun h => ltOf cf d[h]! d[a]!) h = true by simp [hL])]
    · have hltz : ¬ (i : Int) < (j : Int) := by omega
      have hij : i = j := by omega
      subst hij
      have hbs : i = _ := (show Stb.bs _ i i = i by rw [Stb.bs, if_neg (Nat.lt_irrefl i)]).symm.trans HE.out
      have hi1 : m ≤ i ∧ i ≤ b := by omega
      have ei : (i : Int) - 1 = ((i - 1 : Nat) : Int) := by omega
      have HB : Hid (i = Stb.bs (fun h => ltOf cf d[h]! d[a]!) m b) := hbs
      clear hbs HE hltz hlt
      go_wp2
      go_loopg [13] i (fun kx2 s13 wr2 => ∃ (q : Nat) (dk : Array α), s13 = .int .i64 q ∧ a ≤ q ∧ q ≤ i - 1 ∧ i - q ≤ kx2 ∧ dk.size = d.size ∧ Aside (SWK enc k w0 blk off dk wr2) ∧ Hid (Stb.upRun dk q (i - 1) = Stb.upRun d a (i - 1)))
      case atStart => exact ⟨a, d, rfl, Nat.le_refl _, by omega, by omega, rfl, S1, rfl⟩
      case round =>
        clear S1
        obtain ⟨q, dk, rfl, hq1, hq2, hkx2, hds, S1, heq⟩ := hrel
        by_cases hlt : q < i - 1
        · have hltz : (q : Int) < ((i - 1 : Nat) : Int) := by omega
          go_wp2_with fail
          have ea3 : ((q : Int)).toNat = q := by omega
          have pa3 : (0 : Int) ≤ (q : Int) := by omega
          have ba3 : (q : Int) < (d.size : Int) := by omega
          have ra3 : IntKind.i64.wrap ((q : Int)) = (q : Int) := by rw [IntKind.wrap_i64]; omega
          have ec3 : ((q : Int) + 1).toNat = q + 1 := by omega
          have pc3 : (0 : Int) ≤ (q : Int) + 1 := by omega
          have bc3 : (q : Int) + 1 < (d.size : Int) := by omega
          have rc3 : IntKind.i64.wrap ((q : Int) + 1) = (q : Int) + 1 := by rw [IntKind.wrap_i64]; omega
          have S2 : Aside (SWK enc k w0 blk off (swp dk (q) (q + 1)) ((wr.drew.setCells blk (off + (q) * k) (enc dk[q + 1]!)).setCells blk (off + (q + 1) * k) (enc dk[q]!))) := S1.out.swapped R (q) (q + 1) (by omega) (by omega)
          have l3a := S1.out.ld1 R (by omega) P (q) (by omega)
          have l3b := S1.out.ld1 R (by omega) P (q + 1) (by omega)
          have s3a := S1.out.st1 R (by omega) P (q) (by omega) dk[q + 1]!
          have s3b := S1.out.st2 R (by omega) P (q) (q + 1) (by omega) (by omega) dk[q + 1]! dk[q]!
          have n3a : (enc dk[q]!).length = k := R.hk _
          have n3b : (enc dk[q + 1]!).length = k := R.hk _
          generalize enc dk[q]! = cI3 at S2 l3a s3b n3a
          generalize enc dk[q + 1]! = cJ3 at S2 l3b s3a s3b n3b
          clear S1
          go_wp2_with fail
          go_big_region_o
          clear l3a l3b s3a s3b
          generalize (wr.drew.setCells blk (off + (q) * k) cJ3).setCells blk (off + (q + 1) * k) cI3 = w2 at S2 ⊢
          go_wp2
          go_roundg (i - (q + 1))
          case measure => omega
          case rel =>
            refine ⟨q + 1, swp dk q (q + 1), by go_num, by omega, by omega, Nat.le_refl _, by rw [size_swp]; exact hds, S2, (show Hid _ from ?_)⟩
            show _ = _
            rw [← heq.out]
            conv => rhs; rw [Stb.upRun, if_pos hlt]
        · have hltz : ¬ (q : Int) < ((i - 1 : Nat) : Int) := by omega
          go_wp2
          (try simp only [Exit.inBlock, Exit.then]); refine bodyPost_ret (results_none rfl _ _ _) rfl ?_
          refine ⟨rfl, ?_⟩
          have := heq.out
          rw [Stb.upRun, if_neg hlt] at this
          rw [← HB.out, ← this]
          exact S1.out


set_option maxHeartbeats 8000000 in
set_option maxRecDepth 1000000 in
theorem sym_last (L : StL P) (k : Nat) (aE : ∀ w, (isAgg 49).run P w = .ok true w) (zE : ∀ w, (Go.sizeOf 49).run P w = .ok k w) (enc : α → List Value) (g : Nat) (cb : Array Value) (cf : α → α → Int) (eg : ∀ args w, (callFunc g args).run P w = .ok (.enter g args) w) (blk off cap a m b : Nat) (d0 d : Array α) (w0 w : World)
    (hcmp : CmpLays P g cb enc k cf blk off d0.size w0) (R : RowK enc k w0 blk off d0) (hs : d0.size = d.size) (S : SWK enc k w0 blk off d w) (ham : a < m) (hmb : m < b) (hb : b ≤ d.size) (hsz : d.size < 4611686018427387904) (h1 : m - a ≠ 1) (h2 : b - m = 1) :
    Calls P 170 #[.slice (some ⟨blk, off, none⟩) d.size cap, .int .i64 a, .int .i64 m, .int .i64 b, .func (.func g) #[] cb] w fun e w' => e = .returned (.tuple #[]) ∧ SWK enc k w0 blk off (Stb.downRun d m (Stb.bs (fun h => !ltOf cf d[m]! d[h]!) a m)) w' := by
  have mixed := L.mixed; have tT := L.tT; have aT := L.aT; have zT := L.zT; have vT := L.vT; have tI := L.tI; have aI := L.aI; have zI := L.zI; have vI := L.vI; have tB := L.tB; have aB := L.aB; have zB := L.zB; have vB := L.vB; have tU := L.tU; have aU := L.aU; have zU := L.zU; have vU := L.vU; have tS := L.tS; have aS := L.aS; have zS := L.zS; have vS := L.vS; have tC := L.tC; have aC := L.aC; have zC := L.zC; have vC := L.vC
  have FG := L.fsym
  have HC : Aside _ := hcmp
  have S0 : Aside (SWK enc k w0 blk off d w) := S
  clear S hcmp
  go_enter FG, Tryz.ntmps170
  have hmaz : ¬ ((m : Int) - (a : Int) = 1) := by omega
  have hmab : (((m : Int) - (a : Int)) == 1) = false := by simpa using hmaz
  have hbmz : (b : Int) - (m : Int) = 1 := by omega
  go_wp2
  go_loopg [14, 15] (m - a) (fun kx s14 s15 wr => ∃ (i j : Nat), s14 = .int .i64 i ∧ s15 = .int .i64 j ∧ a ≤ i ∧ i ≤ j ∧ j ≤ m ∧ j - i ≤ kx ∧ Aside (SWK enc k w0 blk off d wr) ∧ Hid (Stb.bs (fun h => !ltOf cf d[m]! d[h]!) i j = Stb.bs (fun h => !ltOf cf d[m]! d[h]!) a m))
  case atStart => exact ⟨a, m, rfl, rfl, Nat.le_refl _, by omega, Nat.le_refl _, Nat.le_refl _, S0, rfl⟩
  case round =>
    clear S0
    obtain ⟨i, j, rfl, rfl, hi, hij0, hj, hkx, S1, HE⟩ := hrel
    by_cases hlt : i < j
    · have hltz : (i : Int) < (j : Int) := by omega
      go_wp2_with fail
      obtain ⟨h, hh⟩ : ∃ h, h = (i + j) / 2 := ⟨_, rfl⟩
      have eh : (((i : Nat) : Int) + ((j : Nat) : Int)) / 2 = ((h : Nat) : Int) := by omega
      rw [eh]
      clear eh
      have bh : 2 * h ≤ i + j ∧ i + j ≤ 2 * h + 1 := by omega
      have Hh : Hid (h = (i + j) / 2) := hh
      clear hh
      cases hL : ltOf cf d[m]! d[h]! with
      | true =>
        have ea5 : ((m : Int)).toNat = m := by omega
        have pa5 : (0 : Int) ≤ (m : Int) := by omega
        have ba5 : (m : Int) < (d.size : Int) := by omega
        have ra5 : IntKind.i64.wrap ((m : Int)) = (m : Int) := by rw [IntKind.wrap_i64]; omega
        have ec5 : ((h : Int)).toNat = h := by omega
        have pc5 : (0 : Int) ≤ (h : Int) := by omega
        have bc5 : (h : Int) < (d.size : Int) := by omega
        have rc5 : IntKind.i64.wrap ((h : Int)) = (h : Int) := by rw [IntKind.wrap_i64]; omega
        obtain ⟨x5, hx5⟩ : ∃ x, x = d[m]! := ⟨_, rfl⟩
        obtain ⟨y5, hy5⟩ : ∃ x, x = d[h]! := ⟨_, rfl⟩
        have l5a := S1.out.ld R (by omega) P (m) (by omega)
        have l5b := S1.out.ld R (by omega) P (h) (by omega)
        rw [← hx5] at l5a
        rw [← hy5] at l5b
        have hc5 := S1.out.cmp HC.out (by omega) x5 y5
        have hv5 : cf x5 y5 < 0 := by rw [hx5, hy5]; exact of_decide_eq_true hL
        have hd5 : decide (cf x5 y5 < 0) = true := decide_eq_true hv5
        clear hx5 hy5
        go_wp2_with fail
        go_quiet_grown (first | (go_at_fn g; refine Calls.grown_of (hc5 _ _)))
        have S2 : Aside (SWK enc k w0 blk off d (grow (wr.drewN nq) osq)) := S1.out.grown nq osq
        clear l5a l5b hc5 S1
        generalize grow (wr.drewN nq) osq = w2 at S2 ⊢
        clear nq osq
        go_wp2
        go_roundg (h - i)
        case measure => omega
        case rel =>
          refine ⟨i, h, rfl, by first | rfl | (congr 1; omega), by omega, by omega, by omega, Nat.le_refl _, S2, (show Hid _ from ?_)⟩
          show _ = _
          rw [← HE.out]
          conv => rhs; rw [Stb.bs, if_pos hlt, ← Hh.out, if_neg (show ¬ (fun h => !ltOf cf d[m]! d[h]!) h = true by simp [hL])]
      | false =>
        have ea4 : ((m : Int)).toNat = m := by omega
        have pa4 : (0 : Int) ≤ (m : Int) := by omega
        have ba4 : (m : Int) < (d.size : Int) := by omega
        have ra4 : IntKind.i64.wrap ((m : Int)) = (m : Int) := by rw [IntKind.wrap_i64]; omega
        have ec4 : ((h : Int)).toNat = h := by omega
        have pc4 : (0 : Int) ≤ (h : Int) := by omega
        have bc4 : (h : Int) < (d.size : Int) := by omega
        have rc4 : IntKind.i64.wrap ((h : Int)) = (h : Int) := by rw [IntKind.wrap_i64]; omega
        obtain ⟨x4, hx4⟩ : ∃ x, x = d[m]! := ⟨_, rfl⟩
        obtain ⟨y4, hy4⟩ : ∃ x, x = d[h]! := ⟨_, rfl⟩
        have l4a := S1.out.ld R (by omega) P (m) (by omega)
        have l4b := S1.out.ld R (by omega) P (h) (by omega)
        rw [← hx4] at l4a
        rw [← hy4] at l4b
        have hc4 := S1.out.cmp HC.out (by omega) x4 y4
        have hv4 : ¬ cf x4 y4 < 0 := by rw [hx4, hy4]; exact of_decide_eq_false hL
        have hd4 : decide (cf x4 y4 < 0) = false := decide_eq_false hv4
        clear hx4 hy4
        go_wp2_with fail
        go_quiet_grown (first | (go_at_fn g; refine Calls.grown_of (hc4 _ _)))
        have S2 : Aside (SWK enc k w0 blk off d (grow (wr.drewN nq) osq)) := S1.out.grown nq osq
        clear l4a l4b hc4 S1
        generalize grow (wr.drewN nq) osq = w2 at S2 ⊢
        clear nq osq
        go_wp2
        go_roundg (j - (h + 1))
        case measure => omega
        case rel =>
          refine ⟨h + 1, j, by first | rfl | go_num | (congr 1; omega), rfl, by omega, by omega, by omega, Nat.le_refl _, S2, (show Hid _ from ?_)⟩
          show _ = _
          rw [← HE.out]
          conv => rhs; rw [Stb.bs, if_pos hlt, ← Hh.out, if_pos (show (fun h => !ltOf cf d[m]! d[h]!) h = true by simp [hL])]
    · have hltz : ¬ (i : Int) < (j : Int) := by omega
      have hij : i = j := by omega
      subst hij
      have hbs : i = _ := (show Stb.bs _ i i = i by rw [Stb.bs, if_neg (Nat.lt_irrefl i)]).symm.trans HE.out
      have hi1 : a ≤ i ∧ i ≤ m := by omega
      have HB : Hid (i = Stb.bs (fun h => !ltOf cf d[m]! d[h]!) a m) := hbs
      clear hbs HE hltz hlt
      go_wp2
      go_loopg [17] m (fun kx2 s17 wr2 => ∃ (q : Nat) (dk : Array α), s17 = .int .i64 q ∧ i ≤ q ∧ q ≤ m ∧ q ≤ kx2 ∧ dk.size = d.size ∧ Aside (SWK enc k w0 blk off dk wr2) ∧ Hid (Stb.downRun dk q i = Stb.downRun d m i))
      case atStart => exact ⟨m, d, rfl, by omega, Nat.le_refl _, Nat.le_refl _, rfl, S1, rfl⟩
      case round =>
        clear S1
        obtain ⟨q, dk, rfl, hq1, hq2, hkx2, hds, S1, heq⟩ := hrel
        by_cases hlt : i < q
        · have hltz : (i : Int) < (q : Int) := by omega
          go_wp2_with fail
          have ea6 : ((q : Int)).toNat = q := by omega
          have pa6 : (0 : Int) ≤ (q : Int) := by omega
          have ba6 : (q : Int) < (d.size : Int) := by omega
          have ra6 : IntKind.i64.wrap ((q : Int)) = (q : Int) := by rw [IntKind.wrap_i64]; omega
          have ec6 : ((q : Int) - 1).toNat = q - 1 := by omega
          have pc6 : (0 : Int) ≤ (q : Int) - 1 := by omega
          have bc6 : (q : Int) - 1 < (d.size : Int) := by omega
          have rc6 : IntKind.i64.wrap ((q : Int) - 1) = (q : Int) - 1 := by rw [IntKind.wrap_i64]; omega
          have S2 : Aside (SWK enc k w0 blk off (swp dk (q) (q - 1)) ((wr.drew.setCells blk (off + (q) * k) (enc dk[q - 1]!)).setCells blk (off + (q - 1) * k) (enc dk[q]!))) := S1.out.swapped R (q) (q - 1) (by omega) (by omega)
          have l6a := S1.out.ld1 R (by omega) P (q) (by omega)
          have l6b := S1.out.ld1 R (by omega) P (q - 1) (by omega)
          have s6a := S1.out.st1 R (by omega) P (q) (by omega) dk[q - 1]!
          have s6b := S1.out.st2 R (by omega) P (q) (q - 1) (by omega) (by omega) dk[q - 1]! dk[q]!
          have n6a : (enc dk[q]!).length = k := R.hk _
          have n6b : (enc dk[q - 1]!).length = k := R.hk _
          generalize enc dk[q]! = cI6 at S2 l6a s6b n6a
          generalize enc dk[q - 1]! = cJ6 at S2 l6b s6a s6b n6b
          clear S1
          go_wp2_with fail
          go_big_region_o
          clear l6a l6b s6a s6b
          generalize (wr.drew.setCells blk (off + (q) * k) cJ6).setCells blk (off + (q - 1) * k) cI6 = w2 at S2 ⊢
          go_wp2
          go_roundg (q - 1)
          case measure => omega
          case rel =>
            refine ⟨q - 1, swp dk q (q - 1), by first | rfl | (congr 1; omega), by omega, by omega, Nat.le_refl _, by rw [size_swp]; exact hds, S2, (show Hid _ from ?_)⟩
            show _ = _
            rw [← heq.out]
            conv => rhs; rw [Stb.downRun, if_pos hlt]
        · have hltz : ¬ (i : Int) < (q : Int) := by omega
          go_wp2
          (try simp only [Exit.inBlock, Exit.then]); refine bodyPost_ret (results_none rfl _ _ _) rfl ?_
          refine ⟨rfl, ?_⟩
          have := heq.out
          rw [Stb.downRun, if_neg hlt] at this
          rw [← HB.out, ← this]
          exact S1.out


set_option maxHeartbeats 16000000 in
set_option maxRecDepth 1000000 in
theorem sym_main (L : StL P) (k : Nat) (aE : ∀ w, (isAgg 49).run P w = .ok true w) (zE : ∀ w, (Go.sizeOf 49).run P w = .ok k w) (enc : α → List Value) (g : Nat) (cb : Array Value) (cf : α → α → Int) (eg : ∀ args w, (callFunc g args).run P w = .ok (.enter g args) w) (blk off cap a m b : Nat) (d0 d : Array α) (w0 w : World)
    (hcmp : CmpLays P g cb enc k cf blk off d0.size w0) (R : RowK enc k w0 blk off d0) (hs : d0.size = d.size) (S : SWK enc k w0 blk off d w) (ham : a < m) (hmb : m < b) (hb : b ≤ d.size) (hsz : d.size < 4611686018427387904) (h1 : m - a ≠ 1) (h2 : b - m ≠ 1) (F : Array α → Nat → Nat → Nat → Array α) (HF : ∀ d a m b, (F d a m b).size = d.size)
    (ih : ∀ (d1 : Array α) (w1 : World) (a1 m1 b1 : Nat), d1.size = d.size → SWK enc k w0 blk off d1 w1 → a1 < m1 → m1 < b1 → b1 ≤ d1.size → b1 - a1 < b - a → Calls P 170 #[.slice (some ⟨blk, off, none⟩) d1.size cap, .int .i64 a1, .int .i64 m1, .int .i64 b1, .func (.func g) #[] cb] w1 fun e w' => e = .returned (.tuple #[]) ∧ SWK enc k w0 blk off (F d1 a1 m1 b1) w') :
    Calls P 170 #[.slice (some ⟨blk, off, none⟩) d.size cap, .int .i64 a, .int .i64 m, .int .i64 b, .func (.func g) #[] cb] w fun e w' => e = .returned (.tuple #[]) ∧ SWK enc k w0 blk off (Stb.symG F d a m b (Stb.symS (ltOf cf) d a m b) ((a + b) / 2 + m - Stb.symS (ltOf cf) d a m b) ((a + b) / 2)) w' := by
  have mixed := L.mixed; have tT := L.tT; have aT := L.aT; have zT := L.zT; have vT := L.vT; have tI := L.tI; have aI := L.aI; have zI := L.zI; have vI := L.vI; have tB := L.tB; have aB := L.aB; have zB := L.zB; have vB := L.vB; have tU := L.tU; have aU := L.aU; have zU := L.zU; have vU := L.vU; have tS := L.tS; have aS := L.aS; have zS := L.zS; have vS := L.vS; have tC := L.tC; have aC := L.aC; have zC := L.zC; have vC := L.vC
  have FG := L.fsym
  have HC : Aside _ := hcmp
  have S0 : Aside (SWK enc k w0 blk off d w) := S
  clear S hcmp
  have erot : ∀ args w, (callFunc 193 args).run P w = .ok (.enter 193 args) w := enters_of L.frot (by kernel_rfl) rfl
  have esym : ∀ args w, (callFunc 170 args).run P w = .ok (.enter 170 args) w := enters_of L.fsym (by kernel_rfl) rfl
  have HR : Aside (∀ (dk : Array α) (W : World) (x y z : Nat), dk = d → SWK enc k w0 blk off dk W → x < y → y < z → z ≤ dk.size → Calls P 193 #[.slice (some ⟨blk, off, none⟩) dk.size cap, .int .i64 x, .int .i64 y, .int .i64 z, .func (.func g) #[] cb] W fun e w' => e = .returned (.tuple #[]) ∧ SWK enc k w0 blk off (Stb.rot y (y - x) (z - y) dk) w') := fun dk W x y z hz SS q1 q2 q3 => rotate_w L k aE zE enc g cb blk off cap x y z d0 dk w0 W R (by rw [hz]; exact hs) SS q1 q2 q3 (by rw [hz]; exact hsz)
  have IH : Aside _ := ih
  clear ih
  obtain ⟨mid, hmid⟩ : ∃ mid, mid = (a + b) / 2 := ⟨_, rfl⟩
  obtain ⟨n, hn⟩ : ∃ n, n = mid + m := ⟨_, rfl⟩
  obtain ⟨p, hp⟩ : ∃ p, p = mid + m - 1 := ⟨_, rfl⟩
  have en : (mid : Int) + (m : Int) = (n : Int) := by omega
  have ep : (n : Int) - 1 = (p : Int) := by omega
  rw [← hmid]
  go_enter FG, Tryz.ntmps170
  have hmaz : ¬ ((m : Int) - (a : Int) = 1) := by omega
  have hmab : (((m : Int) - (a : Int)) == 1) = false := by simpa using hmaz
  have hbmz : ¬ ((b : Int) - (m : Int) = 1) := by omega
  have hbmb : (((b : Int) - (m : Int)) == 1) = false := by simpa using hbmz
  obtain ⟨lo, hlo⟩ : ∃ lo, lo = (if mid < m then mid + m - b else a) := ⟨_, rfl⟩
  obtain ⟨hi, hhi⟩ : ∃ hi, hi = (if mid < m then mid else m) := ⟨_, rfl⟩
  have hlh : lo ≤ hi ∧ a ≤ lo ∧ hi ≤ m ∧ hi ≤ mid ∧ p - lo < b ∧ n - b ≤ lo := by
    rw [hlo, hhi]; split <;> omega
  go_upto_region 25 with fail
  have emid : ((a : Int) + (b : Int)) / 2 = (mid : Int) := by omega
  rw [emid]
  clear emid
  have bmid : 2 * mid ≤ a + b ∧ a + b ≤ 2 * mid + 1 := by omega
  have bn : n ≤ mid + m ∧ mid + m ≤ n := by omega
  have bp : p + 1 ≤ mid + m ∧ mid + m ≤ p + 1 := by omega
  have HMID : Hid (mid = (a + b) / 2) := hmid
  have HP : Hid (p = mid + m - 1) := hp
  clear hmid hn hp
  have HLO : Hid (lo = (if mid < m then mid + m - b else a) ∧ hi = (if mid < m then mid else m)) := ⟨hlo, hhi⟩
  clear hlo hhi
  go_upto_if 140 with fail
  go_cut [20, 21] from 140 to 146 (fun s20 s21 wc => s20 = .int .i64 lo ∧ s21 = .int .i64 hi ∧ wc = w)
  case first =>
    by_cases q : mid < m
    · have qz : (mid : Int) < (m : Int) := by omega
      go_wp2_with fail
      go_meet
      case rel =>
        rw [HLO.out.1, HLO.out.2, if_pos q, if_pos q]
        exact ⟨by first | rfl | (congr 1; omega), rfl, rfl⟩
    · have qz : ¬ (mid : Int) < (m : Int) := by omega
      go_wp2_with fail
      go_meet
      case rel =>
        rw [HLO.out.1, HLO.out.2, if_neg q, if_neg q]
        exact ⟨rfl, rfl, rfl⟩
  case rest =>
    obtain ⟨rfl, rfl, rfl⟩ := hcut
    go_wp2
    go_loopg [20, 21] (hi - lo) (fun kx s20 s21 wr => ∃ (i j : Nat), s20 = .int .i64 i ∧ s21 = .int .i64 j ∧ lo ≤ i ∧ i ≤ j ∧ j ≤ hi ∧ j - i ≤ kx ∧ Aside (SWK enc k w0 blk off d wr) ∧ Hid (Stb.bs (fun c => !ltOf cf d[p - c]! d[c]!) i j = Stb.symS (ltOf cf) d a m b))
    case atStart => exact ⟨lo, hi, rfl, rfl, Nat.le_refl _, by omega, Nat.le_refl _, Nat.le_refl _, S0, by show _ = _; unfold Stb.symS; rw [← HMID.out, ← HP.out, ← HLO.out.1, ← HLO.out.2]⟩
    case round =>
      clear S0
      obtain ⟨i, j, rfl, rfl, hilo, hij0, hjhi, hkx, S1, HE⟩ := hrel
      by_cases hlt : i < j
      · have hltz : (i : Int) < (j : Int) := by omega
        go_wp2_with fail
        obtain ⟨h, hh⟩ : ∃ h, h = (i + j) / 2 := ⟨_, rfl⟩
        have eh : (((i : Nat) : Int) + ((j : Nat) : Int)) / 2 = ((h : Nat) : Int) := by omega
        rw [eh]
        clear eh
        have bh : 2 * h ≤ i + j ∧ i + j ≤ 2 * h + 1 := by omega
        have Hh : Hid (h = (i + j) / 2) := hh
        clear hh
        obtain ⟨r, hr⟩ : ∃ r, r = p - h := ⟨_, rfl⟩
        have er : (p : Int) - (h : Int) = (r : Int) := by omega
        have br : r + h ≤ p ∧ p ≤ r + h := by omega
        have HRr : Hid (r = p - h) := hr
        clear hr
        cases hL : ltOf cf d[r]! d[h]! with
        | true =>
          have ea8 : ((r : Int)).toNat = r := by omega
          have pa8 : (0 : Int) ≤ (r : Int) := by omega
          have ba8 : (r : Int) < (d.size : Int) := by omega
          have ra8 : IntKind.i64.wrap ((r : Int)) = (r : Int) := by rw [IntKind.wrap_i64]; omega
          have ec8 : ((h : Int)).toNat = h := by omega
          have pc8 : (0 : Int) ≤ (h : Int) := by omega
          have bc8 : (h : Int) < (d.size : Int) := by omega
          have rc8 : IntKind.i64.wrap ((h : Int)) = (h : Int) := by rw [IntKind.wrap_i64]; omega
          obtain ⟨x8, hx8⟩ : ∃ x, x = d[r]! := ⟨_, rfl⟩
          obtain ⟨y8, hy8⟩ : ∃ x, x = d[h]! := ⟨_, rfl⟩
          have l8a := S1.out.ld R (by omega) P (r) (by omega)
          have l8b := S1.out.ld R (by omega) P (h) (by omega)
          rw [← hx8] at l8a
          rw [← hy8] at l8b
          have hc8 := S1.out.cmp HC.out (by omega) x8 y8
          have hv8 : cf x8 y8 < 0 := by rw [hx8, hy8]; exact of_decide_eq_true hL
          have hd8 : decide (cf x8 y8 < 0) = true := decide_eq_true hv8
          clear hx8 hy8
          go_wp2_with fail
          go_quiet_grown (first | (go_at_fn g; refine Calls.grown_of (hc8 _ _)))
          have S2 : Aside (SWK enc k w0 blk off d (grow (wr.drewN nq) osq)) := S1.out.grown nq osq
          clear l8a l8b hc8 S1
          generalize grow (wr.drewN nq) osq = w2 at S2 ⊢
          clear nq osq
          go_wp2
          go_roundg (h - i)
          case measure => omega
          case rel =>
            refine ⟨i, h, rfl, by first | rfl | (congr 1; omega), by omega, by omega, by omega, Nat.le_refl _, S2, (show Hid _ from ?_)⟩
            show _ = _
            rw [← HE.out]
            conv => rhs; rw [Stb.bs, if_pos hlt, ← Hh.out, if_neg (show ¬ (fun c => !ltOf cf d[p - c]! d[c]!) h = true by simp only []; rw [← HRr.out, hL]; simp)]
        | false =>
          have ea7 : ((r : Int)).toNat = r := by omega
          have pa7 : (0 : Int) ≤ (r : Int) := by omega
          have ba7 : (r : Int) < (d.size : Int) := by omega
          have ra7 : IntKind.i64.wrap ((r : Int)) = (r : Int) := by rw [IntKind.wrap_i64]; omega
          have ec7 : ((h : Int)).toNat = h := by omega
          have pc7 : (0 : Int) ≤ (h : Int) := by omega
          have bc7 : (h : Int) < (d.size : Int) := by omega
          have rc7 : IntKind.i64.wrap ((h : Int)) = (h : Int) := by rw [IntKind.wrap_i64]; omega
          obtain ⟨x7, hx7⟩ : ∃ x, x = d[r]! := ⟨_, rfl⟩
          obtain ⟨y7, hy7⟩ : ∃ x, x = d[h]! := ⟨_, rfl⟩
          have l7a := S1.out.ld R (by omega) P (r) (by omega)
          have l7b := S1.out.ld R (by omega) P (h) (by omega)
          rw [← hx7] at l7a
          rw [← hy7] at l7b
          have hc7 := S1.out.cmp HC.out (by omega) x7 y7
          have hv7 : ¬ cf x7 y7 < 0 := by rw [hx7, hy7]; exact of_decide_eq_false hL
          have hd7 : decide (cf x7 y7 < 0) = false := decide_eq_false hv7
          clear hx7 hy7
          go_wp2_with fail
          go_quiet_grown (first | (go_at_fn g; refine Calls.grown_of (hc7 _ _)))
          have S2 : Aside (SWK enc k w0 blk off d (grow (wr.drewN nq) osq)) := S1.out.grown nq osq
          clear l7a l7b hc7 S1
          generalize grow (wr.drewN nq) osq = w2 at S2 ⊢
          clear nq osq
          go_wp2
          go_roundg (j - (h + 1))
          case measure => omega
          case rel =>
            refine ⟨h + 1, j, by first | rfl | go_num | (congr 1; omega), rfl, by omega, by omega, by omega, Nat.le_refl _, S2, (show Hid _ from ?_)⟩
            show _ = _
            rw [← HE.out]
            conv => rhs; rw [Stb.bs, if_pos hlt, ← Hh.out, if_pos (show (fun c => !ltOf cf d[p - c]! d[c]!) h = true by simp only []; rw [← HRr.out, hL]; simp)]
      · have hltz : ¬ (i : Int) < (j : Int) := by omega
        have hij : i = j := by omega
        subst hij
        have hbs : i = _ := (show Stb.bs _ i i = i by rw [Stb.bs, if_neg (Nat.lt_irrefl i)]).symm.trans HE.out
        have hbd := Stb.symS_bd (ltOf cf) d a m b ham hmb
        rw [← hbs, ← HMID.out] at hbd
        have HB : Hid (i = Stb.symS (ltOf cf) d a m b) := hbs
        clear hbs HE hltz hlt
        generalize i = s at hbd hilo hij0 hjhi hkx HB ⊢
        obtain ⟨e, he⟩ : ∃ e, e = mid + m - s := ⟨_, rfl⟩
        have be : e + s ≤ mid + m ∧ mid + m ≤ e + s := by omega
        have HEE : Hid (e = mid + m - s) := he
        clear he
        have een : (n : Int) - (s : Int) = (e : Int) := by omega
        have S2 : Aside (SWK enc k w0 blk off d wr) := S1
        clear S1
        generalize wr = w2 at S2 ⊢
        go_upto_region 39 with fail
        go_cut [185] from 178 to 185 (fun sx wx => sx = .bool (decide (s < m) && decide (m < e)) ∧ wx = w2)
        case first =>
          by_cases q1 : s < m
          · have q1z : (s : Int) < (m : Int) := by omega
            have q1d : decide ((s : Int) < (m : Int)) = true := decide_eq_true q1z
            by_cases q2 : m < e
            · have q2z : (m : Int) < (e : Int) := by omega
              have q2d : decide ((m : Int) < (e : Int)) = true := decide_eq_true q2z
              go_wp2_with fail
              go_meet
              exact ⟨by simp [q1, q2], rfl⟩
            · have q2z : ¬ (m : Int) < (e : Int) := by omega
              have q2d : decide ((m : Int) < (e : Int)) = false := decide_eq_false q2z
              go_wp2_with fail
              go_meet
              exact ⟨by simp [q1, q2], rfl⟩
          · have q1z : ¬ (s : Int) < (m : Int) := by omega
            have q1d : decide ((s : Int) < (m : Int)) = false := decide_eq_false q1z
            go_wp2_with fail
            go_meet
            exact ⟨by simp [q1], rfl⟩
        case rest =>
          obtain ⟨rfl, rfl⟩ := hcut
          go_upto_if 185 with fail
          go_cut [] from 185 to 191 (fun wx => Aside (SWK enc k w0 blk off (Stb.symR d s m e) wx))
          case first =>
            by_cases q : s < m ∧ m < e
            · have qb : (decide (s < m) && decide (m < e)) = true := by simp [q.1, q.2]
              have hc := HR.out d wc s m e rfl S2.out q.1 q.2 (by omega)
              go_wp2_with (go_at_fn 193; refine hc.mono ?_; rintro e1 w1 ⟨rfl, hw1⟩)
              go_meet
              case rel => rw [Stb.symR, if_pos q]; exact hw1
            · have qb : (decide (s < m) && decide (m < e)) = false := by
                cases hq : (decide (s < m) && decide (m < e)) with
                | false => rfl
                | true => exact absurd (by simpa using hq) q
              go_wp2_with fail
              go_meet
              case rel => rw [Stb.symR, if_neg q]; exact S2
          case rest =>
            have S3 : Aside (SWK enc k w0 blk off (Stb.symR d s m e) wc) := hcut
            clear S2 hcut
            obtain ⟨d1, hd1⟩ : ∃ d1, d1 = Stb.symR d s m e := ⟨_, rfl⟩
            rw [← hd1] at S3
            have hz1 : d1.size = d.size := by
              rw [hd1]
              exact Stb.symR_size d s m e
            have HD1 : Hid (d1 = Stb.symR d s m e) := hd1
            clear hd1
            go_upto_region 41 with fail
            go_cut [199] from 192 to 199 (fun sx wx => sx = .bool (decide (a < s) && decide (s < mid)) ∧ wx = wc)
            case first =>
              by_cases q1 : a < s
              · have q1z : (a : Int) < (s : Int) := by omega
                have q1d : decide ((a : Int) < (s : Int)) = true := decide_eq_true q1z
                by_cases q2 : s < mid
                · have q2z : (s : Int) < (mid : Int) := by omega
                  have q2d : decide ((s : Int) < (mid : Int)) = true := decide_eq_true q2z
                  go_wp2_with fail
                  go_meet
                  exact ⟨by simp [q1, q2], rfl⟩
                · have q2z : ¬ (s : Int) < (mid : Int) := by omega
                  have q2d : decide ((s : Int) < (mid : Int)) = false := decide_eq_false q2z
                  go_wp2_with fail
                  go_meet
                  exact ⟨by simp [q1, q2], rfl⟩
              · have q1z : ¬ (a : Int) < (s : Int) := by omega
                have q1d : decide ((a : Int) < (s : Int)) = false := decide_eq_false q1z
                go_wp2_with fail
                go_meet
                exact ⟨by simp [q1], rfl⟩
            case rest =>
              obtain ⟨rfl, rfl⟩ := hcut
              go_upto_if 199 with fail
              go_cut [] from 199 to 205 (fun wx => Aside (SWK enc k w0 blk off (Stb.symH F d1 a s mid) wx))
              case first =>
                by_cases q : a < s ∧ s < mid
                · have qb : (decide (a < s) && decide (s < mid)) = true := by simp [q.1, q.2]
                  have hc := IH.out d1 wc a s mid hz1 S3.out q.1 q.2 (by omega) (by omega)
                  rw [hz1] at hc
                  go_wp2_with (go_at_fn 170; refine hc.mono ?_; rintro e1 w1 ⟨rfl, hw1⟩)
                  go_meet
                  case rel => rw [Stb.symH, if_pos q]; exact hw1
                · have qb : (decide (a < s) && decide (s < mid)) = false := by
                    cases hq : (decide (a < s) && decide (s < mid)) with
                    | false => rfl
                    | true => exact absurd (by simpa using hq) q
                  go_wp2_with fail
                  go_meet
                  case rel => rw [Stb.symH, if_neg q]; exact S3
              case rest =>
                have S4 : Aside (SWK enc k w0 blk off (Stb.symH F d1 a s mid) wc) := hcut
                clear S3 hcut
                obtain ⟨d2, hd2⟩ : ∃ d2, d2 = Stb.symH F d1 a s mid := ⟨_, rfl⟩
                rw [← hd2] at S4
                have hz2 : d2.size = d.size := by
                  rw [hd2, Stb.symH]
                  split
                  · rw [HF, hz1]
                  · exact hz1
                have HD2 : Hid (d2 = Stb.symH F d1 a s mid) := hd2
                clear hd2
                go_upto_region 43 with fail
                go_cut [213] from 206 to 213 (fun sx wx => sx = .bool (decide (mid < e) && decide (e < b)) ∧ wx = wc)
                case first =>
                  by_cases q1 : mid < e
                  · have q1z : (mid : Int) < (e : Int) := by omega
                    have q1d : decide ((mid : Int) < (e : Int)) = true := decide_eq_true q1z
                    by_cases q2 : e < b
                    · have q2z : (e : Int) < (b : Int) := by omega
                      have q2d : decide ((e : Int) < (b : Int)) = true := decide_eq_true q2z
                      go_wp2_with fail
                      go_meet
                      exact ⟨by simp [q1, q2], rfl⟩
                    · have q2z : ¬ (e : Int) < (b : Int) := by omega
                      have q2d : decide ((e : Int) < (b : Int)) = false := decide_eq_false q2z
                      go_wp2_with fail
                      go_meet
                      exact ⟨by simp [q1, q2], rfl⟩
                  · have q1z : ¬ (mid : Int) < (e : Int) := by omega
                    have q1d : decide ((mid : Int) < (e : Int)) = false := decide_eq_false q1z
                    go_wp2_with fail
                    go_meet
                    exact ⟨by simp [q1], rfl⟩
                case rest =>
                  obtain ⟨rfl, rfl⟩ := hcut
                  by_cases q : mid < e ∧ e < b
                  · have qb : (decide (mid < e) && decide (e < b)) = true := by simp [q.1, q.2]
                    have hc := IH.out d2 wc mid e b hz2 S4.out q.1 q.2 (by omega) (by omega)
                    rw [hz2] at hc
                    go_wp2_with (go_at_fn 170; refine hc.mono ?_; rintro e1 w1 ⟨rfl, hw1⟩)
                    go_end0
                    refine ⟨rfl, ?_⟩
                    rw [← HB.out, ← HEE.out]
                    unfold Stb.symG
                    rw [← HD1.out, ← HD2.out, Stb.symH, if_pos q]
                    exact hw1
                  · have qb : (decide (mid < e) && decide (e < b)) = false := by
                      cases hq : (decide (mid < e) && decide (e < b)) with
                      | false => rfl
                      | true => exact absurd (by simpa using hq) q
                    go_wp2_with fail
                    go_end0
                    refine ⟨rfl, ?_⟩
                    rw [← HB.out, ← HEE.out]
                    unfold Stb.symG
                    rw [← HD1.out, ← HD2.out, Stb.symH, if_neg q]
                    exact S4.out


/-- symMerge, whole. -/
theorem symMerge_w (L : StL P) (k : Nat) (aE : ∀ w, (isAgg 49).run P w = .ok true w) (zE : ∀ w, (Go.sizeOf 49).run P w = .ok k w) (enc : α → List Value) (g : Nat) (cb : Array Value) (cf : α → α → Int) (eg : ∀ args w, (callFunc g args).run P w = .ok (.enter g args) w) (blk off cap : Nat) (d0 : Array α) (w0 : World) (hcmp : CmpLays P g cb enc k cf blk off d0.size w0) (R : RowK enc k w0 blk off d0) :
    ∀ (N a m b : Nat) (d : Array α) (w : World), b - a ≤ N → d0.size = d.size → SWK enc k w0 blk off d w → a < m → m < b → b ≤ d.size → d.size < 4611686018427387904 →
    Calls P 170 #[.slice (some ⟨blk, off, none⟩) d.size cap, .int .i64 a, .int .i64 m, .int .i64 b, .func (.func g) #[] cb] w fun e w' => e = .returned (.tuple #[]) ∧ SWK enc k w0 blk off (Stb.sym (ltOf cf) N d a m b) w' := by
  intro N
  induction N with
  | zero => intro a m b d w h1 h2 h3 h4 h5; omega
  | succ N ih =>
    intro a m b d w hN hs S ham hmb hb hsz
    unfold Stb.sym
    by_cases c1 : m - a = 1
    · rw [if_pos c1]
      exact sym_one L k aE zE enc g cb cf eg blk off cap a m b d0 d w0 w hcmp R hs S ham hmb hb hsz c1
    · rw [if_neg c1]
      by_cases c2 : b - m = 1
      · rw [if_pos c2]
        exact sym_last L k aE zE enc g cb cf eg blk off cap a m b d0 d w0 w hcmp R hs S ham hmb hb hsz c1 c2
      · rw [if_neg c2]
        exact sym_main L k aE zE enc g cb cf eg blk off cap a m b d0 d w0 w hcmp R hs S ham hmb hb hsz c1 c2 (Stb.sym (ltOf cf) N) (Stb.sym_size (ltOf cf) N) (fun d1 w1 a1 m1 b1 hz SS q1 q2 q3 q4 => ih a1 m1 b1 d1 w1 (by omega) (by omega) SS q1 q2 q3 (by omega))
end Go.Proofs.YtackpcohmmlkeaaGreatDoor
end

/- StZ: slices' stable sort at structs of k cells, whole, walked; and what comes out of it. -/
section
namespace Go.Proofs.YtackpcohmmlkeaaGreatDoor
open Go.Shelf Go.RowKit Go.Lib Go.Sort
variable {P : Program} {α : Type} [Inhabited α]

def renI : Ren := ⟨fun n => if n = 20 then 117 else 0, fun n => if n = 3 then 3 else if n = 4 then 4 else if n = 22 then 22 else if n = 24 then 49 else if n = 25 then 116 else 0, fun n => n⟩
set_option maxRecDepth 1000000 in
theorem StL.ins (L : StL P) : SlLaysF0.n20 P renI :=
  { mixed := L.mixed, f20 := ⟨Tryz.f117.name, by kernel_rfl, by rw [show renI.f 20 = 117 from rfl, L.fins]; kernel_rfl⟩, t0 := L.tT, a0 := L.aT, z0 := L.zT, v0 := L.vT, t3 := L.tI, a3 := L.aI, z3 := L.zI, v3 := L.vI, t4 := L.tB, a4 := L.aB, z4 := L.zB, v4 := L.vB, t22 := L.tS, a22 := L.aS, z22 := L.zS, v22 := L.vS, t25 := L.tC, a25 := L.aC, z25 := L.zC, v25 := L.vC }
namespace Stb
variable (lt : α → α → Bool)
theorem insInner_size (a : Nat) : ∀ (j : Nat) (d : Array α), (insInner lt a j d).size = d.size := by
  intro j
  induction j with
  | zero => intro d; rfl
  | succ j ih =>
    intro d
    rw [insInner]
    split
    · rw [ih, swp_size]
    · rfl
theorem insOuter_size (a b : Nat) : ∀ (i : Nat) (d : Array α), (insOuter lt a b i d).size = d.size := by
  intro i
  induction h : b - i generalizing i with
  | zero => intro d; rw [insOuter, if_neg (by omega)]
  | succ n ih => intro d; rw [insOuter, if_pos (by omega), ih (i + 1) (by omega), insInner_size]
theorem insertionSort_size (d : Array α) (a b : Nat) : (insertionSort lt d a b).size = d.size := insOuter_size lt a b _ d
end Stb
theorem insertion_w (L : StL P) (k : Nat) (aE : ∀ w, (isAgg 49).run P w = .ok true w) (zE : ∀ w, (Go.sizeOf 49).run P w = .ok k w) (enc : α → List Value) (g : Nat) (cb : Array Value) (cf : α → α → Int) (eg : ∀ args w, (callFunc g args).run P w = .ok (.enter g args) w) (blk off cap a b : Nat) (d0 d : Array α) (w0 w : World)
    (hcmp : CmpLays P g cb enc k cf blk off d0.size w0) (R : RowK enc k w0 blk off d0) (hs : d0.size = d.size) (S : SWK enc k w0 blk off d w) (hab : a ≤ b) (hb : b ≤ d.size) (hsz : d.size < 4611686018427387904) :
    Calls P 117 #[.slice (some ⟨blk, off, none⟩) d.size cap, .int .i64 a, .int .i64 b, .func (.func g) #[] cb] w fun e w' => e = .returned (.tuple #[]) ∧ SWK enc k w0 blk off (insertionSort (ltOf cf) d a b) w' := by
  have hC : CmpLays P g cb enc k cf blk off d.size w := fun m os dk hdk x y => by
    obtain ⟨n0, os0, rfl⟩ := S
    rw [sortWorldK_on enc k w0 blk off n0 m d dk os0 os R.hblk hdk]
    exact hcmp _ _ dk (by omega) x y
  refine (AnyQ.insertionSortCmpFunc (ρ := renI) L.ins k aE zE enc R.hk R.h1 cf g cb blk off cap a b d w eg hC (S.holds R.hblk R.hH hs.symm) (S.lt R.hblk) hab hb hsz).mono ?_
  rintro e w' ⟨rfl, n, os, rfl⟩
  exact ⟨rfl, S.on R.hblk n _ os (Stb.insertionSort_size _ _ _ _)⟩

set_option maxHeartbeats 8000000 in
set_option maxRecDepth 1000000 in
theorem stable_w (L : StL P) (k : Nat) (aE : ∀ w, (isAgg 49).run P w = .ok true w) (zE : ∀ w, (Go.sizeOf 49).run P w = .ok k w) (enc : α → List Value) (g : Nat) (cb : Array Value) (cf : α → α → Int) (eg : ∀ args w, (callFunc g args).run P w = .ok (.enter g args) w) (blk off cap n : Nat) (d0 d : Array α) (w0 w : World)
    (hcmp : CmpLays P g cb enc k cf blk off d0.size w0) (R : RowK enc k w0 blk off d0) (hs : d0.size = d.size) (S : SWK enc k w0 blk off d w) (hn : n ≤ d.size) (hsz : d.size < 2305843009213693952) :
    Calls P 132 #[.slice (some ⟨blk, off, none⟩) d.size cap, .int .i64 n, .func (.func g) #[] cb] w fun e w' => e = .returned (.tuple #[]) ∧ SWK enc k w0 blk off (Stb.stab (ltOf cf) d n) w' := by
  have mixed := L.mixed; have tT := L.tT; have aT := L.aT; have zT := L.zT; have vT := L.vT; have tI := L.tI; have aI := L.aI; have zI := L.zI; have vI := L.vI; have tB := L.tB; have aB := L.aB; have zB := L.zB; have vB := L.vB; have tU := L.tU; have aU := L.aU; have zU := L.zU; have vU := L.vU; have tS := L.tS; have aS := L.aS; have zS := L.zS; have vS := L.vS; have tC := L.tC; have aC := L.aC; have zC := L.zC; have vC := L.vC
  have FG := L.fstab
  have eins : ∀ args w, (callFunc 117 args).run P w = .ok (.enter 117 args) w := enters_of L.fins (by kernel_rfl) rfl
  have esym : ∀ args w, (callFunc 170 args).run P w = .ok (.enter 170 args) w := enters_of L.fsym (by kernel_rfl) rfl
  have HI : Aside (∀ (dk : Array α) (W : World) (x y : Nat), dk.size = d.size → SWK enc k w0 blk off dk W → x ≤ y → y ≤ n → Calls P 117 #[.slice (some ⟨blk, off, none⟩) d.size cap, .int .i64 x, .int .i64 y, .func (.func g) #[] cb] W fun e w' => e = .returned (.tuple #[]) ∧ SWK enc k w0 blk off (insertionSort (ltOf cf) dk x y) w') := fun dk W x y hz SS q1 q2 => by
    have := insertion_w L k aE zE enc g cb cf eg blk off cap x y d0 dk w0 W hcmp R (by omega) SS q1 (by omega) (by omega)
    rw [hz] at this; exact this
  have HM : Aside (∀ (dk : Array α) (W : World) (x y z : Nat), dk.size = d.size → SWK enc k w0 blk off dk W → x < y → y < z → z ≤ n → Calls P 170 #[.slice (some ⟨blk, off, none⟩) d.size cap, .int .i64 x, .int .i64 y, .int .i64 z, .func (.func g) #[] cb] W fun e w' => e = .returned (.tuple #[]) ∧ SWK enc k w0 blk off (Stb.sym (ltOf cf) (z - x) dk x y z) w') := fun dk W x y z hz SS q1 q2 q3 => by
    have := symMerge_w L k aE zE enc g cb cf eg blk off cap d0 w0 hcmp R (z - x) x y z dk W (Nat.le_refl _) (by omega) SS q1 q2 (by omega) (by omega)
    rw [hz] at this; exact this
  have S0 : Aside (SWK enc k w0 blk off d w) := S
  clear S hcmp
  go_enter FG, Tryz.ntmps132
  go_wp2
  go_loopg [7, 8] (n + 1) (fun kx s7 s8 wr => ∃ (a b : Nat) (dk : Array α), s7 = .int .i64 a ∧ s8 = .int .i64 b ∧ a ≤ n ∧ (b ≤ a + 20 ∧ a + 20 ≤ b) ∧ n + 1 - b ≤ kx ∧ dk.size = d.size ∧ Aside (SWK enc k w0 blk off dk wr) ∧ Hid (Stb.blk (ltOf cf) dk a b n = Stb.blk (ltOf cf) d 0 20 n))
  case atStart => exact ⟨0, 20, d, rfl, rfl, by omega, by omega, by omega, rfl, S0, rfl⟩
  case round =>
    clear S0
    obtain ⟨a, b, dk, rfl, rfl, ha, hab, hkx, hds, S1, HE⟩ := hrel
    by_cases hlt : b ≤ n
    · have hltz : (b : Int) ≤ (n : Int) := by omega
      have hc := HI.out dk wr a b hds S1.out (by omega) hlt
      go_wp2_with (go_at_fn 117; refine hc.mono ?_; rintro e w1 ⟨rfl, hw1⟩)
      go_roundg (n + 1 - (b + 20))
      case measure => omega
      case rel =>
        refine ⟨b, b + 20, insertionSort (ltOf cf) dk a b, rfl, by first | rfl | go_num | (congr 1; omega), hlt, by omega, Nat.le_refl _, by rw [Stb.insertionSort_size]; exact hds, hw1, (show Hid _ from ?_)⟩
        show _ = _
        rw [← HE.out]
        conv => rhs; rw [Stb.blk, if_pos hlt]
    · have hltz : ¬ (b : Int) ≤ (n : Int) := by omega
      have hc := HI.out dk wr a n hds S1.out ha (Nat.le_refl n)
      have HB : Hid (insertionSort (ltOf cf) dk a n = Stb.blk (ltOf cf) d 0 20 n) := by
        show _ = _
        rw [← HE.out, Stb.blk, if_neg hlt]
      go_wp2_with (go_at_fn 117; refine hc.mono ?_; rintro e w1 ⟨rfl, hw1⟩)
      have S2 : Aside (SWK enc k w0 blk off (insertionSort (ltOf cf) dk a n) w1) := hw1
      clear S1 hw1 hc HE hltz hlt hkx hab ha
      have hds2 : (insertionSort (ltOf cf) dk a n).size = d.size := by rw [Stb.insertionSort_size]; exact hds
      generalize insertionSort (ltOf cf) dk a n = d1 at S2 HB hds2
      clear hds
      go_loopg [6, 7, 8] n (fun kx s6 s7 s8 wr => ∃ (z : Nat) (dk : Array α), s6 = .int .i64 z ∧ 0 < z ∧ n - z ≤ kx ∧ dk.size = d.size ∧ Aside (SWK enc k w0 blk off dk wr) ∧ Hid (Stb.outer (ltOf cf) z dk n = Stb.outer (ltOf cf) 20 d1 n))
      case atStart => exact ⟨20, d1, rfl, by omega, by omega, hds2, S2, rfl⟩
      case round =>
        clear S2 hds2
        obtain ⟨z, dk, rfl, hz, hkx, hds, S1, HE⟩ := hrel
        by_cases hlt : z < n
        · have hltz : (z : Int) < (n : Int) := by omega
          have HO : Hid (Stb.outer (ltOf cf) (2 * z) (Stb.mloop (ltOf cf) z dk 0 (2 * z) n) n = Stb.outer (ltOf cf) 20 d1 n) := by
            show _ = _
            rw [← HE.out]
            conv => rhs; rw [Stb.outer, dif_pos ⟨hlt, hz⟩]
          clear HE
          go_wp2
          go_loopg [7, 8] (n + 1) (fun kx2 s7 s8 wr => ∃ (a b : Nat) (dj : Array α), s7 = .int .i64 a ∧ s8 = .int .i64 b ∧ a ≤ n ∧ (b ≤ a + 2 * z ∧ a + 2 * z ≤ b) ∧ n + 1 - b ≤ kx2 ∧ dj.size = d.size ∧ Aside (SWK enc k w0 blk off dj wr) ∧ Hid (Stb.mloop (ltOf cf) z dj a b n = Stb.mloop (ltOf cf) z dk 0 (2 * z) n))
          case atStart => exact ⟨0, 2 * z, dk, rfl, by first | rfl | go_num | (congr 1; omega), by omega, by omega, by omega, hds, S1, rfl⟩
          case round =>
            clear S1
            obtain ⟨a, b, dj, rfl, rfl, ha, hab, hkx2, hdj, S1, HE⟩ := hrel
            by_cases hlt2 : b ≤ n
            · have hlt2z : (b : Int) ≤ (n : Int) := by omega
              have hc := HM.out dj wr a (a + z) b hdj S1.out (by omega) (by omega) hlt2
              rw [show ((a + z : Nat) : Int) = (a : Int) + (z : Int) by omega] at hc
              go_wp2_with (go_at_fn 170; refine hc.mono ?_; rintro e w1 ⟨rfl, hw1⟩)
              go_roundg (n + 1 - (b + 2 * z))
              case measure => omega
              case rel =>
                refine ⟨b, b + 2 * z, Stb.sym (ltOf cf) (b - a) dj a (a + z) b, rfl, by first | rfl | go_num | (congr 1; omega), hlt2, by omega, Nat.le_refl _, by rw [Stb.sym_size]; exact hdj, hw1, (show Hid _ from ?_)⟩
                show _ = _
                rw [← HE.out]
                conv => rhs; rw [Stb.mloop, dif_pos ⟨hlt2, hz⟩]
            · have hlt2z : ¬ (b : Int) ≤ (n : Int) := by omega
              by_cases hm : a + z < n
              · have hmz : (a : Int) + (z : Int) < (n : Int) := by omega
                have hc := HM.out dj wr a (a + z) n hdj S1.out (by omega) hm (Nat.le_refl n)
                rw [show ((a + z : Nat) : Int) = (a : Int) + (z : Int) by omega] at hc
                go_wp2_with (go_at_fn 170; refine hc.mono ?_; rintro e w1 ⟨rfl, hw1⟩)
                go_roundg (n - 2 * z)
                case measure => omega
                case rel =>
                  refine ⟨2 * z, Stb.sym (ltOf cf) (n - a) dj a (a + z) n, by first | rfl | go_num | (congr 1; omega), by omega, Nat.le_refl _, by rw [Stb.sym_size]; exact hdj, hw1, (show Hid _ from ?_)⟩
                  show _ = _
                  rw [← HO.out, ← HE.out]
                  conv => rhs; rw [Stb.mloop, dif_neg (fun h => hlt2 h.1), if_pos hm]
              · have hmz : ¬ (a : Int) + (z : Int) < (n : Int) := by omega
                go_wp2
                go_roundg (n - 2 * z)
                case measure => omega
                case rel =>
                  refine ⟨2 * z, dj, by first | rfl | go_num | (congr 1; omega), by omega, Nat.le_refl _, hdj, S1, (show Hid _ from ?_)⟩
                  show _ = _
                  rw [← HO.out, ← HE.out]
                  conv => rhs; rw [Stb.mloop, dif_neg (fun h => hlt2 h.1), if_neg hm]
        · have hltz : ¬ (z : Int) < (n : Int) := by omega
          go_wp2
          go_end0
          refine ⟨rfl, ?_⟩
          have := HE.out
          rw [Stb.outer, dif_neg (fun h => hlt h.1)] at this
          unfold Stb.stab
          rw [← HB.out, ← this]
          exact S1.out
end Go.Proofs.YtackpcohmmlkeaaGreatDoor
end

/- StX: slices.SortedStableFunc(slices.Values(l), event.Compare): a row of the call's own that holds the events in their order, those that are alike as they stood. -/
section
namespace Go.Proofs.YtackpcohmmlkeaaGreatDoor
open Go.Shelf Go.RowKit Go.Lib Go.Sort
set_option linter.unusedVariables false
set_option linter.unusedSimpArgs false

theorem stL : StL Tryz.prog where
  mixed := by kernel_rfl
  fswr := Tryz.func200
  frot := Tryz.func193
  fsym := Tryz.func170
  fstab := Tryz.func132
  fins := Tryz.func117
  tT := by kernel_rfl
  aT := fun w => by simp [go_sem]
  zT := fun w => by simp [go_sem]
  vT := fun w => by simp [go_sem]
  tI := by kernel_rfl
  aI := fun w => by simp [go_sem]
  zI := fun w => by simp [go_sem]
  vI := fun w => by simp [go_sem]
  tB := by kernel_rfl
  aB := fun w => by simp [go_sem]
  zB := fun w => by simp [go_sem]
  vB := fun w => by simp [go_sem]
  tU := by kernel_rfl
  aU := fun w => by simp [go_sem]
  zU := fun w => by simp [go_sem]
  vU := fun w => by simp [go_sem]
  tS := by kernel_rfl
  aS := fun w => by simp [go_sem]
  zS := fun w => by simp [go_sem]
  vS := fun w => by simp [go_sem]
  tC := by kernel_rfl
  aC := fun w => by simp [go_sem]
  zC := fun w => by simp [go_sem]
  vC := fun w => by simp [go_sem]
theorem ins_none (fv : Value) (w : World) : Calls Tryz.prog 117 #[.slice none 0 0, .int .i64 0, .int .i64 0, fv] w fun e w' => e = .returned (.tuple #[]) ∧ w' = w := by
  go_enter Tryz.func117, Tryz.ntmps117
  go_wp2
  refine wp_loop_rounds 1 ?_
  rw [rounds_succ]
  go_wp2
  go_end0
  exact ⟨rfl, rfl⟩
set_option maxHeartbeats 1000000 in
theorem stab_none (g : Nat) (w : World) : Calls Tryz.prog 132 #[.slice none 0 0, .int .i64 0, .func (.func g) #[] #[]] w fun e w' => e = .returned (.tuple #[]) ∧ w' = w := by
  have H := Lib.hid (fun w => ins_none (.func (.func g) #[] #[]) w)
  go_enter Tryz.func132, Tryz.ntmps132
  go_wp2
  refine wp_loop_rounds 1 ?_
  rw [rounds_succ]
  go_wp2_with (go_at_call 117; refine (H.out _).mono ?_; rintro e w' ⟨rfl, rfl⟩)
  refine wp_loop_rounds 1 ?_
  rw [rounds_succ]
  go_wp2
  go_end0
  exact ⟨rfl, rfl⟩
set_option maxHeartbeats 1000000 in
theorem sortStable_any (base : Nat) (v : Value) (es : List Evt) (w : World) (hlen : es.length ≤ 1000000000) (ho : w.ownsRow base 49 7 v es.length (flE es)) (hbase : base ≤ w.heap.size) :
    Calls Tryz.prog 90 #[v, .func (.func 52) #[] #[]] w fun e w' => e = .returned (.tuple #[]) ∧ Below base w w' ∧ RdE w'.heap.size w' v (Stb.isort leE es) := by
  rcases ho.2 with ⟨rfl, hn⟩ | ⟨g, cap, cur, rfl, hg1, hg, hn, hcap, hsz, ht⟩
  · have he : es = [] := List.length_eq_zero_iff.1 hn
    subst he
    have H := Lib.hid (fun w => stab_none 52 w)
    clear ho hn
    go_enter Tryz.func90, Tryz.ntmps90
    go_wp2_with (go_at_call 132; refine (H.out _).mono ?_; rintro e w' ⟨rfl, rfl⟩)
    go_end0
    exact ⟨rfl, Below.refl _ _, .inl ⟨rfl, rfl⟩⟩
  · have hgl : g < w.heap.size := (Array.getElem?_eq_some_iff.1 hg).1
    have hH := holds_of_own hg ht
    have hsz1 : es.toArray.size = es.length := by simp
    have H0 := stable_w stL 7 agg_evt size_evt Evt.cells 52 #[] cfE (enters_of Tryz.func52 (by kernel_rfl) rfl) g 0 cap es.length es.toArray es.toArray w w (cmp_lays _ _ _ _) ⟨cells_len, one_evt, hH, hgl⟩ rfl (SWK.start hH) (by simp) (by simp; omega)
    rw [hsz1] at H0
    have H := Lib.hid H0
    clear H0 ho hcap hsz ht
    go_enter Tryz.func90, Tryz.ntmps90
    go_wp2_with (go_at_call 132; refine H.out.mono ?_; rintro e w' ⟨rfl, hS⟩)
    go_end0
    have hl := Stb.stab_law leE_total leE_trans es.toArray
    have hs := Stb.stab_size leE_total leE_trans es.toArray
    rw [hsz1] at hl hs
    have hh := hS.holds hgl hH (by rw [hs, hsz1])
    have ha : Stb.stab (ltOf cfE) es.toArray es.length = (Stb.isort leE es).toArray := by
      apply Array.ext'
      rw [hl]
    rw [ha] at hh
    have hle : (Stb.isort leE es).length = es.length := by
      have := congrArg Array.size ha
      rw [hs] at this; simpa using this.symm
    refine ⟨rfl, below_sort hg1 hbase hS, ?_⟩
    have := rdE_of_holds (cap := cap) hh (Nat.lt_of_lt_of_le hgl (below_sort (base := base) hg1 hbase hS).size)
    rw [hle] at this
    exact this
set_option maxHeartbeats 1000000 in
theorem sortedStable_any (g : Nat) (lb : Array Value) (eg : ∀ args w, (callFunc g args).run Tryz.prog w = .ok (.enter g args) w) (es : List Evt) (w : World) (hlen : es.length ≤ 1000000000) (hseq : SeqG Tryz.prog g lb Evt.agg w.heap.size es w) :
    Calls Tryz.prog 57 #[.func (.func g) #[] lb, .func (.func 52) #[] #[]] w fun e w' => ∃ v, e = .returned v ∧ Below w.heap.size w w' ∧ RdE w'.heap.size w' v (Stb.isort leE es) ∧ ∀ p n c, v = .slice (some p) n c → w.heap.size ≤ p.block := by
  have H1 := Lib.hid (collect_any g lb eg es hlen w hseq)
  have H2 := Lib.hid (fun v W hb ho => sortStable_any w.heap.size v es W hlen ho hb)
  clear hseq
  go_enter Tryz.func57, Tryz.ntmps57
  go_wp2_with (first | (go_at_call 89; refine H1.out.mono ?_; rintro e w' ⟨v, rfl, ho, hb⟩; have hb2 := hb.size) | (go_at_call 90; refine (H2.out _ _ hb2 ho).mono ?_; rintro e w2 ⟨rfl, hb3, hr⟩))
  go_ret
  refine ⟨v, rfl, hb.trans hb3, hr, fun p n c hv => ?_⟩
  rcases ho.2 with ⟨h0, -⟩ | ⟨g, cap, cur, h1, h2, -⟩
  · rw [h0] at hv; injection hv with hv; cases hv
  · rw [h1] at hv; injection hv with hv; injection hv with hv; subst hv; exact h2
end Go.Proofs.YtackpcohmmlkeaaGreatDoor
end
