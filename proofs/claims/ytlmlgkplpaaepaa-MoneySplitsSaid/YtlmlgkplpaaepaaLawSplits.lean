/- tallymankeep.MoneySplits: the walk. -/
import Derived.Test.YtlmlgkplpaaepaaCounted
namespace Go.Proofs.Ytlmlgkplpaaepaa
open Go.RowKit

theorem part_gives (t s m : Int) (w : World) (h1 : 0 ≤ t) (h2 : t ≤ 20000000000000) (h3 : 1 ≤ m) (h4 : m ≤ 100000) (h5 : 0 ≤ s) (h6 : s ≤ m) :
    Calls Try.prog 12 #[.int .i64 t, .int .i64 s, .int .i64 m] w (Gives (.tuple #[.int .i64 (t * s / m), .nilIface]) w) := by
  refine (part_ok t s m w h1 h2 h3 h4 h5 h6).mono ?_
  rintro e w' ⟨rfl, n, rfl⟩
  exact ⟨rfl, below_drewN (Below.refl _ _) n⟩

def PartIs (t s m : Int) (w : World) (e : Ending) (w' : World) : Prop := ∃ x : Int, e = .returned (.tuple #[.int .i64 x, .nilIface]) ∧ Below w.heap.size w w' ∧ 0 ≤ x ∧ x ≤ t ∧ Hid (x = t * s / m)
theorem part_is (t s m : Int) (w : World) (h1 : 0 ≤ t) (h2 : t ≤ 20000000000000) (h3 : 1 ≤ m) (h4 : m ≤ 100000) (h5 : 0 ≤ s) (h6 : s ≤ m) :
    Calls Try.prog 12 #[.int .i64 t, .int .i64 s, .int .i64 m] w (PartIs t s m w) := by
  refine (part_gives t s m w h1 h2 h3 h4 h5 h6).mono ?_
  rintro e w' ⟨rfl, hb⟩
  have h := part_le t s m h1 h3 h5 h6
  exact ⟨_, rfl, hb, h.1, h.2, rfl⟩

theorem part_mono (t s s' m : Int) (h1 : 0 ≤ t) (h3 : 1 ≤ m) (h : s ≤ s') : t * s / m ≤ t * s' / m :=
  Int.ediv_le_ediv (by omega) (Int.mul_le_mul_of_nonneg_left h h1)
theorem part_all (t m : Int) (h3 : 1 ≤ m) : t * m / m = t := Int.mul_ediv_cancel _ (by omega)

set_option maxHeartbeats 400000 in
set_option maxRecDepth 100000 in
theorem splits_walk (t a b m : Int) (w : World) (_ : (Lit.int .i64 t).wf = true) (_ : (Lit.int .i64 a).wf = true) (_ : (Lit.int .i64 b).wf = true) (_ : (Lit.int .i64 m).wf = true) : Calls Try.prog 4 #[.int .i64 t, .int .i64 a, .int .i64 b, .int .i64 m] w (Gives (.bool true) w) := by
  go_enter Try.func4, Try.ntmps4
  go_wp2_with fail
  refine (counted_any _).mono ?_
  rintro e w1 ⟨rfl, hb1⟩
  go_wp2_with fail
  refine (pick_any t 1000000000001 _ (by omega) (by omega)).mono ?_
  rintro e w' ⟨T, hT0, hT1, rfl, rfl⟩
  go_wp2_with fail
  refine (pick_any m 100000 _ (by omega) (by omega)).mono ?_
  rintro e w' ⟨M, hM0, hM1, rfl, rfl⟩
  go_wp2_with fail
  refine (pick_any a _ _ (by omega) (by omega)).mono ?_
  rintro e w' ⟨A, hA0, hA1, rfl, rfl⟩
  go_wp2_with fail
  refine (pick_any b _ _ (by omega) (by omega)).mono ?_
  rintro e w' ⟨B, hB0, hB1, rfl, rfl⟩
  go_wp2_with fail
  refine (part_is _ _ _ _ (by omega) (by omega) (by omega) (by omega) (by omega) (by omega)).mono ?_
  rintro e w2 ⟨x, rfl, hb2, hx0, hx1, Hx⟩
  go_wp2_with fail
  refine (part_is _ _ _ _ (by omega) (by omega) (by omega) (by omega) (by omega) (by omega)).mono ?_
  rintro e w3 ⟨y, rfl, hb3, hy0, hy1, Hy⟩
  go_wp2_with fail
  refine (part_is _ _ _ _ (by omega) (by omega) (by omega) (by omega) (by omega) (by omega)).mono ?_
  rintro e w4 ⟨z, rfl, hb4, hz0, hz1, Hz⟩
  go_wp2_with fail
  refine (part_is _ _ _ _ (by omega) (by omega) (by omega) (by omega) (by omega) (by omega)).mono ?_
  rintro e w5 ⟨o, rfl, hb5, ho0, ho1, Ho⟩
  have hxy : x ≤ y := by rw [Hx.out, Hy.out]; exact part_mono _ _ _ _ hT0 (by omega) (by omega)
  have hz : z = T := by rw [Hz.out]; exact part_all _ _ (by omega)
  have ho : o = 0 := by rw [Ho.out]; simp
  subst hz
  subst ho
  clear Hx Hy Hz Ho
  by_cases hA : A = 1 + M
  · subst hA
    go_wp2_with fail
    go_ret
    exact ⟨rfl, (((hb1.step hb2).step hb3).step hb4).step hb5⟩
  · have hA' : (A == 1 + M) = false := by simpa using hA
    go_wp2_with fail
    refine (part_is _ _ _ _ (by omega) (by omega) (by omega) (by omega) (by omega) (by omega)).mono ?_
    rintro e w6 ⟨p, rfl, hb6, hp0, hp1, Hp⟩
    go_wp2_with fail
    refine (part_is _ _ _ _ (by omega) (by omega) (by omega) (by omega) (by omega) (by omega)).mono ?_
    rintro e w7 ⟨q, rfl, hb7, hq0, hq1, Hq⟩
    have hq : q = z - p := by rw [Hq.out]; exact part_all _ _ (by omega)
    subst hq
    clear Hp Hq
    have hpq : (p + (z - p) == z) = true := by rw [beq_iff_eq]; omega
    go_wp2_with fail
    go_ret
    exact ⟨rfl, (((((hb1.step hb2).step hb3).step hb4).step hb5).step hb6).step hb7⟩
end Go.Proofs.Ytlmlgkplpaaepaa
