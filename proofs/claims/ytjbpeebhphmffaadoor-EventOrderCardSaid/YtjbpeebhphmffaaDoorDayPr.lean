/- day.Print: what it hands back. -/
import Derived.Test.YtjbpeebhphmffaaDoorDayT
import Derived.Deep.QuietTactic
import Derived.BigQuiet
import Derived.BigRegion
namespace Go.Proofs.YtjbpeebhphmffaaDoor
open Go.RowKit

/-- A day's text, handed back. -/
def PrintPost (n : Int) (w : World) (e : Ending) (w' : World) : Prop :=
  ∃ l, Dy.Text n l ∧ e = .returned (.tuple #[.string ⟨l.toArray⟩, .nilIface]) ∧ Below w.heap.size w w'

set_option maxHeartbeats 400000 in
theorem day_print_bad (n : Int) (w : World) (h : n < 0 ∨ 99999 < n) :
    Calls Tryd.prog 15 #[.int .i64 n] w (Gives (.tuple #[.string ⟨#[]⟩, .iface 38 (.int .i64 1)]) w) := by
  have H := Lib.hid h
  clear h
  go_enter Tryd.func15, Tryd.ntmps15
  go_wp2_with (go_at_call 25; refine (parts_bad n _ H.out).mono ?_; rintro e w1 ⟨rfl, q, rfl⟩)
  go_ret2
  exact ⟨rfl, below_drewN (Below.refl _ _) q⟩

set_option maxHeartbeats 800000 in
theorem day_print_ok (n : Int) (w : World) (hw : DW w) (h0 : 0 ≤ n) (h1 : n ≤ 99999) :
    Calls Tryd.prog 15 #[.int .i64 n] w (PrintPost n w) := by
  go_enter Tryd.func15, Tryd.ntmps15
  go_wp2_with fail
  refine (parts_ok n _ hw h0 h1).mono ?_
  rintro e w1 ⟨y, d, m, hi, rfl, q, rfl⟩
  obtain ⟨Y, rfl⟩ : ∃ Y : Nat, y = Y := ⟨y.toNat, by have := hi.1.1; omega⟩
  obtain ⟨D, rfl⟩ : ∃ D : Nat, d = D := ⟨d.toNat, by have := hi.1.2.2.2.2.1; omega⟩
  have hlen : ((D : Int)) ≤ 31 := by
    have a1 := hi.1.2.2.2.2.2
    have a2 := Dy.len_pos Y m (by have := hi.1.2.2.1; omega) (by have := hi.1.2.2.2.1; omega)
    simp at a1
    omega
  obtain ⟨b1, b2, b3, b4, b5, -⟩ := hi.1
  have HI := Lib.hid hi
  clear hi h0 h1
  have hb1 : Below w.heap.size w (w.drewN q) := below_drewN (Below.refl _ _) q
  have hw1 : DW (w.drewN q) := hw.drew q
  generalize w.drewN q = w1 at hb1 hw1 ⊢
  obtain ⟨sy, hsy⟩ : ∃ s : ByteArray, s = ⟨(Dy.four4 Y).toArray⟩ := ⟨_, rfl⟩
  obtain ⟨sm, hsm⟩ : ∃ s : ByteArray, s = ⟨(Dy.two2 m).toArray⟩ := ⟨_, rfl⟩
  obtain ⟨sd, hsd⟩ : ∃ s : ByteArray, s = ⟨(Dy.two2 D).toArray⟩ := ⟨_, rfl⟩
  have H4 : Hid (∀ w2, DW w2 → Calls Tryd.prog 26 #[.int .i64 Y, .int .i64 4] w2 (Gives (.string sy) w2)) := Lib.hid (fun w2 hw2 => by rw [hsy]; exact two_4 Y w2 hw2 (by omega) (by omega))
  have HM : Hid (∀ w2, Calls Tryd.prog 26 #[.int .i64 m, .int .i64 2] w2 (Gives (.string sm) w2)) := Lib.hid (fun w2 => by rw [hsm]; exact two_2 m w2 (by omega))
  have HD : Hid (∀ w2, Calls Tryd.prog 26 #[.int .i64 D, .int .i64 2] w2 (Gives (.string sd) w2)) := Lib.hid (fun w2 => by rw [hsd]; exact two_2 D w2 (by omega))
  have HT : Hid ((⟨(Dy.txt Y m D).toArray⟩ : ByteArray) = sy ++ ⟨#[45]⟩ ++ sm ++ ⟨#[45]⟩ ++ sd) := Lib.hid (by rw [hsy, hsm, hsd]; rfl)
  have z1 : sy.size = 4 := by rw [hsy]; rfl
  have z2 : sm.size = 2 := by rw [hsm]; rfl
  have z3 : sd.size = 2 := by rw [hsd]; rfl
  clear hsy hsm hsd
  go_wp2_with fail
  refine (H4.out _ hw1).mono ?_
  rintro e w2 ⟨rfl, hb2⟩
  go_wp2_with fail
  refine (HM.out _).mono ?_
  rintro e w3 ⟨rfl, hb3⟩
  go_wp2_with fail
  refine (HD.out _).mono ?_
  rintro e w4 ⟨rfl, hb4⟩
  go_wp2_with fail
  go_ret2
  refine ⟨_, ⟨Y, D, m, HI.out, rfl⟩, ?_, ((hb1.step hb2).step hb3).step hb4⟩
  rw [Int.toNat_natCast, Int.toNat_natCast, HT.out]
  rfl
end Go.Proofs.YtjbpeebhphmffaaDoor
