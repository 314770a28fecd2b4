/- tallymanref.Date: what it hands back. -/
import Derived.Test.YtmkfdmbjeppndaaDoorRefQ
import Derived.Test.YtmkfdmbjeppndaaDoorDayT
namespace Go.Proofs.YtmkfdmbjeppndaaDoor
open Go.RowKit

theorem Dy.dec3 (k : Nat) (h : k < 100) : Lib.decDigits (100 + k) = 49 :: Dy.two2 k := by
  rw [Lib.decDigits, dif_neg (by omega), Lib.decDigits_two (by omega) (by omega)]
  rw [show (100 + k) / 10 / 10 = 1 by omega, show (100 + k) / 10 % 10 = k / 10 by omega, show (100 + k) % 10 = k % 10 by omega]
  rfl

set_option maxHeartbeats 400000 in
theorem refTwo (k : Nat) (w : World) (hw : DW w) (h : k < 100) :
    Calls Tryd.prog 37 #[.int .i64 k] w (Gives (.string ⟨(Dy.two2 k).toArray⟩) w) := by
  obtain ⟨s, hs⟩ : ∃ s : ByteArray, s = ⟨(Lib.decDigits (100 + k)).toArray⟩ := ⟨_, rfl⟩
  have hsz : s.size = 3 := by rw [hs, Dy.dec3 k h]; rfl
  have he : s.extract 1 s.size = ⟨(Dy.two2 k).toArray⟩ := by rw [hsz, hs, Dy.dec3 k h]; rfl
  have f1 := slice_from (P := Tryd.prog) 9 Tryd.underlying9 s 1 1 rfl (by omega)
  rw [he] at f1
  have hI : Hid (Calls Tryd.prog 31 #[.int .i64 (100 + (k : Int))] w (Gives (.string s) w)) := by
    refine Lib.hid ((Tryd.strconv_Itoa (100 + (k : Int)) (by omega) (by omega) _ hw.pow).mono ?_)
    rintro e w1 ⟨rfl, q, os, rfl⟩
    refine ⟨?_, below_grow _ _ _⟩
    rw [hs, show (100 + (k : Int)) = ((100 + k : Nat) : Int) by omega, itoa_nat]
  clear hs he
  go_enter Tryd.func37, Tryd.ntmps37
  go_wp2_with fail
  refine hI.out.mono ?_
  rintro e w1 ⟨rfl, hb⟩
  go_wp2_with fail
  go_ret
  exact ⟨rfl, hb⟩

set_option maxHeartbeats 400000 in
theorem refDate_bad (n : Int) (w : World) (h : n < 0 ∨ 99999 < n) :
    Calls Tryd.prog 23 #[.int .i64 n] w (Gives (.tuple #[.string ⟨#[]⟩, .int .i64 1]) w) := by
  have H := Lib.hid h
  clear h
  go_enter Tryd.func23, Tryd.ntmps23
  go_wp2_with fail
  refine (refParts_bad n _ H.out).mono ?_
  rintro e w1 ⟨rfl, rfl⟩
  go_wp2_with fail
  go_ret2
  exact ⟨rfl, Below.refl _ _⟩

set_option maxHeartbeats 800000 in
theorem refDate_ok (n : Int) (w : World) (hw : DW w) (h0 : 0 ≤ n) (h1 : n ≤ 99999) :
    Calls Tryd.prog 23 #[.int .i64 n] w (fun e w' => ∃ l, Dy.Text n l ∧ e = .returned (.tuple #[.string ⟨l.toArray⟩, .int .i64 0]) ∧ Below w.heap.size w w') := by
  go_enter Tryd.func23, Tryd.ntmps23
  go_wp2_with fail
  refine (refParts_ok n _ h0 h1).mono ?_
  rintro e w1 ⟨y, d, m, hi, rfl, rfl⟩
  obtain ⟨Y, rfl⟩ : ∃ Y : Nat, y = Y := ⟨y.toNat, by have := hi.1.1; omega⟩
  obtain ⟨D, rfl⟩ : ∃ D : Nat, d = D := ⟨d.toNat, by have := hi.1.2.2.2.2.1; omega⟩
  have hlen : ((D : Int)) ≤ 31 := by
    have a1 := hi.1.2.2.2.2.2
    have a2 := Dy.len_pos Y m (by have := hi.1.2.2.1; omega) (by have := hi.1.2.2.2.1; omega)
    simp at a1
    omega
  obtain ⟨b1, b2, b3, b4, b5, -⟩ := hi.1
  have HI := Lib.hid hi
  clear hi h0 h1
  obtain ⟨sy, hsy⟩ : ∃ s : ByteArray, s = ⟨(Dy.four4 Y).toArray⟩ := ⟨_, rfl⟩
  obtain ⟨sm, hsm⟩ : ∃ s : ByteArray, s = ⟨(Dy.two2 m).toArray⟩ := ⟨_, rfl⟩
  obtain ⟨sd, hsd⟩ : ∃ s : ByteArray, s = ⟨(Dy.two2 D).toArray⟩ := ⟨_, rfl⟩
  have H4 : Hid (∀ w2, DW w2 → Calls Tryd.prog 31 #[.int .i64 Y] w2 (Gives (.string sy) w2)) := Lib.hid (fun w2 hw2 => by
    refine (Tryd.strconv_Itoa Y (by omega) (by omega) _ hw2.pow).mono ?_
    rintro e w1 ⟨rfl, q, os, rfl⟩
    exact ⟨by rw [hsy, itoa_nat, Dy.dec4 Y (by omega) (by omega)], below_grow _ _ _⟩)
  have HM : Hid (∀ w2, DW w2 → Calls Tryd.prog 37 #[.int .i64 m] w2 (Gives (.string sm) w2)) := Lib.hid (fun w2 hw2 => by rw [hsm]; exact refTwo m w2 hw2 (by omega))
  have HD : Hid (∀ w2, DW w2 → Calls Tryd.prog 37 #[.int .i64 D] w2 (Gives (.string sd) w2)) := Lib.hid (fun w2 hw2 => by rw [hsd]; exact refTwo D w2 hw2 (by omega))
  have HT : Hid ((⟨(Dy.txt Y m D).toArray⟩ : ByteArray) = sy ++ ⟨#[45]⟩ ++ sm ++ ⟨#[45]⟩ ++ sd) := Lib.hid (by rw [hsy, hsm, hsd]; rfl)
  have z1 : sy.size = 4 := by rw [hsy]; rfl
  have z2 : sm.size = 2 := by rw [hsm]; rfl
  have z3 : sd.size = 2 := by rw [hsd]; rfl
  clear hsy hsm hsd
  go_wp2_with fail
  refine (H4.out _ hw).mono ?_
  rintro e w2 ⟨rfl, hb2⟩
  have hw2 := hw.below hb2
  go_wp2_with fail
  refine (HM.out _ hw2).mono ?_
  rintro e w3 ⟨rfl, hb3⟩
  have hw3 := hw2.below hb3
  go_wp2_with fail
  refine (HD.out _ hw3).mono ?_
  rintro e w4 ⟨rfl, hb4⟩
  go_wp2_with fail
  go_ret2
  refine ⟨_, ⟨Y, D, m, HI.out, rfl⟩, ?_, (hb2.step hb3).step hb4⟩
  rw [Int.toNat_natCast, Int.toNat_natCast, HT.out]
  rfl
end Go.Proofs.YtmkfdmbjeppndaaDoor
