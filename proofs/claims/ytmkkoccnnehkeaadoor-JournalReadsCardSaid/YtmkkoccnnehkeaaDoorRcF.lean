/- tallymanref.Frame: what it hands back. -/
import Derived.Test.YtmkkoccnnehkeaaDoorRcS
namespace Go.Proofs.YtmkkoccnnehkeaaDoor
open Go.RowKit

theorem refSum_at (s : ByteArray) (hs : s.size ≤ maxLen) (x : Nat) (hx : x = Cr.crc s.data.toList) (w : World) :
    Calls Tryd.prog 17 #[.string s] w fun e w' => e = .returned (.int .u32 (x : Int)) ∧ w' = w := by
  subst hx
  exact (refSum_any s w hs).mono fun e w' h => ⟨h.1, h.2.symm⟩

set_option maxHeartbeats 800000 in
theorem refFrame_ok (n : Int) (s : ByteArray) (w : World) (hs : s.size ≤ 200) (h0 : 0 ≤ n) (h1 : n ≤ 100000) :
    Calls Tryd.prog 13 #[.int .i64 n, .string s] w (Gives (.tuple #[.string ⟨(Cr.frame n.toNat s.data.toList).toArray⟩, .int .i64 0]) w) := by
  obtain ⟨m, rfl⟩ := Int.eq_ofNat_of_zero_le h0
  rw [Int.toNat_natCast]
  obtain ⟨hd, hhd⟩ : ∃ hd, hd = Cr.head m s.data.toList := ⟨_, rfl⟩
  have e1 : Cr.four s.size ++ Cr.four m = hd := by rw [hhd, Cr.head]; simp
  have hl : hd.length = 8 := by rw [hhd]; rfl
  obtain ⟨hd2, hhd2⟩ : ∃ hd2, hd2 = hd ++ Cr.four (Cr.crc hd) := ⟨_, rfl⟩
  have hl12 : hd2.length = 12 := by rw [hhd2]; simp [hl, Cr.four_len]
  obtain ⟨bd, hbd⟩ : ∃ bd, bd = Cr.body m s.data.toList := ⟨_, rfl⟩
  have e2 : hd2 ++ s.data.toList = bd := by rw [hbd, hhd2, hhd, Cr.body]; simp
  have hl2 : bd.length = 12 + s.size := by rw [← e2]; simp [hl12]
  have e3 : bd ++ Cr.four (Cr.crc bd) = Cr.frame m s.data.toList := by rw [hbd, Cr.frame]
  have a1 := cat_lists _ _ _ e1
  have a2 := cat_lists _ _ _ hhd2.symm
  have a3 := cat_right hd2 s _ e2
  have a4 := cat_lists _ _ _ e3
  have f1 := Cr.four_len s.size
  have f2 := Cr.four_len m
  have f3 := Cr.four_len (Cr.crc hd)
  have f4 := Cr.four_len (Cr.crc bd)
  have C1 := refSum_at ⟨hd.toArray⟩ (by show hd.toArray.size ≤ maxLen; unfold maxLen; simp; omega) (Cr.crc hd) (by simp)
  have C2 := refSum_at ⟨bd.toArray⟩ (by show bd.toArray.size ≤ maxLen; unfold maxLen; simp; omega) (Cr.crc bd) (by simp)
  have q1 := Cr.crc_lt hd
  have q2 := Cr.crc_lt bd
  have HC1 := Lib.hid C1
  have HC2 := Lib.hid C2
  clear e1 e2 e3 hhd hbd hhd2 C1 C2
  go_enter Tryd.func13, Tryd.ntmps13
  go_wp2_with fail
  refine (in_yes _ _ _ _ (by omega) (by omega)).mono ?_
  rintro e w1 ⟨rfl, rfl⟩
  go_wp2_with fail
  refine (refFour_at _ (by omega) (by omega)).mono ?_
  rintro e w1 ⟨rfl, hb1⟩
  go_wp2_with fail
  refine (refFour_at _ (by omega) (by omega)).mono ?_
  rintro e w2 ⟨rfl, hb2⟩
  go_wp2_with fail
  refine (HC1.out _).mono ?_
  rintro e w' ⟨rfl, rfl⟩
  go_wp2_with fail
  refine (refFour_at _ (by omega) (by omega)).mono ?_
  rintro e w3 ⟨rfl, hb3⟩
  go_wp2_with fail
  refine (HC2.out _).mono ?_
  rintro e w' ⟨rfl, rfl⟩
  go_wp2_with fail
  refine (refFour_at _ (by omega) (by omega)).mono ?_
  rintro e w4 ⟨rfl, hb4⟩
  go_wp2_with fail
  go_ret2
  exact ⟨rfl, ((hb1.step hb2).step hb3).step hb4⟩

set_option maxHeartbeats 400000 in
theorem refFrame_long (n : Int) (s : ByteArray) (w : World) (hs : 200 < s.size) :
    Calls Tryd.prog 13 #[.int .i64 n, .string s] w (Gives (.tuple #[.string ⟨#[]⟩, .int .i64 4]) w) := by
  go_enter Tryd.func13, Tryd.ntmps13
  go_wp2
  go_ret2
  exact ⟨rfl, Below.refl _ _⟩
set_option maxHeartbeats 400000 in
theorem refFrame_far (n : Int) (s : ByteArray) (w : World) (hs : s.size ≤ 200) (hn : n < 0 ∨ 100000 < n) :
    Calls Tryd.prog 13 #[.int .i64 n, .string s] w (Gives (.tuple #[.string ⟨#[]⟩, .int .i64 1]) w) := by
  have H := Lib.hid hn
  clear hn
  go_enter Tryd.func13, Tryd.ntmps13
  go_wp2_with fail
  refine (in_no n _ _ _ H.out).mono ?_
  rintro e w1 ⟨rfl, rfl⟩
  go_wp2_with fail
  go_ret2
  exact ⟨rfl, Below.refl _ _⟩
end Go.Proofs.YtmkkoccnnehkeaaDoor
