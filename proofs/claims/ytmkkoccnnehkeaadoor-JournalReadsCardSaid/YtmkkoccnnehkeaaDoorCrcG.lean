/- journal.Frame: what it hands back. -/
import Derived.Test.YtmkkoccnnehkeaaDoorCrcO
namespace Go.Proofs.YtmkkoccnnehkeaaDoor
open Go.RowKit

theorem cat_lists (a b c : List UInt8) (h : a ++ b = c) : (⟨a.toArray⟩ : ByteArray) ++ (⟨b.toArray⟩ : ByteArray) = ⟨c.toArray⟩ := by
  subst h
  apply ByteArray.ext
  simp [ByteArray.data_append]
theorem cat_right (a : List UInt8) (s : ByteArray) (c : List UInt8) (h : a ++ s.data.toList = c) : (⟨a.toArray⟩ : ByteArray) ++ s = ⟨c.toArray⟩ := by
  subst h
  apply ByteArray.ext
  simp [ByteArray.data_append]

set_option maxHeartbeats 400000 in
theorem frame_ok (n : Int) (s : ByteArray) (w : World) (hs : s.size ≤ 200) (h0 : 0 ≤ n) (h1 : n ≤ 100000) :
    Calls Tryd.prog 14 #[.int .i64 n, .string s] w (Gives (.tuple #[.string ⟨(Cr.frame n.toNat s.data.toList).toArray⟩, .nilIface]) w) := by
  obtain ⟨m, rfl⟩ := Int.eq_ofNat_of_zero_le h0
  rw [Int.toNat_natCast]
  obtain ⟨hd, hhd⟩ : ∃ hd, hd = Cr.head m s.data.toList := ⟨_, rfl⟩
  have e1 : Cr.four s.size ++ Cr.four m = hd := by rw [hhd, Cr.head]; simp
  have hl : hd.length = 8 := by rw [hhd]; rfl
  obtain ⟨bd, hbd⟩ : ∃ bd, bd = Cr.body m s.data.toList := ⟨_, rfl⟩
  have e2 : hd ++ (Cr.four (Cr.crc hd) ++ s.data.toList) = bd := by rw [hbd, hhd, Cr.body]
  have hl2 : bd.length = 12 + s.size := by rw [← e2]; simp [hl, Cr.four_len]; omega
  have e3 : bd ++ Cr.four (Cr.crc bd) = Cr.frame m s.data.toList := by rw [hbd, Cr.frame]
  obtain ⟨X, hX⟩ : ∃ X, X = Cr.four (Cr.crc hd) ++ s.data.toList := ⟨_, rfl⟩
  have hlX : X.length = 4 + s.size := by rw [hX]; simp [Cr.four_len]
  rw [← hX] at e2
  have a1 := cat_lists _ _ _ e1
  have a2 := cat_right _ s _ hX.symm
  have a3 := cat_lists _ _ _ e2
  have a4 := cat_lists _ _ _ e3
  have f1 := Cr.four_len s.size
  have f2 := Cr.four_len m
  have f3 := Cr.four_len (Cr.crc hd)
  have f4 := Cr.four_len (Cr.crc bd)
  have C1 := sum_at ⟨hd.toArray⟩ (by show hd.toArray.size ≤ maxLen; unfold maxLen; simp; omega) (Cr.crc hd) (by simp)
  have C2 := sum_at ⟨bd.toArray⟩ (by show bd.toArray.size ≤ maxLen; unfold maxLen; simp; omega) (Cr.crc bd) (by simp)
  have q1 := Cr.crc_lt hd
  have q2 := Cr.crc_lt bd
  have HC1 := Lib.hid C1
  have HC2 := Lib.hid C2
  clear e1 e2 e3 hhd hbd hX C1 C2
  go_enter Tryd.func14, Tryd.ntmps14
  go_wp2_with fail
  refine (four_at _ (by omega) (by omega)).mono ?_
  rintro e w1 ⟨rfl, hb1⟩
  go_wp2_with fail
  refine (four_at _ (by omega) (by omega)).mono ?_
  rintro e w2 ⟨rfl, hb2⟩
  go_wp2_with fail
  refine (HC1.out _).mono ?_
  rintro e w' ⟨rfl, rfl⟩
  go_wp2_with fail
  refine (four_at _ (by omega) (by omega)).mono ?_
  rintro e w3 ⟨rfl, hb3⟩
  go_wp2_with fail
  refine (HC2.out _).mono ?_
  rintro e w' ⟨rfl, rfl⟩
  go_wp2_with fail
  refine (four_at _ (by omega) (by omega)).mono ?_
  rintro e w4 ⟨rfl, hb4⟩
  go_wp2_with fail
  go_ret2
  exact ⟨rfl, ((hb1.step hb2).step hb3).step hb4⟩

set_option maxHeartbeats 400000 in
theorem frame_long (n : Int) (s : ByteArray) (w : World) (hs : 200 < s.size) :
    Calls Tryd.prog 14 #[.int .i64 n, .string s] w (Gives (.tuple #[.string ⟨#[]⟩, .iface 37 (.int .i64 4)]) w) := by
  go_enter Tryd.func14, Tryd.ntmps14
  go_wp2
  go_ret2
  exact ⟨rfl, Below.refl _ _⟩
set_option maxHeartbeats 400000 in
theorem frame_far (n : Int) (s : ByteArray) (w : World) (hs : s.size ≤ 200) (hn : n < 0 ∨ 100000 < n) :
    Calls Tryd.prog 14 #[.int .i64 n, .string s] w (Gives (.tuple #[.string ⟨#[]⟩, .iface 37 (.int .i64 1)]) w) := by
  by_cases h : n < 0
  all_goals
    go_enter Tryd.func14, Tryd.ntmps14
    go_wp2
    go_ret2
    exact ⟨rfl, Below.refl _ _⟩
end Go.Proofs.YtmkkoccnnehkeaaDoor
