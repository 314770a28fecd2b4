/- tallymanlaw.JournalReads: the walk. -/
import Derived.Test.YtmkkoccnnehkeaaDoorRcR
import Derived.Test.YtmkkoccnnehkeaaDoorSameS
import Derived.Test.YtmkkoccnnehkeaaDoorTell
namespace Go.Proofs.YtmkkoccnnehkeaaDoor
open Go.RowKit

theorem frames_alike (n : Int) (s : ByteArray) : ∃ (x : ByteArray) (c : Int) (er : Value), Hid (∀ w, EW w → Calls Tryd.prog 13 #[.int .i64 n, .string s] w (Gives (.tuple #[.string x, .int .i64 c]) w)) ∧
    Hid (∀ w, EW w → Calls Tryd.prog 14 #[.int .i64 n, .string s] w (Gives (.tuple #[.string x, er]) w)) ∧ Hid (∀ w, EW w → Calls Tryd.prog 15 #[er, .int .i64 c] w (Gives (.bool true) w)) := by
  by_cases hs : 200 < s.size
  · exact ⟨_, 4, _, Lib.hid (fun w _ => refFrame_long n s w hs), Lib.hid (fun w _ => frame_long n s w hs), Lib.hid (fun w hw => bare_any (some 4) w hw)⟩
  · by_cases hn : n < 0 ∨ 100000 < n
    · exact ⟨_, 1, _, Lib.hid (fun w _ => refFrame_far n s w (by omega) hn), Lib.hid (fun w _ => frame_far n s w (by omega) hn), Lib.hid (fun w hw => bare_any (some 1) w hw)⟩
    · exact ⟨_, 0, _, Lib.hid (fun w _ => refFrame_ok n s w (by omega) (by omega) (by omega)), Lib.hid (fun w _ => frame_ok n s w (by omega) (by omega) (by omega)), Lib.hid (fun w hw => bare_any none w hw)⟩

theorem strv_map (ts : List (List UInt8)) : ts.map strv = (ts.map (fun t => (⟨t.toArray⟩ : ByteArray))).map Value.string := by
  rw [List.map_map]; rfl

set_option maxHeartbeats 2000000 in
set_option maxRecDepth 100000 in
theorem reads_walk (n : Int) (line s : ByteArray) (w : World) (hw : EW w) (h1 : line.size ≤ maxLen) (h2 : s.size ≤ maxLen) :
    Calls Tryd.prog 4 #[.int .i64 n, .string line, .string s] w (Gives (.bool true) w) := by
  unfold maxLen at h1 h2
  by_cases c1 : 260 < line.size
  · go_enter Tryd.func4, Tryd.ntmps4
    go_wp2
    go_ret
    exact ⟨rfl, Below.refl _ _⟩
  · by_cases c2 : 1500 < s.size
    · go_enter Tryd.func4, Tryd.ntmps4
      go_wp2
      go_ret
      exact ⟨rfl, Below.refl _ _⟩
    · obtain ⟨x, c, er, f1, g1, b1⟩ := frames_alike n line
      have HS1 := Lib.hid (fun w => sum_any line w (by unfold maxLen; omega))
      have HS2 := Lib.hid (fun w => refSum_any line w (by unfold maxLen; omega))
      have hcl := Cr.crc_lt line.data.toList
      generalize Cr.crc line.data.toList = C at HS1 HS2
      have hxx : (x.toList == x.toList) = true := by simp
      clear hcl
      go_enter Tryd.func4, Tryd.ntmps4
      go_wp2_with fail
      refine (f1.out _ hw).mono ?_
      rintro e w1 ⟨rfl, hb⟩
      have hw1 := hw.below hb
      go_wp2_with fail
      refine (g1.out _ hw1).mono ?_
      rintro e w2 ⟨rfl, hb2⟩
      replace hb := hb.step hb2
      have hw2 := hw1.below hb2
      go_wp2_with fail
      refine (b1.out _ hw2).mono ?_
      rintro e w3 ⟨rfl, hb3⟩
      replace hb := hb.step hb3
      clear hw1 hw2 hb2 hb3
      go_wp2_with fail
      refine (HS1.out _).mono ?_
      rintro e w' ⟨rfl, rfl⟩
      go_wp2_with fail
      refine (HS2.out _).mono ?_
      rintro e w' ⟨rfl, rfl⟩
      go_wp2_with fail
      refine (refRead_any s _ (by omega)).mono ?_
      rintro e w4 ⟨v1, t1, m1, hr1, rfl, ho1, hb4⟩
      obtain ⟨a1, d1, rfl, hd1, -, -⟩ := rd_of_own ho1
      have HR1 := Lib.hid hr1
      have HD1 := Lib.hid hd1
      have HB4 := Lib.hid hb4
      replace hb := hb.step hb4
      clear hr1 ho1 hd1 hb4
      go_wp2_with fail
      refine (read_any s _ (by omega)).mono ?_
      rintro e w5 ⟨v2, t2, m2, hr2, rfl, ho2, hb5⟩
      obtain ⟨a2, d2, rfl, hd2, -, -⟩ := rd_of_own ho2
      obtain ⟨e1, e2⟩ := hr2.det HR1.out
      subst e1
      subst e2
      have hl : 16 * t2.length ≤ 1500 := by
        have := Cr.reads_le hr2
        have e : s.data.toList.length = s.size := by simp
        omega
      have HD2 := Lib.hid hd2
      have HDX := Lib.hid (HD1.out.below hb5)
      replace hb := hb.step hb5
      have HL1 : Hid (t2.length = (t2.map (fun t => (⟨t.toArray⟩ : ByteArray))).length) := Lib.hid (by simp)
      have HL2 : Hid ((t2.map (fun t => (⟨t.toArray⟩ : ByteArray))).length ≤ 4000000000) := Lib.hid (by simp; omega)
      clear hr2 ho2 hd2 hb5 HR1 HD1 HB4 hl
      go_wp2_with fail
      refine (sameTexts_yes _ _ _ _ _ _ (t2.map (fun t => (⟨t.toArray⟩ : ByteArray))) _ HL1.out HL1.out HL2.out (by rw [← strv_map]; exact HD2.out) (by rw [← strv_map]; exact HDX.out)).mono ?_
      rintro e w6 ⟨rfl, hb6⟩
      replace hb := hb.step hb6
      go_wp2_with fail
      go_ret
      exact ⟨rfl, hb⟩
end Go.Proofs.YtmkkoccnnehkeaaDoor
