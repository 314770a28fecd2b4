/- event.Name: what it hands back. -/
import Derived.Test.YtpbbbiifeihkaaaDoorEvL
import Derived.Test.YtpbbbiifeihkaaaDoorShelf
import Derived.Test.YtpbbbiifeihkaaaDoorLawLift
import Derived.Shelf.Strings.SlTrimAscii
import Derived.Deep.QuietTactic
import Derived.BigQuiet
import Derived.Handy
import Derived.WalkSpells
import Derived.WalkLawsBesides
import Derived.Lib.Hide
namespace Go.Proofs.YtpbbbiifeihkaaaDoor
open Go.RowKit

theorem trim_alnum (s : ByteArray) (w : World) (hs : s.size ≤ 1000000) :
    Calls Tryd.prog 28 #[.string s, .string ⟨Ev.alnum.toArray⟩] w (Gives (.string ⟨(Lib.trimS s.data.toList Ev.alnum).toArray⟩) w) := by
  refine (Any.strings_Trim_laid Tryd.lays160 (by kernel_rfl) s ⟨Ev.alnum.toArray⟩ w (by omega) (by decide) (ascii_of_all (by decide))).mono ?_
  rintro e w' ⟨rfl, hb⟩
  exact ⟨rfl, hb⟩
theorem index_letters (c : UInt8) (w : World) :
    Calls Tryd.prog 27 #[.string ⟨Ev.letters.toArray⟩, .int .u8 (c.toNat : Int)] w (Gives (.int .i64 (Lib.indexByte Ev.letters c)) w) := by
  refine (Tryd.strings_IndexByte ⟨Ev.letters.toArray⟩ (c.toNat : Int) w).mono ?_
  rintro e w' ⟨rfl, rfl⟩
  refine ⟨?_, Below.refl _ _⟩
  rw [show ((c.toNat : Int)).toNat.toUInt8 = c by simp]

set_option maxHeartbeats 1000000 in
set_option maxRecDepth 100000 in
theorem name_any (s : ByteArray) (w : World) (hs : s.size ≤ 1000000) :
    Calls Tryd.prog 18 #[.string s] w (Gives (.bool (Ev.nameB s.data.toList)) w) := by
  have hl : s.data.toList.length = s.size := by simp
  by_cases h0 : s.size = 0
  · have hn : s.data.toList = [] := List.eq_nil_of_length_eq_zero (by omega)
    have e1 : s.toList = [] := by rw [Go.ByteArray.toList_eq, hn]
    have e2 : (!s.toList.isEmpty) = false := by rw [e1]; rfl
    have hB : Ev.nameB s.data.toList = false := by rw [hn]; rfl
    have HB := Lib.hid hB
    clear hB hn hl h0
    rw [HB.out]
    go_enter Tryd.func18, Tryd.ntmps18
    go_wp2
    go_ret
    exact ⟨rfl, Below.refl _ _⟩
  · have hne : s.data.toList ≠ [] := fun e => by rw [e] at hl; simp at hl; omega
    have e2 : (!s.toList.isEmpty) = true := by rw [Go.ByteArray.toList_eq]; cases h : s.data.toList with
      | nil => exact absurd h hne
      | cons _ _ => rfl
    have e3 : s.toList ≠ [] := by rw [Go.ByteArray.toList_eq]; exact hne
    by_cases h10 : s.size ≤ 10
    · have hi := index_at (P := Tryd.prog) 9 Tryd.underlying9 s 0 0 rfl (by omega)
      have hhd : s.data.toList.headD 0 = s.data.toList.getD 0 0 := by cases s.data.toList <;> rfl
      obtain ⟨c, hc⟩ : ∃ c, c = s.data.toList.getD 0 0 := ⟨_, rfl⟩
      rw [← hc] at hi hhd
      have HI := Lib.hid (index_letters c)
      have hm := Ev.indexByte_mem Ev.letters c
      obtain ⟨z, hz⟩ : ∃ z, z = Lib.indexByte Ev.letters c := ⟨_, rfl⟩
      rw [← hz] at HI hm
      have HT := Lib.hid (fun w => trim_alnum s w hs)
      obtain ⟨t, ht⟩ : ∃ t : ByteArray, t = ⟨(Lib.trimS s.data.toList Ev.alnum).toArray⟩ := ⟨_, rfl⟩
      rw [← ht] at HT
      have htl : t.data.toList = Lib.trimS s.data.toList Ev.alnum := by rw [ht]
      by_cases hcl : 0 ≤ z
      · have hlet : Ev.letters.contains c = true := by rw [← hm, decide_eq_true hcl]
        by_cases hall : ∀ b ∈ s.data.toList, Ev.alnum.contains b = true
        · have hB : Ev.nameB s.data.toList = true := decide_eq_true ⟨hne, by omega, by rw [hhd]; exact hlet, hall⟩
          have q1 : t.toList = [] := by rw [Go.ByteArray.toList_eq, htl, Ev.trimS_nil]; exact hall
          have q2 : t.toList.isEmpty = true := by rw [q1]; rfl
          have HB := Lib.hid hB
          clear hB hall htl ht hlet hz hm hhd hc hne hl h0
          rw [HB.out]
          go_enter Tryd.func18, Tryd.ntmps18
          go_wp2_with fail
          refine (HI.out _).mono ?_
          rintro e w1 ⟨rfl, hb1⟩
          go_wp2_with fail
          refine (HT.out _).mono ?_
          rintro e w2 ⟨rfl, hb2⟩
          go_wp2_with fail
          go_ret
          exact ⟨rfl, hb1.step hb2⟩
        · have hB : Ev.nameB s.data.toList = false := decide_eq_false (fun h => hall h.2.2.2)
          have q1 : t.toList ≠ [] := by rw [Go.ByteArray.toList_eq, htl]; exact fun h => hall ((Ev.trimS_nil _ _).1 h)
          have q2 : t.toList.isEmpty = false := by
            cases h : t.toList with
            | nil => exact absurd h q1
            | cons _ _ => rfl
          have HB := Lib.hid hB
          clear hB hall htl ht hlet hz hm hhd hc hne hl h0
          rw [HB.out]
          go_enter Tryd.func18, Tryd.ntmps18
          go_wp2_with fail
          refine (HI.out _).mono ?_
          rintro e w1 ⟨rfl, hb1⟩
          go_wp2_with fail
          refine (HT.out _).mono ?_
          rintro e w2 ⟨rfl, hb2⟩
          go_wp2_with fail
          go_ret
          exact ⟨rfl, hb1.step hb2⟩
      · have hlet : Ev.letters.contains c = false := by rw [← hm, decide_eq_false hcl]
        have hB : Ev.nameB s.data.toList = false := decide_eq_false (fun h => by have := h.2.2.1; rw [hhd, hlet] at this; cases this)
        have HB := Lib.hid hB
        clear hB htl ht hlet hz hm hhd hc hne hl h0
        rw [HB.out]
        go_enter Tryd.func18, Tryd.ntmps18
        go_wp2_with fail
        refine (HI.out _).mono ?_
        rintro e w1 ⟨rfl, hb1⟩
        go_wp2_with fail
        go_ret
        exact ⟨rfl, hb1⟩
    · have hB : Ev.nameB s.data.toList = false := decide_eq_false (fun h => by have := h.2.1; omega)
      have HB := Lib.hid hB
      clear hB hne hl h0
      rw [HB.out]
      go_enter Tryd.func18, Tryd.ntmps18
      go_wp2
      go_ret
      exact ⟨rfl, Below.refl _ _⟩
end Go.Proofs.YtpbbbiifeihkaaaDoor
