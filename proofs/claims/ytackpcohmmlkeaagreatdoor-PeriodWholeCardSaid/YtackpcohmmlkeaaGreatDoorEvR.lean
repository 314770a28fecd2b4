/- Joined: EvN, EvRa, EvRc, EvR. -/
import Derived.Test.YtackpcohmmlkeaaGreatDoorEvL
import Derived.Test.YtackpcohmmlkeaaGreatDoorShelf
import Derived.Test.YtackpcohmmlkeaaGreatDoorLawLift
import Derived.Shelf.Strings.SlTrimAscii
import Derived.Deep.QuietTactic
import Derived.BigQuiet
import Derived.Handy
import Derived.WalkSpells
import Derived.WalkLawsBesides
import Derived.Lib.Hide

/- EvN: event.Name: what it hands back. -/
section
namespace Go.Proofs.YtackpcohmmlkeaaGreatDoor
open Go.RowKit

theorem trim_alnum (s : ByteArray) (w : World) (hs : s.size ≤ 1000000) :
    Calls Tryz.prog 112 #[.string s, .string ⟨Ev.alnum.toArray⟩] w (Gives (.string ⟨(Lib.trimS s.data.toList Ev.alnum).toArray⟩) w) := by
  refine (Any.strings_Trim_laid Tryz.lays160 (by kernel_rfl) s ⟨Ev.alnum.toArray⟩ w (by omega) (by decide) (ascii_of_all (by decide))).mono ?_
  rintro e w' ⟨rfl, hb⟩
  exact ⟨rfl, hb⟩
theorem index_letters (c : UInt8) (w : World) :
    Calls Tryz.prog 111 #[.string ⟨Ev.letters.toArray⟩, .int .u8 (c.toNat : Int)] w (Gives (.int .i64 (Lib.indexByte Ev.letters c)) w) := by
  refine (Tryz.strings_IndexByte ⟨Ev.letters.toArray⟩ (c.toNat : Int) w).mono ?_
  rintro e w' ⟨rfl, rfl⟩
  refine ⟨?_, Below.refl _ _⟩
  rw [show ((c.toNat : Int)).toNat.toUInt8 = c by simp]

set_option maxHeartbeats 1000000 in
set_option maxRecDepth 100000 in
theorem name_any (s : ByteArray) (w : World) (hs : s.size ≤ 1000000) :
    Calls Tryz.prog 75 #[.string s] w (Gives (.bool (Ev.nameB s.data.toList)) w) := by
  have hl : s.data.toList.length = s.size := by simp
  by_cases h0 : s.size = 0
  · have hn : s.data.toList = [] := List.eq_nil_of_length_eq_zero (by omega)
    have e1 : s.toList = [] := by rw [Go.ByteArray.toList_eq, hn]
    have e2 : (!s.toList.isEmpty) = false := by rw [e1]; rfl
    have hB : Ev.nameB s.data.toList = false := by rw [hn]; rfl
    have HB := Lib.hid hB
    clear hB hn hl h0
    rw [HB.out]
    go_enter Tryz.func75, Tryz.ntmps75
    go_wp2
    go_ret
    exact ⟨rfl, Below.refl _ _⟩
  · have hne : s.data.toList ≠ [] := fun e => by rw [e] at hl; simp at hl; omega
    have e2 : (!s.toList.isEmpty) = true := by rw [Go.ByteArray.toList_eq]; cases h : s.data.toList with
      | nil => exact absurd h hne
      | cons _ _ => rfl
    have e3 : s.toList ≠ [] := by rw [Go.ByteArray.toList_eq]; exact hne
    by_cases h10 : s.size ≤ 10
    · have hi := index_at (P := Tryz.prog) 9 Tryz.underlying9 s 0 0 rfl (by omega)
      have hhd : s.data.toList.headD 0 = s.data.toList.getD 0 0 := by cases s.data.toList <;> rfl
      obtain ⟨c, hc⟩ : ∃ c, c = s.data.toList.getD 0 0 := ⟨_, rfl⟩
      rw [← hc] at hi hhd
      have HI := Lib.hid (index_letters c)
      have hm := Ev.indexByte_mem Ev.letters c
      obtain ⟨z, hz⟩ : ∃ z, z = Lib.indexByte Ev.letters c := ⟨_, rfl⟩
      rw [← hz] at HI hm
      have HT := Lib.hid (fun w => trim_alnum s w hs)
      obtain ⟨t, ht⟩ : ∃ t : ByteArray, t = ⟨(Lib.trimS s.data.toList Ev.alnum).toArray⟩ := ⟨_, rfl⟩
      rw [← ht] at HT
      have htl : t.data.toList = Lib.trimS s.data.toList Ev.alnum := by rw [ht]
      by_cases hcl : 0 ≤ z
      · have hlet : Ev.letters.contains c = true := by rw [← hm, decide_eq_true hcl]
        by_cases hall : ∀ b ∈ s.data.toList, Ev.alnum.contains b = true
        · have hB : Ev.nameB s.data.toList = true := decide_eq_true ⟨hne, by omega, by rw [hhd]; exact hlet, hall⟩
          have q1 : t.toList = [] := by rw [Go.ByteArray.toList_eq, htl, Ev.trimS_nil]; exact hall
          have q2 : t.toList.isEmpty = true := by rw [q1]; rfl
          have HB := Lib.hid hB
          clear hB hall htl ht hlet hz hm hhd hc hne hl h0
          rw [HB.out]
          go_enter Tryz.func75, Tryz.ntmps75
          go_wp2_with fail
          refine (HI.out _).mono ?_
          rintro e w1 ⟨rfl, hb1⟩
          go_wp2_with fail
          refine (HT.out _).mono ?_
          rintro e w2 ⟨rfl, hb2⟩
          go_wp2_with fail
          go_ret
          exact ⟨rfl, hb1.step hb2⟩
        · have hB : Ev.nameB s.data.toList = false := decide_eq_false (fun h => hall h.2.2.2)
          have q1 : t.toList ≠ [] := by rw [Go.ByteArray.toList_eq, htl]; exact fun h => hall ((Ev.trimS_nil _ _).1 h)
          have q2 : t.toList.isEmpty = false := by
            cases h : t.toList with
            | nil => exact absurd h q1
            | cons _ _ => rfl
          have HB := Lib.hid hB
          clear hB hall htl ht hlet hz hm hhd hc hne hl h0
          rw [HB.out]
          go_enter Tryz.func75, Tryz.ntmps75
          go_wp2_with fail
          refine (HI.out _).mono ?_
          rintro e w1 ⟨rfl, hb1⟩
          go_wp2_with fail
          refine (HT.out _).mono ?_
          rintro e w2 ⟨rfl, hb2⟩
          go_wp2_with fail
          go_ret
          exact ⟨rfl, hb1.step hb2⟩
      · have hlet : Ev.letters.contains c = false := by rw [← hm, decide_eq_false hcl]
        have hB : Ev.nameB s.data.toList = false := decide_eq_false (fun h => by have := h.2.2.1; rw [hhd, hlet] at this; cases this)
        have HB := Lib.hid hB
        clear hB htl ht hlet hz hm hhd hc hne hl h0
        rw [HB.out]
        go_enter Tryz.func75, Tryz.ntmps75
        go_wp2_with fail
        refine (HI.out _).mono ?_
        rintro e w1 ⟨rfl, hb1⟩
        go_wp2_with fail
        go_ret
        exact ⟨rfl, hb1⟩
    · have hB : Ev.nameB s.data.toList = false := decide_eq_false (fun h => by have := h.2.1; omega)
      have HB := Lib.hid hB
      clear hB hne hl h0
      rw [HB.out]
      go_enter Tryz.func75, Tryz.ntmps75
      go_wp2
      go_ret
      exact ⟨rfl, Below.refl _ _⟩
end Go.Proofs.YtackpcohmmlkeaaGreatDoor
end

/- EvRa: event.Right, a part: what came in. -/
section
namespace Go.Proofs.YtackpcohmmlkeaaGreatDoor
open Go.RowKit

set_option maxHeartbeats 4000000 in
set_option maxRecDepth 100000 in
theorem right_1 (i : Int) (s : ByteArray) (q p o d : Int) (w : World) (hs : s.size ≤ 1000000) (hN : Ev.nameB s.data.toList = true) (c_d : ¬ d < 0) (g_d : ¬ 99999 < d) :
    Calls Tryz.prog 40 #[.agg #[.int .i64 i, .string s, .int .i64 1, .int .i64 q, .int .i64 p, .int .i64 o, .int .i64 d]] w (Gives (.bool (Ev.rightB s.data.toList 1 q p o d)) w) := by
  by_cases c_q : q < 1
  · have hB : Ev.rightB s.data.toList (1) (q) (p) (o) (d) = false := decide_eq_false (fun h => by obtain ⟨-, h1, h2, h⟩ := h; omega)
    have HB := Lib.hid hB
    have HN : Hid (∀ w, Calls Tryz.prog 75 #[.string s] w (Gives (.bool true) w)) := Lib.hid (fun w => by rw [← hN]; exact name_any s w hs)
    clear hB hN
    rw [HB.out]
    go_enter Tryz.func40, Tryz.ntmps40
    go_wp2_with fail
    refine (HN.out _).mono ?_
    rintro e w1 ⟨rfl, hb⟩
    have c1 := hb.cell (p := ⟨w.heap.size, 1, none⟩) (by simp)
    have c2 := hb.cell (p := ⟨w.heap.size, 2, none⟩) (by simp)
    have c3 := hb.cell (p := ⟨w.heap.size, 3, none⟩) (by simp)
    have c4 := hb.cell (p := ⟨w.heap.size, 4, none⟩) (by simp)
    have c5 := hb.cell (p := ⟨w.heap.size, 5, none⟩) (by simp)
    have c6 := hb.cell (p := ⟨w.heap.size, 6, none⟩) (by simp)
    simp at c1 c2 c3 c4 c5 c6
    have hb1 : Below w.heap.size w w1 := ((Below.refl _ _).alloc (Nat.le_refl _) _).step hb
    clear hb
    go_wp2
    go_ret
    exact ⟨rfl, hb1⟩
  · by_cases g_q : 100000 < q
    · have hB : Ev.rightB s.data.toList (1) (q) (p) (o) (d) = false := decide_eq_false (fun h => by obtain ⟨-, h1, h2, h⟩ := h; omega)
      have HB := Lib.hid hB
      have HN : Hid (∀ w, Calls Tryz.prog 75 #[.string s] w (Gives (.bool true) w)) := Lib.hid (fun w => by rw [← hN]; exact name_any s w hs)
      clear hB hN
      rw [HB.out]
      go_enter Tryz.func40, Tryz.ntmps40
      go_wp2_with fail
      refine (HN.out _).mono ?_
      rintro e w1 ⟨rfl, hb⟩
      have c1 := hb.cell (p := ⟨w.heap.size, 1, none⟩) (by simp)
      have c2 := hb.cell (p := ⟨w.heap.size, 2, none⟩) (by simp)
      have c3 := hb.cell (p := ⟨w.heap.size, 3, none⟩) (by simp)
      have c4 := hb.cell (p := ⟨w.heap.size, 4, none⟩) (by simp)
      have c5 := hb.cell (p := ⟨w.heap.size, 5, none⟩) (by simp)
      have c6 := hb.cell (p := ⟨w.heap.size, 6, none⟩) (by simp)
      simp at c1 c2 c3 c4 c5 c6
      have hb1 : Below w.heap.size w w1 := ((Below.refl _ _).alloc (Nat.le_refl _) _).step hb
      clear hb
      go_wp2
      go_ret
      exact ⟨rfl, hb1⟩
    · by_cases c_p : p < 0
      · have hB : Ev.rightB s.data.toList (1) (q) (p) (o) (d) = false := decide_eq_false (fun h => by obtain ⟨-, h1, h2, h⟩ := h; omega)
        have HB := Lib.hid hB
        have HN : Hid (∀ w, Calls Tryz.prog 75 #[.string s] w (Gives (.bool true) w)) := Lib.hid (fun w => by rw [← hN]; exact name_any s w hs)
        clear hB hN
        rw [HB.out]
        go_enter Tryz.func40, Tryz.ntmps40
        go_wp2_with fail
        refine (HN.out _).mono ?_
        rintro e w1 ⟨rfl, hb⟩
        have c1 := hb.cell (p := ⟨w.heap.size, 1, none⟩) (by simp)
        have c2 := hb.cell (p := ⟨w.heap.size, 2, none⟩) (by simp)
        have c3 := hb.cell (p := ⟨w.heap.size, 3, none⟩) (by simp)
        have c4 := hb.cell (p := ⟨w.heap.size, 4, none⟩) (by simp)
        have c5 := hb.cell (p := ⟨w.heap.size, 5, none⟩) (by simp)
        have c6 := hb.cell (p := ⟨w.heap.size, 6, none⟩) (by simp)
        simp at c1 c2 c3 c4 c5 c6
        have hb1 : Below w.heap.size w w1 := ((Below.refl _ _).alloc (Nat.le_refl _) _).step hb
        clear hb
        go_wp2
        go_ret
        exact ⟨rfl, hb1⟩
      · by_cases g_p : 1000000 < p
        · have hB : Ev.rightB s.data.toList (1) (q) (p) (o) (d) = false := decide_eq_false (fun h => by obtain ⟨-, h1, h2, h⟩ := h; omega)
          have HB := Lib.hid hB
          have HN : Hid (∀ w, Calls Tryz.prog 75 #[.string s] w (Gives (.bool true) w)) := Lib.hid (fun w => by rw [← hN]; exact name_any s w hs)
          clear hB hN
          rw [HB.out]
          go_enter Tryz.func40, Tryz.ntmps40
          go_wp2_with fail
          refine (HN.out _).mono ?_
          rintro e w1 ⟨rfl, hb⟩
          have c1 := hb.cell (p := ⟨w.heap.size, 1, none⟩) (by simp)
          have c2 := hb.cell (p := ⟨w.heap.size, 2, none⟩) (by simp)
          have c3 := hb.cell (p := ⟨w.heap.size, 3, none⟩) (by simp)
          have c4 := hb.cell (p := ⟨w.heap.size, 4, none⟩) (by simp)
          have c5 := hb.cell (p := ⟨w.heap.size, 5, none⟩) (by simp)
          have c6 := hb.cell (p := ⟨w.heap.size, 6, none⟩) (by simp)
          simp at c1 c2 c3 c4 c5 c6
          have hb1 : Below w.heap.size w w1 := ((Below.refl _ _).alloc (Nat.le_refl _) _).step hb
          clear hb
          go_wp2
          go_ret
          exact ⟨rfl, hb1⟩
        · by_cases c_o : o = 0
          · subst c_o
            have hB : Ev.rightB s.data.toList (1) (q) (p) (0) (d) = true := decide_eq_true ⟨of_decide_eq_true hN, by omega, by omega, by omega⟩
            have HB := Lib.hid hB
            have HN : Hid (∀ w, Calls Tryz.prog 75 #[.string s] w (Gives (.bool true) w)) := Lib.hid (fun w => by rw [← hN]; exact name_any s w hs)
            clear hB hN
            rw [HB.out]
            go_enter Tryz.func40, Tryz.ntmps40
            go_wp2_with fail
            refine (HN.out _).mono ?_
            rintro e w1 ⟨rfl, hb⟩
            have c1 := hb.cell (p := ⟨w.heap.size, 1, none⟩) (by simp)
            have c2 := hb.cell (p := ⟨w.heap.size, 2, none⟩) (by simp)
            have c3 := hb.cell (p := ⟨w.heap.size, 3, none⟩) (by simp)
            have c4 := hb.cell (p := ⟨w.heap.size, 4, none⟩) (by simp)
            have c5 := hb.cell (p := ⟨w.heap.size, 5, none⟩) (by simp)
            have c6 := hb.cell (p := ⟨w.heap.size, 6, none⟩) (by simp)
            simp at c1 c2 c3 c4 c5 c6
            have hb1 : Below w.heap.size w w1 := ((Below.refl _ _).alloc (Nat.le_refl _) _).step hb
            clear hb
            go_wp2
            go_ret
            exact ⟨rfl, hb1⟩
          · have n_o_0 : (o == (0 : Int)) = false := by simpa using c_o
            have hB : Ev.rightB s.data.toList (1) (q) (p) (o) (d) = false := decide_eq_false (fun h => by obtain ⟨-, h1, h2, h⟩ := h; omega)
            have HB := Lib.hid hB
            have HN : Hid (∀ w, Calls Tryz.prog 75 #[.string s] w (Gives (.bool true) w)) := Lib.hid (fun w => by rw [← hN]; exact name_any s w hs)
            clear hB hN
            rw [HB.out]
            go_enter Tryz.func40, Tryz.ntmps40
            go_wp2_with fail
            refine (HN.out _).mono ?_
            rintro e w1 ⟨rfl, hb⟩
            have c1 := hb.cell (p := ⟨w.heap.size, 1, none⟩) (by simp)
            have c2 := hb.cell (p := ⟨w.heap.size, 2, none⟩) (by simp)
            have c3 := hb.cell (p := ⟨w.heap.size, 3, none⟩) (by simp)
            have c4 := hb.cell (p := ⟨w.heap.size, 4, none⟩) (by simp)
            have c5 := hb.cell (p := ⟨w.heap.size, 5, none⟩) (by simp)
            have c6 := hb.cell (p := ⟨w.heap.size, 6, none⟩) (by simp)
            simp at c1 c2 c3 c4 c5 c6
            have hb1 : Below w.heap.size w w1 := ((Below.refl _ _).alloc (Nat.le_refl _) _).step hb
            clear hb
            go_wp2
            go_ret
            exact ⟨rfl, hb1⟩
end Go.Proofs.YtackpcohmmlkeaaGreatDoor
end

/- EvRc: event.Right, a part: what goes out, what is counted. -/
section
namespace Go.Proofs.YtackpcohmmlkeaaGreatDoor
open Go.RowKit

set_option maxHeartbeats 4000000 in
set_option maxRecDepth 100000 in
theorem right_3 (i : Int) (s : ByteArray) (q p o d : Int) (w : World) (hs : s.size ≤ 1000000) (hN : Ev.nameB s.data.toList = true) (c_d : ¬ d < 0) (g_d : ¬ 99999 < d) :
    Calls Tryz.prog 40 #[.agg #[.int .i64 i, .string s, .int .i64 3, .int .i64 q, .int .i64 p, .int .i64 o, .int .i64 d]] w (Gives (.bool (Ev.rightB s.data.toList 3 q p o d)) w) := by
  by_cases c_q : q < 1
  · have hB : Ev.rightB s.data.toList (3) (q) (p) (o) (d) = false := decide_eq_false (fun h => by obtain ⟨-, h1, h2, h⟩ := h; omega)
    have HB := Lib.hid hB
    have HN : Hid (∀ w, Calls Tryz.prog 75 #[.string s] w (Gives (.bool true) w)) := Lib.hid (fun w => by rw [← hN]; exact name_any s w hs)
    clear hB hN
    rw [HB.out]
    go_enter Tryz.func40, Tryz.ntmps40
    go_wp2_with fail
    refine (HN.out _).mono ?_
    rintro e w1 ⟨rfl, hb⟩
    have c1 := hb.cell (p := ⟨w.heap.size, 1, none⟩) (by simp)
    have c2 := hb.cell (p := ⟨w.heap.size, 2, none⟩) (by simp)
    have c3 := hb.cell (p := ⟨w.heap.size, 3, none⟩) (by simp)
    have c4 := hb.cell (p := ⟨w.heap.size, 4, none⟩) (by simp)
    have c5 := hb.cell (p := ⟨w.heap.size, 5, none⟩) (by simp)
    have c6 := hb.cell (p := ⟨w.heap.size, 6, none⟩) (by simp)
    simp at c1 c2 c3 c4 c5 c6
    have hb1 : Below w.heap.size w w1 := ((Below.refl _ _).alloc (Nat.le_refl _) _).step hb
    clear hb
    go_wp2
    go_ret
    exact ⟨rfl, hb1⟩
  · by_cases g_q : 100000 < q
    · have hB : Ev.rightB s.data.toList (3) (q) (p) (o) (d) = false := decide_eq_false (fun h => by obtain ⟨-, h1, h2, h⟩ := h; omega)
      have HB := Lib.hid hB
      have HN : Hid (∀ w, Calls Tryz.prog 75 #[.string s] w (Gives (.bool true) w)) := Lib.hid (fun w => by rw [← hN]; exact name_any s w hs)
      clear hB hN
      rw [HB.out]
      go_enter Tryz.func40, Tryz.ntmps40
      go_wp2_with fail
      refine (HN.out _).mono ?_
      rintro e w1 ⟨rfl, hb⟩
      have c1 := hb.cell (p := ⟨w.heap.size, 1, none⟩) (by simp)
      have c2 := hb.cell (p := ⟨w.heap.size, 2, none⟩) (by simp)
      have c3 := hb.cell (p := ⟨w.heap.size, 3, none⟩) (by simp)
      have c4 := hb.cell (p := ⟨w.heap.size, 4, none⟩) (by simp)
      have c5 := hb.cell (p := ⟨w.heap.size, 5, none⟩) (by simp)
      have c6 := hb.cell (p := ⟨w.heap.size, 6, none⟩) (by simp)
      simp at c1 c2 c3 c4 c5 c6
      have hb1 : Below w.heap.size w w1 := ((Below.refl _ _).alloc (Nat.le_refl _) _).step hb
      clear hb
      go_wp2
      go_ret
      exact ⟨rfl, hb1⟩
    · by_cases c_p : p = 0
      · subst c_p
        by_cases c_o : o = 0
        · subst c_o
          have hB : Ev.rightB s.data.toList (3) (q) (0) (0) (d) = true := decide_eq_true ⟨of_decide_eq_true hN, by omega, by omega, by omega⟩
          have HB := Lib.hid hB
          have HN : Hid (∀ w, Calls Tryz.prog 75 #[.string s] w (Gives (.bool true) w)) := Lib.hid (fun w => by rw [← hN]; exact name_any s w hs)
          clear hB hN
          rw [HB.out]
          go_enter Tryz.func40, Tryz.ntmps40
          go_wp2_with fail
          refine (HN.out _).mono ?_
          rintro e w1 ⟨rfl, hb⟩
          have c1 := hb.cell (p := ⟨w.heap.size, 1, none⟩) (by simp)
          have c2 := hb.cell (p := ⟨w.heap.size, 2, none⟩) (by simp)
          have c3 := hb.cell (p := ⟨w.heap.size, 3, none⟩) (by simp)
          have c4 := hb.cell (p := ⟨w.heap.size, 4, none⟩) (by simp)
          have c5 := hb.cell (p := ⟨w.heap.size, 5, none⟩) (by simp)
          have c6 := hb.cell (p := ⟨w.heap.size, 6, none⟩) (by simp)
          simp at c1 c2 c3 c4 c5 c6
          have hb1 : Below w.heap.size w w1 := ((Below.refl _ _).alloc (Nat.le_refl _) _).step hb
          clear hb
          go_wp2
          go_ret
          exact ⟨rfl, hb1⟩
        · have n_o_0 : (o == (0 : Int)) = false := by simpa using c_o
          have hB : Ev.rightB s.data.toList (3) (q) (0) (o) (d) = false := decide_eq_false (fun h => by obtain ⟨-, h1, h2, h⟩ := h; omega)
          have HB := Lib.hid hB
          have HN : Hid (∀ w, Calls Tryz.prog 75 #[.string s] w (Gives (.bool true) w)) := Lib.hid (fun w => by rw [← hN]; exact name_any s w hs)
          clear hB hN
          rw [HB.out]
          go_enter Tryz.func40, Tryz.ntmps40
          go_wp2_with fail
          refine (HN.out _).mono ?_
          rintro e w1 ⟨rfl, hb⟩
          have c1 := hb.cell (p := ⟨w.heap.size, 1, none⟩) (by simp)
          have c2 := hb.cell (p := ⟨w.heap.size, 2, none⟩) (by simp)
          have c3 := hb.cell (p := ⟨w.heap.size, 3, none⟩) (by simp)
          have c4 := hb.cell (p := ⟨w.heap.size, 4, none⟩) (by simp)
          have c5 := hb.cell (p := ⟨w.heap.size, 5, none⟩) (by simp)
          have c6 := hb.cell (p := ⟨w.heap.size, 6, none⟩) (by simp)
          simp at c1 c2 c3 c4 c5 c6
          have hb1 : Below w.heap.size w w1 := ((Below.refl _ _).alloc (Nat.le_refl _) _).step hb
          clear hb
          go_wp2
          go_ret
          exact ⟨rfl, hb1⟩
      · have n_p_0 : (p == (0 : Int)) = false := by simpa using c_p
        have hB : Ev.rightB s.data.toList (3) (q) (p) (o) (d) = false := decide_eq_false (fun h => by obtain ⟨-, h1, h2, h⟩ := h; omega)
        have HB := Lib.hid hB
        have HN : Hid (∀ w, Calls Tryz.prog 75 #[.string s] w (Gives (.bool true) w)) := Lib.hid (fun w => by rw [← hN]; exact name_any s w hs)
        clear hB hN
        rw [HB.out]
        go_enter Tryz.func40, Tryz.ntmps40
        go_wp2_with fail
        refine (HN.out _).mono ?_
        rintro e w1 ⟨rfl, hb⟩
        have c1 := hb.cell (p := ⟨w.heap.size, 1, none⟩) (by simp)
        have c2 := hb.cell (p := ⟨w.heap.size, 2, none⟩) (by simp)
        have c3 := hb.cell (p := ⟨w.heap.size, 3, none⟩) (by simp)
        have c4 := hb.cell (p := ⟨w.heap.size, 4, none⟩) (by simp)
        have c5 := hb.cell (p := ⟨w.heap.size, 5, none⟩) (by simp)
        have c6 := hb.cell (p := ⟨w.heap.size, 6, none⟩) (by simp)
        simp at c1 c2 c3 c4 c5 c6
        have hb1 : Below w.heap.size w w1 := ((Below.refl _ _).alloc (Nat.le_refl _) _).step hb
        clear hb
        go_wp2
        go_ret
        exact ⟨rfl, hb1⟩
set_option maxHeartbeats 4000000 in
set_option maxRecDepth 100000 in
theorem right_4 (i : Int) (s : ByteArray) (q p o d : Int) (w : World) (hs : s.size ≤ 1000000) (hN : Ev.nameB s.data.toList = true) (c_d : ¬ d < 0) (g_d : ¬ 99999 < d) :
    Calls Tryz.prog 40 #[.agg #[.int .i64 i, .string s, .int .i64 4, .int .i64 q, .int .i64 p, .int .i64 o, .int .i64 d]] w (Gives (.bool (Ev.rightB s.data.toList 4 q p o d)) w) := by
  by_cases c_q : q < 0
  · have hB : Ev.rightB s.data.toList (4) (q) (p) (o) (d) = false := decide_eq_false (fun h => by obtain ⟨-, h1, h2, h⟩ := h; omega)
    have HB := Lib.hid hB
    have HN : Hid (∀ w, Calls Tryz.prog 75 #[.string s] w (Gives (.bool true) w)) := Lib.hid (fun w => by rw [← hN]; exact name_any s w hs)
    clear hB hN
    rw [HB.out]
    go_enter Tryz.func40, Tryz.ntmps40
    go_wp2_with fail
    refine (HN.out _).mono ?_
    rintro e w1 ⟨rfl, hb⟩
    have c1 := hb.cell (p := ⟨w.heap.size, 1, none⟩) (by simp)
    have c2 := hb.cell (p := ⟨w.heap.size, 2, none⟩) (by simp)
    have c3 := hb.cell (p := ⟨w.heap.size, 3, none⟩) (by simp)
    have c4 := hb.cell (p := ⟨w.heap.size, 4, none⟩) (by simp)
    have c5 := hb.cell (p := ⟨w.heap.size, 5, none⟩) (by simp)
    have c6 := hb.cell (p := ⟨w.heap.size, 6, none⟩) (by simp)
    simp at c1 c2 c3 c4 c5 c6
    have hb1 : Below w.heap.size w w1 := ((Below.refl _ _).alloc (Nat.le_refl _) _).step hb
    clear hb
    go_wp2
    go_ret
    exact ⟨rfl, hb1⟩
  · by_cases g_q : 100000 < q
    · have hB : Ev.rightB s.data.toList (4) (q) (p) (o) (d) = false := decide_eq_false (fun h => by obtain ⟨-, h1, h2, h⟩ := h; omega)
      have HB := Lib.hid hB
      have HN : Hid (∀ w, Calls Tryz.prog 75 #[.string s] w (Gives (.bool true) w)) := Lib.hid (fun w => by rw [← hN]; exact name_any s w hs)
      clear hB hN
      rw [HB.out]
      go_enter Tryz.func40, Tryz.ntmps40
      go_wp2_with fail
      refine (HN.out _).mono ?_
      rintro e w1 ⟨rfl, hb⟩
      have c1 := hb.cell (p := ⟨w.heap.size, 1, none⟩) (by simp)
      have c2 := hb.cell (p := ⟨w.heap.size, 2, none⟩) (by simp)
      have c3 := hb.cell (p := ⟨w.heap.size, 3, none⟩) (by simp)
      have c4 := hb.cell (p := ⟨w.heap.size, 4, none⟩) (by simp)
      have c5 := hb.cell (p := ⟨w.heap.size, 5, none⟩) (by simp)
      have c6 := hb.cell (p := ⟨w.heap.size, 6, none⟩) (by simp)
      simp at c1 c2 c3 c4 c5 c6
      have hb1 : Below w.heap.size w w1 := ((Below.refl _ _).alloc (Nat.le_refl _) _).step hb
      clear hb
      go_wp2
      go_ret
      exact ⟨rfl, hb1⟩
    · by_cases c_p : p = 0
      · subst c_p
        by_cases c_o : o = 0
        · subst c_o
          have hB : Ev.rightB s.data.toList (4) (q) (0) (0) (d) = true := decide_eq_true ⟨of_decide_eq_true hN, by omega, by omega, by omega⟩
          have HB := Lib.hid hB
          have HN : Hid (∀ w, Calls Tryz.prog 75 #[.string s] w (Gives (.bool true) w)) := Lib.hid (fun w => by rw [← hN]; exact name_any s w hs)
          clear hB hN
          rw [HB.out]
          go_enter Tryz.func40, Tryz.ntmps40
          go_wp2_with fail
          refine (HN.out _).mono ?_
          rintro e w1 ⟨rfl, hb⟩
          have c1 := hb.cell (p := ⟨w.heap.size, 1, none⟩) (by simp)
          have c2 := hb.cell (p := ⟨w.heap.size, 2, none⟩) (by simp)
          have c3 := hb.cell (p := ⟨w.heap.size, 3, none⟩) (by simp)
          have c4 := hb.cell (p := ⟨w.heap.size, 4, none⟩) (by simp)
          have c5 := hb.cell (p := ⟨w.heap.size, 5, none⟩) (by simp)
          have c6 := hb.cell (p := ⟨w.heap.size, 6, none⟩) (by simp)
          simp at c1 c2 c3 c4 c5 c6
          have hb1 : Below w.heap.size w w1 := ((Below.refl _ _).alloc (Nat.le_refl _) _).step hb
          clear hb
          go_wp2
          go_ret
          exact ⟨rfl, hb1⟩
        · have n_o_0 : (o == (0 : Int)) = false := by simpa using c_o
          have hB : Ev.rightB s.data.toList (4) (q) (0) (o) (d) = false := decide_eq_false (fun h => by obtain ⟨-, h1, h2, h⟩ := h; omega)
          have HB := Lib.hid hB
          have HN : Hid (∀ w, Calls Tryz.prog 75 #[.string s] w (Gives (.bool true) w)) := Lib.hid (fun w => by rw [← hN]; exact name_any s w hs)
          clear hB hN
          rw [HB.out]
          go_enter Tryz.func40, Tryz.ntmps40
          go_wp2_with fail
          refine (HN.out _).mono ?_
          rintro e w1 ⟨rfl, hb⟩
          have c1 := hb.cell (p := ⟨w.heap.size, 1, none⟩) (by simp)
          have c2 := hb.cell (p := ⟨w.heap.size, 2, none⟩) (by simp)
          have c3 := hb.cell (p := ⟨w.heap.size, 3, none⟩) (by simp)
          have c4 := hb.cell (p := ⟨w.heap.size, 4, none⟩) (by simp)
          have c5 := hb.cell (p := ⟨w.heap.size, 5, none⟩) (by simp)
          have c6 := hb.cell (p := ⟨w.heap.size, 6, none⟩) (by simp)
          simp at c1 c2 c3 c4 c5 c6
          have hb1 : Below w.heap.size w w1 := ((Below.refl _ _).alloc (Nat.le_refl _) _).step hb
          clear hb
          go_wp2
          go_ret
          exact ⟨rfl, hb1⟩
      · have n_p_0 : (p == (0 : Int)) = false := by simpa using c_p
        have hB : Ev.rightB s.data.toList (4) (q) (p) (o) (d) = false := decide_eq_false (fun h => by obtain ⟨-, h1, h2, h⟩ := h; omega)
        have HB := Lib.hid hB
        have HN : Hid (∀ w, Calls Tryz.prog 75 #[.string s] w (Gives (.bool true) w)) := Lib.hid (fun w => by rw [← hN]; exact name_any s w hs)
        clear hB hN
        rw [HB.out]
        go_enter Tryz.func40, Tryz.ntmps40
        go_wp2_with fail
        refine (HN.out _).mono ?_
        rintro e w1 ⟨rfl, hb⟩
        have c1 := hb.cell (p := ⟨w.heap.size, 1, none⟩) (by simp)
        have c2 := hb.cell (p := ⟨w.heap.size, 2, none⟩) (by simp)
        have c3 := hb.cell (p := ⟨w.heap.size, 3, none⟩) (by simp)
        have c4 := hb.cell (p := ⟨w.heap.size, 4, none⟩) (by simp)
        have c5 := hb.cell (p := ⟨w.heap.size, 5, none⟩) (by simp)
        have c6 := hb.cell (p := ⟨w.heap.size, 6, none⟩) (by simp)
        simp at c1 c2 c3 c4 c5 c6
        have hb1 : Below w.heap.size w w1 := ((Below.refl _ _).alloc (Nat.le_refl _) _).step hb
        clear hb
        go_wp2
        go_ret
        exact ⟨rfl, hb1⟩
end Go.Proofs.YtackpcohmmlkeaaGreatDoor
end

/- EvR: Joined: EvRb, EvR. -/
section
/- EvRb: event.Right, a part: what is charged. -/
section
namespace Go.Proofs.YtackpcohmmlkeaaGreatDoor
open Go.RowKit

set_option maxHeartbeats 4000000 in
set_option maxRecDepth 100000 in
theorem right_2 (i : Int) (s : ByteArray) (q p o d : Int) (w : World) (hs : s.size ≤ 1000000) (hN : Ev.nameB s.data.toList = true) (c_d : ¬ d < 0) (g_d : ¬ 99999 < d) :
    Calls Tryz.prog 40 #[.agg #[.int .i64 i, .string s, .int .i64 2, .int .i64 q, .int .i64 p, .int .i64 o, .int .i64 d]] w (Gives (.bool (Ev.rightB s.data.toList 2 q p o d)) w) := by
  by_cases c_q : q = 0
  · subst c_q
    by_cases c_p : p < 1
    · have hB : Ev.rightB s.data.toList (2) (0) (p) (o) (d) = false := decide_eq_false (fun h => by obtain ⟨-, h1, h2, h⟩ := h; omega)
      have HB := Lib.hid hB
      have HN : Hid (∀ w, Calls Tryz.prog 75 #[.string s] w (Gives (.bool true) w)) := Lib.hid (fun w => by rw [← hN]; exact name_any s w hs)
      clear hB hN
      rw [HB.out]
      go_enter Tryz.func40, Tryz.ntmps40
      go_wp2_with fail
      refine (HN.out _).mono ?_
      rintro e w1 ⟨rfl, hb⟩
      have c1 := hb.cell (p := ⟨w.heap.size, 1, none⟩) (by simp)
      have c2 := hb.cell (p := ⟨w.heap.size, 2, none⟩) (by simp)
      have c3 := hb.cell (p := ⟨w.heap.size, 3, none⟩) (by simp)
      have c4 := hb.cell (p := ⟨w.heap.size, 4, none⟩) (by simp)
      have c5 := hb.cell (p := ⟨w.heap.size, 5, none⟩) (by simp)
      have c6 := hb.cell (p := ⟨w.heap.size, 6, none⟩) (by simp)
      simp at c1 c2 c3 c4 c5 c6
      have hb1 : Below w.heap.size w w1 := ((Below.refl _ _).alloc (Nat.le_refl _) _).step hb
      clear hb
      go_wp2
      go_ret
      exact ⟨rfl, hb1⟩
    · by_cases g_p : 100000000000 < p
      · have hB : Ev.rightB s.data.toList (2) (0) (p) (o) (d) = false := decide_eq_false (fun h => by obtain ⟨-, h1, h2, h⟩ := h; omega)
        have HB := Lib.hid hB
        have HN : Hid (∀ w, Calls Tryz.prog 75 #[.string s] w (Gives (.bool true) w)) := Lib.hid (fun w => by rw [← hN]; exact name_any s w hs)
        clear hB hN
        rw [HB.out]
        go_enter Tryz.func40, Tryz.ntmps40
        go_wp2_with fail
        refine (HN.out _).mono ?_
        rintro e w1 ⟨rfl, hb⟩
        have c1 := hb.cell (p := ⟨w.heap.size, 1, none⟩) (by simp)
        have c2 := hb.cell (p := ⟨w.heap.size, 2, none⟩) (by simp)
        have c3 := hb.cell (p := ⟨w.heap.size, 3, none⟩) (by simp)
        have c4 := hb.cell (p := ⟨w.heap.size, 4, none⟩) (by simp)
        have c5 := hb.cell (p := ⟨w.heap.size, 5, none⟩) (by simp)
        have c6 := hb.cell (p := ⟨w.heap.size, 6, none⟩) (by simp)
        simp at c1 c2 c3 c4 c5 c6
        have hb1 : Below w.heap.size w w1 := ((Below.refl _ _).alloc (Nat.le_refl _) _).step hb
        clear hb
        go_wp2
        go_ret
        exact ⟨rfl, hb1⟩
      · by_cases c_o : o < 1
        · have d_o : decide ((1 : Int) ≤ o) = false := by simp; omega
          have hB : Ev.rightB s.data.toList (2) (0) (p) (o) (d) = false := decide_eq_false (fun h => by obtain ⟨-, h1, h2, h⟩ := h; omega)
          have HB := Lib.hid hB
          have HN : Hid (∀ w, Calls Tryz.prog 75 #[.string s] w (Gives (.bool true) w)) := Lib.hid (fun w => by rw [← hN]; exact name_any s w hs)
          clear hB hN
          rw [HB.out]
          go_enter Tryz.func40, Tryz.ntmps40
          go_wp2_with fail
          refine (HN.out _).mono ?_
          rintro e w1 ⟨rfl, hb⟩
          have c1 := hb.cell (p := ⟨w.heap.size, 1, none⟩) (by simp)
          have c2 := hb.cell (p := ⟨w.heap.size, 2, none⟩) (by simp)
          have c3 := hb.cell (p := ⟨w.heap.size, 3, none⟩) (by simp)
          have c4 := hb.cell (p := ⟨w.heap.size, 4, none⟩) (by simp)
          have c5 := hb.cell (p := ⟨w.heap.size, 5, none⟩) (by simp)
          have c6 := hb.cell (p := ⟨w.heap.size, 6, none⟩) (by simp)
          simp at c1 c2 c3 c4 c5 c6
          have hb1 : Below w.heap.size w w1 := ((Below.refl _ _).alloc (Nat.le_refl _) _).step hb
          clear hb
          go_wp2
          go_ret
          exact ⟨rfl, hb1⟩
        · have hB : Ev.rightB s.data.toList (2) (0) (p) (o) (d) = true := decide_eq_true ⟨of_decide_eq_true hN, by omega, by omega, by omega⟩
          have HB := Lib.hid hB
          have HN : Hid (∀ w, Calls Tryz.prog 75 #[.string s] w (Gives (.bool true) w)) := Lib.hid (fun w => by rw [← hN]; exact name_any s w hs)
          clear hB hN
          rw [HB.out]
          go_enter Tryz.func40, Tryz.ntmps40
          go_wp2_with fail
          refine (HN.out _).mono ?_
          rintro e w1 ⟨rfl, hb⟩
          have c1 := hb.cell (p := ⟨w.heap.size, 1, none⟩) (by simp)
          have c2 := hb.cell (p := ⟨w.heap.size, 2, none⟩) (by simp)
          have c3 := hb.cell (p := ⟨w.heap.size, 3, none⟩) (by simp)
          have c4 := hb.cell (p := ⟨w.heap.size, 4, none⟩) (by simp)
          have c5 := hb.cell (p := ⟨w.heap.size, 5, none⟩) (by simp)
          have c6 := hb.cell (p := ⟨w.heap.size, 6, none⟩) (by simp)
          simp at c1 c2 c3 c4 c5 c6
          have hb1 : Below w.heap.size w w1 := ((Below.refl _ _).alloc (Nat.le_refl _) _).step hb
          clear hb
          go_wp2
          go_ret
          exact ⟨rfl, hb1⟩
  · have n_q_0 : (q == (0 : Int)) = false := by simpa using c_q
    have hB : Ev.rightB s.data.toList (2) (q) (p) (o) (d) = false := decide_eq_false (fun h => by obtain ⟨-, h1, h2, h⟩ := h; omega)
    have HB := Lib.hid hB
    have HN : Hid (∀ w, Calls Tryz.prog 75 #[.string s] w (Gives (.bool true) w)) := Lib.hid (fun w => by rw [← hN]; exact name_any s w hs)
    clear hB hN
    rw [HB.out]
    go_enter Tryz.func40, Tryz.ntmps40
    go_wp2_with fail
    refine (HN.out _).mono ?_
    rintro e w1 ⟨rfl, hb⟩
    have c1 := hb.cell (p := ⟨w.heap.size, 1, none⟩) (by simp)
    have c2 := hb.cell (p := ⟨w.heap.size, 2, none⟩) (by simp)
    have c3 := hb.cell (p := ⟨w.heap.size, 3, none⟩) (by simp)
    have c4 := hb.cell (p := ⟨w.heap.size, 4, none⟩) (by simp)
    have c5 := hb.cell (p := ⟨w.heap.size, 5, none⟩) (by simp)
    have c6 := hb.cell (p := ⟨w.heap.size, 6, none⟩) (by simp)
    simp at c1 c2 c3 c4 c5 c6
    have hb1 : Below w.heap.size w w1 := ((Below.refl _ _).alloc (Nat.le_refl _) _).step hb
    clear hb
    go_wp2
    go_ret
    exact ⟨rfl, hb1⟩
end Go.Proofs.YtackpcohmmlkeaaGreatDoor
end

/- EvR: event.Right, a part: joined. -/
section
namespace Go.Proofs.YtackpcohmmlkeaaGreatDoor
open Go.RowKit

set_option maxHeartbeats 4000000 in
set_option maxRecDepth 100000 in
theorem right_0 (i : Int) (s : ByteArray) (k q p o d : Int) (w : World) (hs : s.size ≤ 1000000) (hN : Ev.nameB s.data.toList = true) (c_d : ¬ d < 0) (g_d : ¬ 99999 < d) (c_k1 : ¬ k = 1) (c_k2 : ¬ k = 2) (c_k3 : ¬ k = 3) (c_k4 : ¬ k = 4) :
    Calls Tryz.prog 40 #[.agg #[.int .i64 i, .string s, .int .i64 k, .int .i64 q, .int .i64 p, .int .i64 o, .int .i64 d]] w (Gives (.bool (Ev.rightB s.data.toList k q p o d)) w) := by
  have n_k_1 : (k == (1 : Int)) = false := by simpa using c_k1
  have n_k_2 : (k == (2 : Int)) = false := by simpa using c_k2
  have n_k_3 : (k == (3 : Int)) = false := by simpa using c_k3
  have n_k_4 : (k == (4 : Int)) = false := by simpa using c_k4
  have hB : Ev.rightB s.data.toList (k) (q) (p) (o) (d) = false := decide_eq_false (fun h => by obtain ⟨-, h1, h2, h⟩ := h; omega)
  have HB := Lib.hid hB
  have HN : Hid (∀ w, Calls Tryz.prog 75 #[.string s] w (Gives (.bool true) w)) := Lib.hid (fun w => by rw [← hN]; exact name_any s w hs)
  clear hB hN
  rw [HB.out]
  go_enter Tryz.func40, Tryz.ntmps40
  go_wp2_with fail
  refine (HN.out _).mono ?_
  rintro e w1 ⟨rfl, hb⟩
  have c1 := hb.cell (p := ⟨w.heap.size, 1, none⟩) (by simp)
  have c2 := hb.cell (p := ⟨w.heap.size, 2, none⟩) (by simp)
  have c3 := hb.cell (p := ⟨w.heap.size, 3, none⟩) (by simp)
  have c4 := hb.cell (p := ⟨w.heap.size, 4, none⟩) (by simp)
  have c5 := hb.cell (p := ⟨w.heap.size, 5, none⟩) (by simp)
  have c6 := hb.cell (p := ⟨w.heap.size, 6, none⟩) (by simp)
  simp at c1 c2 c3 c4 c5 c6
  have hb1 : Below w.heap.size w w1 := ((Below.refl _ _).alloc (Nat.le_refl _) _).step hb
  clear hb
  go_wp2
  go_ret
  exact ⟨rfl, hb1⟩
set_option maxHeartbeats 4000000 in
set_option maxRecDepth 100000 in
theorem right_any (i : Int) (s : ByteArray) (k q p o d : Int) (w : World) (hs : s.size ≤ 1000000) :
    Calls Tryz.prog 40 #[.agg #[.int .i64 i, .string s, .int .i64 k, .int .i64 q, .int .i64 p, .int .i64 o, .int .i64 d]] w (Gives (.bool (Ev.rightB s.data.toList k q p o d)) w) := by
  by_cases hN0 : Ev.nameB s.data.toList = true
  · have hN : Ev.nameB s.data.toList = true := hN0
    clear hN0
    by_cases c_d : d < 0
    · have hB : Ev.rightB s.data.toList (k) (q) (p) (o) (d) = false := decide_eq_false (fun h => by obtain ⟨-, h1, h2, h⟩ := h; omega)
      have HB := Lib.hid hB
      have HN : Hid (∀ w, Calls Tryz.prog 75 #[.string s] w (Gives (.bool true) w)) := Lib.hid (fun w => by rw [← hN]; exact name_any s w hs)
      clear hB hN
      rw [HB.out]
      go_enter Tryz.func40, Tryz.ntmps40
      go_wp2_with fail
      refine (HN.out _).mono ?_
      rintro e w1 ⟨rfl, hb⟩
      have c1 := hb.cell (p := ⟨w.heap.size, 1, none⟩) (by simp)
      have c2 := hb.cell (p := ⟨w.heap.size, 2, none⟩) (by simp)
      have c3 := hb.cell (p := ⟨w.heap.size, 3, none⟩) (by simp)
      have c4 := hb.cell (p := ⟨w.heap.size, 4, none⟩) (by simp)
      have c5 := hb.cell (p := ⟨w.heap.size, 5, none⟩) (by simp)
      have c6 := hb.cell (p := ⟨w.heap.size, 6, none⟩) (by simp)
      simp at c1 c2 c3 c4 c5 c6
      have hb1 : Below w.heap.size w w1 := ((Below.refl _ _).alloc (Nat.le_refl _) _).step hb
      clear hb
      go_wp2
      go_ret
      exact ⟨rfl, hb1⟩
    · by_cases g_d : 99999 < d
      · have hB : Ev.rightB s.data.toList (k) (q) (p) (o) (d) = false := decide_eq_false (fun h => by obtain ⟨-, h1, h2, h⟩ := h; omega)
        have HB := Lib.hid hB
        have HN : Hid (∀ w, Calls Tryz.prog 75 #[.string s] w (Gives (.bool true) w)) := Lib.hid (fun w => by rw [← hN]; exact name_any s w hs)
        clear hB hN
        rw [HB.out]
        go_enter Tryz.func40, Tryz.ntmps40
        go_wp2_with fail
        refine (HN.out _).mono ?_
        rintro e w1 ⟨rfl, hb⟩
        have c1 := hb.cell (p := ⟨w.heap.size, 1, none⟩) (by simp)
        have c2 := hb.cell (p := ⟨w.heap.size, 2, none⟩) (by simp)
        have c3 := hb.cell (p := ⟨w.heap.size, 3, none⟩) (by simp)
        have c4 := hb.cell (p := ⟨w.heap.size, 4, none⟩) (by simp)
        have c5 := hb.cell (p := ⟨w.heap.size, 5, none⟩) (by simp)
        have c6 := hb.cell (p := ⟨w.heap.size, 6, none⟩) (by simp)
        simp at c1 c2 c3 c4 c5 c6
        have hb1 : Below w.heap.size w w1 := ((Below.refl _ _).alloc (Nat.le_refl _) _).step hb
        clear hb
        go_wp2
        go_ret
        exact ⟨rfl, hb1⟩
      · by_cases c_k1 : k = 1
        · subst c_k1
          exact right_1 i s q p o d w hs hN c_d g_d
        by_cases c_k2 : k = 2
        · subst c_k2
          exact right_2 i s q p o d w hs hN c_d g_d
        by_cases c_k3 : k = 3
        · subst c_k3
          exact right_3 i s q p o d w hs hN c_d g_d
        by_cases c_k4 : k = 4
        · subst c_k4
          exact right_4 i s q p o d w hs hN c_d g_d
        exact right_0 i s k q p o d w hs hN c_d g_d c_k1 c_k2 c_k3 c_k4
  · have hN : Ev.nameB s.data.toList = false := by simpa using hN0
    clear hN0
    have hB : Ev.rightB s.data.toList (k) (q) (p) (o) (d) = false := decide_eq_false (fun h => absurd h.1 (of_decide_eq_false hN))
    have HB := Lib.hid hB
    have HN : Hid (∀ w, Calls Tryz.prog 75 #[.string s] w (Gives (.bool false) w)) := Lib.hid (fun w => by rw [← hN]; exact name_any s w hs)
    clear hB hN
    rw [HB.out]
    go_enter Tryz.func40, Tryz.ntmps40
    go_wp2_with fail
    refine (HN.out _).mono ?_
    rintro e w1 ⟨rfl, hb⟩
    have c1 := hb.cell (p := ⟨w.heap.size, 1, none⟩) (by simp)
    have c2 := hb.cell (p := ⟨w.heap.size, 2, none⟩) (by simp)
    have c3 := hb.cell (p := ⟨w.heap.size, 3, none⟩) (by simp)
    have c4 := hb.cell (p := ⟨w.heap.size, 4, none⟩) (by simp)
    have c5 := hb.cell (p := ⟨w.heap.size, 5, none⟩) (by simp)
    have c6 := hb.cell (p := ⟨w.heap.size, 6, none⟩) (by simp)
    simp at c1 c2 c3 c4 c5 c6
    have hb1 : Below w.heap.size w w1 := ((Below.refl _ _).alloc (Nat.le_refl _) _).step hb
    clear hb
    go_wp2
    go_ret
    exact ⟨rfl, hb1⟩
end Go.Proofs.YtackpcohmmlkeaaGreatDoor
end
end
