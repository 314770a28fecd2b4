/- booked(): a small story of a book. -/
import Derived.Test.YtpbbbiifeihkaaaDoorBkL
import Derived.Test.YtpbbbiifeihkaaaDoorTl
namespace Go.Proofs.YtpbbbiifeihkaaaDoor
open Go.RowKit
set_option linter.unusedVariables false

abbrev bookOb : Obj := .cells #[.slice none 0 0, .int .i64 0, .int .i64 0] 27
theorem bkW_new (w : World) : BkW (w.alloc bookOb) w.heap.size bk0 := by
  have hn := World.alloc_heap_new w bookOb
  have hc : ∀ j u, #[Value.slice none 0 0, .int .i64 0, .int .i64 0][j]? = some u → (w.alloc bookOb).cell? ⟨w.heap.size, j, none⟩ = some u := fun j u hu => by simp only [World.cell?, hn]; exact hu
  exact ⟨hc 1 _ rfl, hc 2 _ rfl, fun j => World.frozen?_alloc_new w _ _ _, ⟨_, hc 0 _ rfl, World.ownsRow_nil _ _ _ _⟩, ⟨_, _, _, hn, by decide⟩⟩
abbrev sA : ByteArray := ⟨#[97]⟩
abbrev eA (q : Int) : Evt := ⟨0, sA, 1, q, 0, 0, 5⟩
abbrev b1 : Bk := (bk0.post (eA 2)).1
abbrev b2 : Bk := (b1.correct 1 (eA 3)).1
abbrev b3 : Bk := (b2.void 1).1
theorem st_post : (bk0.post (eA 2)).2 = (1, none) := by decide
theorem st_turn : b1.turn = 1 := by decide
theorem st_corr : (b1.correct 1 (eA 3)).2 = none := by decide
theorem st_as0 : (b2.as 1).length = 1 := by decide
theorem st_as1 : (b2.as 1).map Evt.qty = [2] := by decide
theorem st_as2 : (b2.as 2).map Evt.qty = [3] := by decide
theorem st_void : (b2.void 1).2 = none := by decide
theorem st_as3 : (b3.as (-1)).length = 0 := by decide
theorem st_as4 : (b3.as 2).length = 1 := by decide
theorem st_void2 : (b3.void 1).2 = some 7 := by decide
theorem i1 : BkI b1 := bkI0.post _
theorem i2 : BkI b2 := i1.correct _ _
theorem i3 : BkI b3 := i2.void _
theorem Ch.toBelow {B : Nat} {w w' : World} (h : Ch B w w') : Below B w w' := ⟨h.os, h.tape, h.output, h.size, h.low⟩
theorem as_one (B : Nat) (b : Bk) (t : Int) (q : Int) (w : World) (h : BkW w B b) (hI : BkI b) (hq : (b.as t).map Evt.qty = [q]) :
    Calls Tryd.prog 8 #[.pointer (some ⟨B, 0, none⟩), .int .i64 t] w fun x w' => ∃ g c, x = .returned (.slice (some ⟨g, 0, none⟩) 1 c) ∧ w'.cell? ⟨g, 3, none⟩ = some (.int .i64 q) ∧ Below w.heap.size w w' := by
  obtain ⟨e, he, rfl⟩ : ∃ e, b.as t = [e] ∧ e.qty = q := by
    cases h1 : b.as t with
    | nil => rw [h1] at hq; simp at hq
    | cons e r =>
      cases r with
      | nil => rw [h1] at hq; simp at hq; exact ⟨e, rfl, hq⟩
      | cons e2 r => rw [h1] at hq; simp at hq
  refine (as_any B b t w h hI).mono ?_
  rintro x w' ⟨v, rfl, ho, hb⟩
  rw [he] at ho
  rcases ho.2 with ⟨-, h0⟩ | ⟨g, cap, cur, rfl, hB, hc, hn, hm, hs, ht⟩
  · simp at h0
  · refine ⟨g, cap, rfl, ?_, hb⟩
    have h3 : (cur.toList.take ([e].length * 7))[3]? = some (.int .i64 e.qty) := by rw [ht]; rfl
    rw [List.getElem?_take_of_lt (by simp), Array.getElem?_toList] at h3
    simp only [World.cell?, hc]
    exact h3
theorem as_len (B : Nat) (b : Bk) (t : Int) (n : Nat) (w : World) (h : BkW w B b) (hI : BkI b) (he : (b.as t).length = n) :
    Calls Tryd.prog 8 #[.pointer (some ⟨B, 0, none⟩), .int .i64 t] w fun x w' => ∃ a c, x = .returned (.slice a n c) ∧ Below w.heap.size w w' := by
  refine (as_any B b t w h hI).mono ?_
  rintro x w' ⟨v, rfl, ho, hb⟩
  rw [he] at ho
  obtain ⟨a, c, rfl⟩ := own_slice ho
  exact ⟨a, c, rfl, hb⟩
set_option maxHeartbeats 4000000 in
set_option maxRecDepth 100000 in
theorem booked_any (w : World) (hw : EW w) : Calls Tryd.prog 6 #[] w (Gives (.bool true) w) := by
  obtain ⟨W1, hW1⟩ : ∃ W1, W1 = (w.alloc bookOb).alloc (.cells #[.int .i64 0, .string sA, .int .i64 1, .int .i64 2, .int .i64 0, .int .i64 0, .int .i64 5] 34) := ⟨_, rfl⟩
  have hb1 : Below w.heap.size w W1 := by rw [hW1]; exact ((Below.refl _ w).new _).new _
  have hk1 : BkW W1 w.heap.size bk0 := by rw [hW1]; exact (bkW_new w).below ((Below.refl _ _).new _)
  have hE1 : W1.heap[w.heap.size + 1]? = some (.cells #[.int .i64 0, .string sA, .int .i64 1, .int .i64 2, .int .i64 0, .int .i64 0, .int .i64 5] 34) := by
    rw [hW1]
    have := World.alloc_heap_new (w.alloc bookOb) (.cells #[.int .i64 0, .string sA, .int .i64 1, .int .i64 2, .int .i64 0, .int .i64 0, .int .i64 5] 34)
    rwa [World.size_alloc] at this
  have HP : Hid (Calls Tryd.prog 14 #[.pointer (some ⟨w.heap.size, 0, none⟩), .agg #[.int .i64 0, .string sA, .int .i64 1, .int .i64 2, .int .i64 0, .int .i64 0, .int .i64 5]] W1 fun x w' => x = .returned (.tuple #[.int .i64 1, .nilIface]) ∧ BkW w' w.heap.size b1 ∧ Ch w.heap.size W1 w') := by
    have h := post_any w.heap.size bk0 (eA 2) W1 hk1 bkI0 (by decide) (by decide) (by decide)
    rw [st_post] at h
    exact Lib.hid h
  have HW := Lib.hid hW1
  have HB1 := Lib.hid hb1
  have HE1 := Lib.hid hE1
  have E := cell_lt (show W1.cell? ⟨w.heap.size + 1, 0, none⟩ = some (.int .i64 0) by simp only [World.cell?, hE1]; rfl)
  have hBl := hk1.lt
  clear hW1 hb1 hk1 hE1
  go_enter Tryd.func6, Tryd.ntmps6
  go_wp2_with fail
  rw [← HW.out]
  refine HP.out.mono ?_
  rintro x w2 ⟨rfl, hk2, hc2⟩
  have hE2 := hc2.block (w.heap.size + 1) _ HE1.out (by omega) (fun cur fz e => by injection e with _ e; exact absurd e (by decide))
  have hb2 := HB1.out.trans (hc2.toBelow)
  have hl2 := hk2.lt
  have HT : Hid (Calls Tryd.prog 9 #[.pointer (some ⟨w.heap.size, 0, none⟩)] w2 fun e w' => e = .returned (.int .i64 1) ∧ w' = w2) := by
    have h := turn_any w.heap.size b1 w2 hk2
    rw [st_turn] at h
    exact Lib.hid h
  have HK2 := Lib.hid hk2
  have HE2 := Lib.hid hE2
  have HB2 := Lib.hid hb2
  have c0 : w2.cell? ⟨w.heap.size + 1, 0, none⟩ = some (.int .i64 0) := by simp only [World.cell?, hE2]; rfl
  have c1 : w2.cell? ⟨w.heap.size + 1, 1, none⟩ = some (.string ⟨#[97]⟩) := by simp only [World.cell?, hE2]; rfl
  have c2 : w2.cell? ⟨w.heap.size + 1, 2, none⟩ = some (.int .i64 1) := by simp only [World.cell?, hE2]; rfl
  have c3 : w2.cell? ⟨w.heap.size + 1, 3, none⟩ = some (.int .i64 2) := by simp only [World.cell?, hE2]; rfl
  have c4 : w2.cell? ⟨w.heap.size + 1, 4, none⟩ = some (.int .i64 0) := by simp only [World.cell?, hE2]; rfl
  have c5 : w2.cell? ⟨w.heap.size + 1, 5, none⟩ = some (.int .i64 0) := by simp only [World.cell?, hE2]; rfl
  have c6 : w2.cell? ⟨w.heap.size + 1, 6, none⟩ = some (.int .i64 5) := by simp only [World.cell?, hE2]; rfl
  have f3 : w2.frozen? ⟨w.heap.size + 1, 3, none⟩ = false := by simp [World.frozen?, hE2]
  clear hk2 hc2 hE2 hb2
  go_wp2_with fail
  refine HT.out.mono ?_
  rintro x w2' ⟨rfl, rfl⟩
  go_wp2_with fail
  have BO := HK2.out.setOther (X := w.heap.size + 1) (j := 3) (.int .i64 3) (by omega) ⟨_, _, _, HE2.out, by decide⟩
  have HB3 := Lib.hid (HB2.out.setCell (p := ⟨w.heap.size + 1, 3, none⟩) (by show w.heap.size ≤ w.heap.size + 1; omega) (.int .i64 3))
  have h := correct_any w.heap.size b1 1 (eA 3) _ BO i1 (by decide) (by decide)
  rw [st_corr] at h
  refine h.mono ?_
  rintro x w3 ⟨rfl, hk3, hc3⟩
  have HB4 := Lib.hid (HB3.out.trans hc3.toBelow)
  have HK3 := Lib.hid hk3
  clear h c0 c1 c2 c3 c4 c5 c6 f3 BO hc3 hk3
  simp only [errB]
  go_wp2_with fail
  refine (as_len _ b2 1 1 _ HK3.out i2 st_as0).mono ?_
  rintro x w4 ⟨a4, c4, rfl, hb4⟩
  have HK4 := Lib.hid (HK3.out.below hb4)
  have HB5 := Lib.hid (HB4.out.step hb4)
  clear hb4
  go_wp2_with fail
  refine (as_one _ b2 1 2 _ HK4.out i2 st_as1).mono ?_
  rintro x w5 ⟨g5, c5, rfl, hg5, hb5⟩
  have HK5 := Lib.hid (HK4.out.below hb5)
  have HB6 := Lib.hid (HB5.out.step hb5)
  clear hb5
  go_wp2_with fail
  refine (as_one _ b2 2 3 _ HK5.out i2 st_as2).mono ?_
  rintro x w6 ⟨g6, c6, rfl, hg6, hb6⟩
  have HK6 := Lib.hid (HK5.out.below hb6)
  have HB7 := Lib.hid (HB6.out.step hb6)
  clear hb6 hg5
  go_wp2_with fail
  have h := void_any w.heap.size b2 1 _ HK6.out i2 (by decide)
  rw [st_void] at h
  refine h.mono ?_
  rintro x w7 ⟨rfl, hk7, hc7⟩
  have HB8 := Lib.hid (HB7.out.trans hc7.toBelow)
  have HK7 := Lib.hid hk7
  clear h hk7 hc7 hg6
  simp only [errB]
  go_wp2_with fail
  refine (as_len _ b3 (-1) 0 _ HK7.out i3 st_as3).mono ?_
  rintro x w8 ⟨a8, c8, rfl, hb8⟩
  have HK8 := Lib.hid (HK7.out.below hb8)
  have HB9 := Lib.hid (HB8.out.step hb8)
  clear hb8
  go_wp2_with fail
  refine (as_len _ b3 2 1 _ HK8.out i3 st_as4).mono ?_
  rintro x w9 ⟨a9, c9, rfl, hb9⟩
  have HK9 := Lib.hid (HK8.out.below hb9)
  have HB10 := Lib.hid (HB9.out.step hb9)
  clear hb9
  go_wp2_with fail
  have h := void_any w.heap.size b3 1 _ HK9.out i3 (by decide)
  rw [st_void2] at h
  refine h.mono ?_
  rintro x w10 ⟨rfl, hk10, hc10⟩
  have HB11 := Lib.hid (HB10.out.trans hc10.toBelow)
  clear h hk10 hc10
  simp only [errB]
  go_wp2_with fail
  refine (tell_errno 7 _ (hw.below HB11.out)).mono ?_
  rintro x w11 ⟨rfl, hb11⟩
  have HB12 := Lib.hid (HB11.out.step hb11)
  clear hb11
  go_wp2_with fail
  go_ret
  exact ⟨rfl, HB12.out⟩
end Go.Proofs.YtpbbbiifeihkaaaDoor
