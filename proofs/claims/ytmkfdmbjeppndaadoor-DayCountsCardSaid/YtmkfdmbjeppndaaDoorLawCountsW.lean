/- tallymanlaw.DayCounts: the walk, joined. -/
import Derived.Test.YtmkfdmbjeppndaaDoorLawCounts
namespace Go.Proofs.YtmkfdmbjeppndaaDoor
open Go.RowKit

/-- The same, the error's value a plain name. -/
theorem Alike.plain {fr fp : FuncId} {args : Array Value} {xs : Value → Value} (h : Alike fr fp args xs) :
    ∃ (c : Int) (er : Value), Hid (∀ w, CW w → Calls Tryd.prog fr args w (Gives (xs (.int .i64 c)) w)) ∧ Hid (∀ w, CW w → Calls Tryd.prog fp args w (Gives (xs er) w)) ∧ Hid (∀ w, CW w → Calls Tryd.prog 7 #[er, .int .i64 c] w (Gives (.bool true) w)) := by
  obtain ⟨o, h1, h2⟩ := h
  exact ⟨errN o, errV o, Lib.hid h1, Lib.hid h2, Lib.hid (fun w hw => bare_any o w hw.ew)⟩

set_option maxHeartbeats 2000000 in
set_option maxRecDepth 100000 in
theorem counts_walk (y m d n : Int) (s : ByteArray) (w : World) (hw : CW w) (hs : s.size ≤ maxLen) :
    Calls Tryd.prog 4 #[.int .i64 y, .int .i64 m, .int .i64 d, .int .i64 n, .string s] w (Gives (.bool true) w) := by
  unfold maxLen at hs
  by_cases h100 : 100 < s.size
  · go_enter Tryd.func4, Tryd.ntmps4
    go_wp2
    go_ret
    exact ⟨rfl, Below.refl _ _⟩
  · obtain ⟨x1, a1⟩ := alike_day y m d
    obtain ⟨x2, y2, z2, a2⟩ := alike_parts n
    obtain ⟨x3, a3⟩ := alike_month n
    obtain ⟨x4, a4⟩ := alike_last n
    obtain ⟨x5, hx5, a5⟩ := alike_date n
    obtain ⟨x6, a6⟩ := alike_parse s (by omega)
    obtain ⟨c1, r1, f1, g1, b1⟩ := a1.plain
    obtain ⟨c2, r2, f2, g2, b2⟩ := a2.plain
    obtain ⟨c3, r3, f3, g3, b3⟩ := a3.plain
    obtain ⟨c4, r4, f4, g4, b4⟩ := a4.plain
    obtain ⟨c5, r5, f5, g5, b5⟩ := a5.plain
    obtain ⟨c6, r6, f6, g6, b6⟩ := a6.plain
    clear a1 a2 a3 a4 a5 a6
    go_enter Tryd.func4, Tryd.ntmps4
    go_wp2_with fail
    refine (f1.out _ hw).mono ?_
    rintro e w1 ⟨rfl, hb⟩
    have hw1 := hw.below hb
    go_wp2_with fail
    refine (g1.out _ hw1).mono ?_
    rintro e w2 ⟨rfl, hb2⟩
    replace hb := hb.step hb2
    have hw2 := hw1.below hb2
    go_wp2_with fail
    refine (b1.out _ hw2).mono ?_
    rintro e w3 ⟨rfl, hb3⟩
    replace hb := hb.step hb3
    have hw3 := hw2.below hb3
    clear hw1 hw2 hb2 hb3
    go_wp2_with fail
    refine (f2.out _ hw3).mono ?_
    rintro e w1 ⟨rfl, hb1⟩
    replace hb := hb.step hb1
    have hw1 := hw3.below hb1
    go_wp2_with fail
    refine (g2.out _ hw1).mono ?_
    rintro e w2 ⟨rfl, hb2⟩
    replace hb := hb.step hb2
    have hw2 := hw1.below hb2
    go_wp2_with fail
    refine (b2.out _ hw2).mono ?_
    rintro e w4 ⟨rfl, hb3⟩
    replace hb := hb.step hb3
    have hw4 := hw2.below hb3
    clear hw1 hw2 hb1 hb2 hb3 hw3
    go_wp2_with fail
    refine (f3.out _ hw4).mono ?_
    rintro e w1 ⟨rfl, hb1⟩
    replace hb := hb.step hb1
    have hw1 := hw4.below hb1
    go_wp2_with fail
    refine (g3.out _ hw1).mono ?_
    rintro e w2 ⟨rfl, hb2⟩
    replace hb := hb.step hb2
    have hw2 := hw1.below hb2
    go_wp2_with fail
    refine (b3.out _ hw2).mono ?_
    rintro e w5 ⟨rfl, hb3⟩
    replace hb := hb.step hb3
    have hw5 := hw2.below hb3
    clear hw1 hw2 hb1 hb2 hb3 hw4
    go_wp2_with fail
    refine (f4.out _ hw5).mono ?_
    rintro e w1 ⟨rfl, hb1⟩
    replace hb := hb.step hb1
    have hw1 := hw5.below hb1
    go_wp2_with fail
    refine (g4.out _ hw1).mono ?_
    rintro e w2 ⟨rfl, hb2⟩
    replace hb := hb.step hb2
    have hw2 := hw1.below hb2
    go_wp2_with fail
    refine (b4.out _ hw2).mono ?_
    rintro e w6 ⟨rfl, hb3⟩
    replace hb := hb.step hb3
    have hw6 := hw2.below hb3
    clear hw1 hw2 hb1 hb2 hb3 hw5
    go_wp2_with fail
    refine (f5.out _ hw6).mono ?_
    rintro e w1 ⟨rfl, hb1⟩
    replace hb := hb.step hb1
    have hw1 := hw6.below hb1
    go_wp2_with fail
    refine (g5.out _ hw1).mono ?_
    rintro e w2 ⟨rfl, hb2⟩
    replace hb := hb.step hb2
    have hw2 := hw1.below hb2
    go_wp2_with fail
    refine (b5.out _ hw2).mono ?_
    rintro e w7 ⟨rfl, hb3⟩
    replace hb := hb.step hb3
    have hw7 := hw2.below hb3
    clear hw1 hw2 hb1 hb2 hb3 hw6
    go_wp2_with fail
    refine (f6.out _ hw7).mono ?_
    rintro e w1 ⟨rfl, hb1⟩
    replace hb := hb.step hb1
    have hw1 := hw7.below hb1
    go_wp2_with fail
    refine (g6.out _ hw1).mono ?_
    rintro e w2 ⟨rfl, hb2⟩
    replace hb := hb.step hb2
    have hw2 := hw1.below hb2
    go_wp2_with fail
    refine (b6.out _ hw2).mono ?_
    rintro e w8 ⟨rfl, hb3⟩
    replace hb := hb.step hb3
    clear hw1 hw2 hb1 hb2 hb3 hw7
    go_wp2_with fail
    go_ret
    exact ⟨rfl, hb⟩
end Go.Proofs.YtmkfdmbjeppndaaDoor
