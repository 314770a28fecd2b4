/- Joined: RnQ, RnA, LawEvRa. -/
import Derived.Test.YtjmeefmofbpbnaaGreatDoorRnP1
import Derived.Test.YtjmeefmofbpbnaaGreatDoorRnP2
import Derived.Test.YtjmeefmofbpbnaaGreatDoorRnP3
import Derived.Test.YtjmeefmofbpbnaaGreatDoorRnP4
import Derived.Test.YtjmeefmofbpbnaaGreatDoorRnP0
import Derived.Test.YtjmeefmofbpbnaaGreatDoorJoined7
import Derived.Test.YtjmeefmofbpbnaaGreatDoorJoined14
import Derived.Test.YtjmeefmofbpbnaaGreatDoorTell

section
/- tallymanref.ParseEvent at every text: what it hands back. -/
namespace Go.Proofs.YtjmeefmofbpbnaaGreatDoor
open Go.RowKit

theorem six_pieces (zs : List ByteArray) : ∃ z0 z1 z2 z3 z4 z5 r, zs ++ six = z0 :: z1 :: z2 :: z3 :: z4 :: z5 :: r := by
  rcases zs with _ | ⟨a, _ | ⟨b, _ | ⟨c, _ | ⟨d, _ | ⟨e, _ | ⟨f, t⟩⟩⟩⟩⟩⟩
  all_goals exact ⟨_, _, _, _, _, _, _, rfl⟩
theorem beq_word {a : List UInt8} {b : ByteArray} (h : b.data.toList ≠ a) : (a == b.toList) = false := by
  rw [Go.ByteArray.toList_eq]
  simpa using fun e => h e.symm

theorem refEvParse_any (s : ByteArray) (w : World) (hw : PW2 w) (hs : s.size ≤ 1000) : Calls Tryz.prog 13 #[.string s] w (RefEvParse s w) := by
  obtain ⟨zs, hz⟩ : ∃ zs : List ByteArray, zs.map (fun z => z.data.toList) = Sp.spl 32 s.data.toList := ⟨_, map_data _⟩
  obtain ⟨z0, z1, z2, z3, z4, z5, r, hZ⟩ := six_pieces zs
  by_cases k1 : z1.data.toList = [105, 110]
  · obtain rfl : z1 = ⟨#[105, 110]⟩ := ByteArray.ext (Array.ext' k1)
    exact refParse_1 s z0 z2 z3 z4 z5 zs r zs.length w hw hs rfl hz hZ
  by_cases k2 : z1.data.toList = [99, 104, 97, 114, 103, 101]
  · obtain rfl : z1 = ⟨#[99, 104, 97, 114, 103, 101]⟩ := ByteArray.ext (Array.ext' k2)
    exact refParse_2 s z0 z2 z3 z4 z5 zs r zs.length w hw hs rfl hz hZ
  by_cases k3 : z1.data.toList = [111, 117, 116]
  · obtain rfl : z1 = ⟨#[111, 117, 116]⟩ := ByteArray.ext (Array.ext' k3)
    exact refParse_3 s z0 z2 z3 z4 z5 zs r zs.length w hw hs rfl hz hZ
  by_cases k4 : z1.data.toList = [99, 111, 117, 110, 116]
  · obtain rfl : z1 = ⟨#[99, 111, 117, 110, 116]⟩ := ByteArray.ext (Array.ext' k4)
    exact refParse_4 s z0 z2 z3 z4 z5 zs r zs.length w hw hs rfl hz hZ
  exact refParse_0 s z0 z1 z2 z3 z4 z5 zs r zs.length w hw hs rfl hz hZ (beq_word k1) (beq_word k2) (beq_word k3) (beq_word k4) ⟨k1, k2, k3, k4⟩
end Go.Proofs.YtjmeefmofbpbnaaGreatDoor
end

section
/- tallymanref.Ahead: what it hands back. -/
namespace Go.Proofs.YtjmeefmofbpbnaaGreatDoor
open Go.RowKit
set_option linter.unusedVariables false

namespace Ev
/-- The one is ahead of the other. -/
def aheadB (i k d i' k' d' : Int) : Bool := decide (cmpE i k d i' k' d' = -1)
end Ev
set_option maxHeartbeats 1000000 in
set_option maxRecDepth 100000 in
theorem ahead_any (i k q p o d i' k' q' p' o' d' : Int) (s s' : ByteArray) (w : World) :
    Calls Tryz.prog 4 #[.agg #[.int .i64 i, .string s, .int .i64 k, .int .i64 q, .int .i64 p, .int .i64 o, .int .i64 d], .agg #[.int .i64 i', .string s', .int .i64 k', .int .i64 q', .int .i64 p', .int .i64 o', .int .i64 d']] w (Gives (.bool (Ev.aheadB i k d i' k' d')) w) := by
  have hb0 : Below w.heap.size w ((w.alloc (.cells #[.int .i64 i, .string s, .int .i64 k, .int .i64 q, .int .i64 p, .int .i64 o, .int .i64 d] 23)).alloc (.cells #[.int .i64 i', .string s', .int .i64 k', .int .i64 q', .int .i64 p', .int .i64 o', .int .i64 d'] 23)) := ((Below.refl _ _).new _).new _
  by_cases h1 : d = d'
  · subst h1
    by_cases h2 : k = k'
    · subst h2
      have e : Ev.aheadB i k d i' k d = decide (i < i') := by
        unfold Ev.aheadB Ev.cmpE Ev.or3 Ev.cmpI
        rw [decide_eq_decide]
        simp only [Int.lt_irrefl, if_false, if_true]
        (repeat' split) <;> omega
      have HE := Lib.hid e
      clear e
      rw [HE.out]
      go_enter Tryz.func4, Tryz.ntmps4
      go_wp2
      go_ret
      exact ⟨rfl, hb0⟩
    · have n2 : (k != k') = true := by simpa using h2
      have e : Ev.aheadB i k d i' k' d = decide (k < k') := by
        unfold Ev.aheadB Ev.cmpE Ev.or3 Ev.cmpI
        rw [decide_eq_decide]
        (repeat' split) <;> omega
      have HE := Lib.hid e
      clear e
      rw [HE.out]
      go_enter Tryz.func4, Tryz.ntmps4
      go_wp2
      go_ret
      exact ⟨rfl, hb0⟩
  · have n1 : (d != d') = true := by simpa using h1
    have e : Ev.aheadB i k d i' k' d' = decide (d < d') := by
      unfold Ev.aheadB Ev.cmpE Ev.or3 Ev.cmpI
      rw [decide_eq_decide]
      (repeat' split) <;> omega
    have HE := Lib.hid e
    clear e
    rw [HE.out]
    go_enter Tryz.func4, Tryz.ntmps4
    go_wp2
    go_ret
    exact ⟨rfl, hb0⟩
end Go.Proofs.YtjmeefmofbpbnaaGreatDoor
end

section
/- The document's and the program's answers to events, alike. -/
namespace Go.Proofs.YtjmeefmofbpbnaaGreatDoor
open Go.RowKit

/-- What the walk asks of the world. -/
structure XW (w : World) : Prop where
  vw : VW w
  dr : DR w
  ew : EW w
theorem XW.below {w w' : World} (h : XW w) (hb : Below w.heap.size w w') : XW w' := ⟨h.vw.below hb, h.dr.below hb, h.ew.below hb⟩

/-- The document's answer and the program's are alike: the same values, and an error that is told. -/
def AlikeX (fr fp : FuncId) (args : Array Value) (xs : Value → Value) : Prop :=
  ∃ (c : Int) (er : Value), Hid (∀ w, XW w → Calls Tryz.prog fr args w (Gives (xs (.int .i64 c)) w)) ∧ Hid (∀ w, XW w → Calls Tryz.prog fp args w (Gives (xs er) w)) ∧ Hid (∀ w, XW w → Calls Tryz.prog 12 #[er, .int .i64 c] w (Gives (.bool true) w))
theorem alikeX_of {fr fp : FuncId} {args : Array Value} {xs : Value → Value} (o : Option Int) (h1 : ∀ w, XW w → Calls Tryz.prog fr args w (Gives (xs (.int .i64 (errN o))) w)) (h2 : ∀ w, XW w → Calls Tryz.prog fp args w (Gives (xs (errV o)) w)) : AlikeX fr fp args xs :=
  ⟨errN o, errV o, Lib.hid h1, Lib.hid h2, Lib.hid (fun w hw => bare_any o w hw.ew)⟩

theorem alike_text (i : Int) (s : ByteArray) (k q p o d : Int) (hs : s.size ≤ 1000000) (ho : o ≤ 9223372036854775807) : ∃ t : ByteArray, AlikeX 10 11 #[.agg #[.int .i64 i, .string s, .int .i64 k, .int .i64 q, .int .i64 p, .int .i64 o, .int .i64 d]] (fun v => .tuple #[.string t, v]) := by
  by_cases hR : Ev.RightP s.data.toList k q p o d
  · obtain ⟨y, dd, m, hi⟩ := Dy.parts_ex d hR.2.1 hR.2.2.1
    have hT : Dy.Text d (Dy.txt y.toNat m dd.toNat) := ⟨y, dd, m, hi, rfl⟩
    have hL : Ev.Text s.data.toList k q p o d (Dy.txt y.toNat m dd.toNat ++ [32] ++ Ev.word k ++ [32] ++ s.data.toList ++ [32] ++ Ev.tail k q p o) := ⟨_, hT, rfl⟩
    generalize Dy.txt y.toNat m dd.toNat ++ [32] ++ Ev.word k ++ [32] ++ s.data.toList ++ [32] ++ Ev.tail k q p o = l at hL
    refine ⟨⟨l.toArray⟩, alikeX_of none (fun w hw => ?_) (fun w hw => ?_)⟩
    · refine (text_event i s k q p o d w hw.vw.dw hw.vw.nw hs ho).mono ?_
      rintro e w' ⟨⟨l', -, hl, rfl⟩ | ⟨hn, -⟩, hb⟩
      · rw [Ev.text_uniq hl hL]
        exact ⟨rfl, hb⟩
      · exact absurd hR hn
    · refine (print_event i s k q p o d w hw.vw hs ho).mono ?_
      rintro e w' ⟨⟨l', -, hl, rfl⟩ | ⟨hn, -⟩, hb⟩
      · rw [Ev.text_uniq hl hL]
        exact ⟨rfl, hb⟩
      · exact absurd hR hn
  · refine ⟨⟨#[]⟩, alikeX_of (some 1) (fun w hw => ?_) (fun w hw => ?_)⟩
    · refine (text_event i s k q p o d w hw.vw.dw hw.vw.nw hs ho).mono ?_
      rintro e w' ⟨⟨l', hn, -, -⟩ | ⟨-, rfl⟩, hb⟩
      · exact absurd hn hR
      · exact ⟨rfl, hb⟩
    · refine (print_event i s k q p o d w hw.vw hs ho).mono ?_
      rintro e w' ⟨⟨l', hn, -, -⟩ | ⟨-, rfl⟩, hb⟩
      · exact absurd hn hR
      · exact ⟨rfl, hb⟩

theorem alike_ev (s : ByteArray) (hs : s.size ≤ 1000) : ∃ (it : ByteArray) (k q p o d : Int), AlikeX 13 14 #[.string s] (fun v => .tuple #[.agg #[.int .i64 0, .string it, .int .i64 k, .int .i64 q, .int .i64 p, .int .i64 o, .int .i64 d], v]) := by
  by_cases h : ∃ (it : ByteArray) (k q p o d : Int), Ev.Reads s.data.toList it.data.toList k q p o d
  · obtain ⟨it, k, q, p, o, d, hr⟩ := h
    refine ⟨it, k, q, p, o, d, alikeX_of none (fun w hw => ?_) (fun w hw => ?_)⟩
    · refine (refEvParse_any s w ⟨hw.dr, hw.vw.nw⟩ hs).mono ?_
      rintro e w' ⟨⟨it', k', q', p', o', d', hr', rfl⟩ | ⟨hn, -⟩, hb⟩
      · obtain ⟨ei, rfl, rfl, rfl, rfl, rfl⟩ := Ev.reads_uniq hr' hr
        obtain rfl : it' = it := ByteArray.ext (Array.ext' ei)
        exact ⟨rfl, hb⟩
      · exact absurd hr (hn _ _ _ _ _ _)
    · refine (parse_event s w hw.vw hs).mono ?_
      rintro e w' ⟨⟨it', k', q', p', o', d', hr', rfl⟩ | ⟨hn, -⟩, hb⟩
      · obtain ⟨ei, rfl, rfl, rfl, rfl, rfl⟩ := Ev.reads_uniq hr' hr
        obtain rfl : it' = it := ByteArray.ext (Array.ext' ei)
        exact ⟨rfl, hb⟩
      · exact absurd hr (hn _ _ _ _ _ _)
  · refine ⟨⟨#[]⟩, 0, 0, 0, 0, 0, alikeX_of (some 3) (fun w hw => ?_) (fun w hw => ?_)⟩
    · refine (refEvParse_any s w ⟨hw.dr, hw.vw.nw⟩ hs).mono ?_
      rintro e w' ⟨⟨it', k', q', p', o', d', hr', -⟩ | ⟨-, rfl⟩, hb⟩
      · exact absurd ⟨_, _, _, _, _, _, hr'⟩ h
      · exact ⟨rfl, hb⟩
    · refine (parse_event s w hw.vw hs).mono ?_
      rintro e w' ⟨⟨it', k', q', p', o', d', hr', -⟩ | ⟨-, rfl⟩, hb⟩
      · exact absurd ⟨_, _, _, _, _, _, hr'⟩ h
      · exact ⟨rfl, hb⟩

/-- Which of two events is ahead. -/
theorem ahead_cases (i k d i' k' d' : Int) : (Ev.aheadB i k d i' k' d' = true ∧ Ev.cmpE i k d i' k' d' = -1) ∨ (Ev.aheadB i k d i' k' d' = false ∧ Ev.aheadB i' k' d' i k d = true ∧ Ev.cmpE i k d i' k' d' = 1) ∨ (Ev.aheadB i k d i' k' d' = false ∧ Ev.aheadB i' k' d' i k d = false ∧ Ev.cmpE i k d i' k' d' = 0) := by
  unfold Ev.aheadB Ev.cmpE Ev.or3 Ev.cmpI
  simp only [decide_eq_true_eq, decide_eq_false_iff_not]
  (repeat' split) <;> omega
end Go.Proofs.YtjmeefmofbpbnaaGreatDoor
end
