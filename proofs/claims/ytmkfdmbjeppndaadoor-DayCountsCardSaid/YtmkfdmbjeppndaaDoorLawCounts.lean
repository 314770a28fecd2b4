/- tallymanlaw.DayCounts: the walk. -/
import Derived.Test.YtmkfdmbjeppndaaDoorRefY
import Derived.Test.YtmkfdmbjeppndaaDoorDayQ
import Derived.Test.YtmkfdmbjeppndaaDoorDayL
import Derived.Test.YtmkfdmbjeppndaaDoorTell
namespace Go.Proofs.YtmkfdmbjeppndaaDoor
open Go.RowKit

/-- What the walk asks of the world. -/
structure CW (w : World) : Prop where
  dr : DR w
  ew : EW w
theorem CW.below {w w' : World} (h : CW w) (hb : Below w.heap.size w w') : CW w' := ⟨h.dr.below hb, h.ew.below hb⟩

/-- The document's answer and the program's are alike: the same values, and an error that is told. -/
def Alike (fr fp : FuncId) (args : Array Value) (xs : Value → Value) : Prop :=
  ∃ (o : Option Int), (∀ w, CW w → Calls Tryd.prog fr args w (Gives (xs (.int .i64 (errN o))) w)) ∧ (∀ w, CW w → Calls Tryd.prog fp args w (Gives (xs (errV o)) w))

theorem same_gives {v : Value} {w : World} {e : Ending} {w' : World} (h : Same v w e w') : Gives v w e w' := ⟨h.1, by rw [← h.2]; exact Below.refl _ _⟩
theorem draws_gives {v : Value} {w : World} {e : Ending} {w' : World} (h : Draws v w e w') : Gives v w e w' := by
  obtain ⟨h, q, rfl⟩ := h
  exact ⟨h, below_drewN (Below.refl _ _) q⟩

theorem alike_day (y m d : Int) : ∃ x : Int, Alike 15 16 #[.int .i64 y, .int .i64 m, .int .i64 d] (fun v => .tuple #[.int .i64 x, v]) := by
  rcases h : Dy.ofN y m d with _ | n
  · refine ⟨0, some 1, fun w _ => ?_, fun w hw => ?_⟩
    · have := refDay_any y m d w; rw [h] at this; exact this.mono fun _ _ => same_gives
    · have := of_any y m d w hw.dr.dw; rw [h] at this; exact this.mono fun _ _ => draws_gives
  · refine ⟨n, none, fun w _ => ?_, fun w hw => ?_⟩
    · have := refDay_any y m d w; rw [h] at this; exact this.mono fun _ _ => same_gives
    · have := of_any y m d w hw.dr.dw; rw [h] at this; exact this.mono fun _ _ => draws_gives
theorem alike_last (M : Int) : ∃ x : Int, Alike 21 22 #[.int .i64 M] (fun v => .tuple #[.int .i64 x, v]) := by
  rcases h : Dy.lastN M with _ | n
  · refine ⟨0, some 1, fun w _ => ?_, fun w hw => ?_⟩
    · have := refLast_any M w; rw [h] at this; exact this.mono fun _ _ => same_gives
    · have := last_any M w hw.dr.dw; rw [h] at this; exact this.mono fun _ _ => draws_gives
  · refine ⟨n, none, fun w _ => ?_, fun w hw => ?_⟩
    · have := refLast_any M w; rw [h] at this; exact this.mono fun _ _ => same_gives
    · have := last_any M w hw.dr.dw; rw [h] at this; exact this.mono fun _ _ => draws_gives
theorem alike_parts (n : Int) : ∃ x y z : Int, Alike 17 18 #[.int .i64 n] (fun v => .tuple #[.int .i64 x, .int .i64 y, .int .i64 z, v]) := by
  by_cases h : 0 ≤ n ∧ n ≤ 99999
  · obtain ⟨y, d, m, hi⟩ := Dy.parts_ex n h.1 h.2
    refine ⟨y, m, d, none, fun w _ => ?_, fun w hw => ?_⟩
    · refine (refParts_ok n w h.1 h.2).mono ?_
      rintro e w' ⟨y', d', m', hi', rfl, rfl⟩
      obtain ⟨rfl, e2, rfl⟩ := Dy.is_uniq hi' hi
      rw [e2]
      exact ⟨rfl, Below.refl _ _⟩
    · refine (parts_ok n w hw.dr.dw h.1 h.2).mono ?_
      rintro e w' ⟨y', d', m', hi', rfl, q, rfl⟩
      obtain ⟨rfl, e2, rfl⟩ := Dy.is_uniq hi' hi
      rw [e2]
      exact ⟨rfl, below_drewN (Below.refl _ _) q⟩
  · have hb : n < 0 ∨ 99999 < n := by omega
    exact ⟨0, 0, 0, some 1, fun w _ => (refParts_bad n w hb).mono fun _ _ => same_gives, fun w _ => (parts_bad n w hb).mono fun _ _ => draws_gives⟩

set_option maxHeartbeats 400000 in
theorem month_bad (n : Int) (w : World) (h : n < 0 ∨ 99999 < n) :
    Calls Tryd.prog 20 #[.int .i64 n] w (Gives (.tuple #[.int .i64 0, .iface 23 (.int .i64 1)]) w) := by
  have H := Lib.hid h
  clear h
  go_enter Tryd.func20, Tryd.ntmps20
  go_wp2_with fail
  refine (parts_bad n _ H.out).mono ?_
  rintro e w1 ⟨rfl, q, rfl⟩
  go_wp2_with fail
  go_ret2
  exact ⟨rfl, below_drewN (Below.refl _ _) q⟩
theorem alike_month (n : Int) : ∃ x : Int, Alike 19 20 #[.int .i64 n] (fun v => .tuple #[.int .i64 x, v]) := by
  by_cases h : 0 ≤ n ∧ n ≤ 99999
  · obtain ⟨y, d, m, hi⟩ := Dy.parts_ex n h.1 h.2
    exact ⟨Dy.mo y m, none, fun w _ => (refMonth_is n y d m w h.1 h.2 hi).mono fun _ _ => same_gives, fun w hw => month_is n y d m w hw.dr.dw h.1 h.2 hi⟩
  · have hb : n < 0 ∨ 99999 < n := by omega
    exact ⟨0, some 1, fun w _ => (refMonth_bad n w hb).mono fun _ _ => same_gives, fun w _ => month_bad n w hb⟩
theorem alike_date (n : Int) : ∃ x : ByteArray, x.size ≤ 10 ∧ Alike 23 24 #[.int .i64 n] (fun v => .tuple #[.string x, v]) := by
  by_cases h : 0 ≤ n ∧ n ≤ 99999
  · obtain ⟨y, d, m, hi⟩ := Dy.parts_ex n h.1 h.2
    have hT : Dy.Text n (Dy.txt y.toNat m d.toNat) := ⟨y, d, m, hi, rfl⟩
    refine ⟨⟨(Dy.txt y.toNat m d.toNat).toArray⟩, Nat.le_refl _, none, fun w hw => ?_, fun w hw => ?_⟩
    · refine (refDate_ok n w hw.dr.dw h.1 h.2).mono ?_
      rintro e w' ⟨l, hl, rfl, hb⟩
      rw [Dy.text_uniq hl hT]
      exact ⟨rfl, hb⟩
    · refine (day_print_ok n w hw.dr.dw h.1 h.2).mono ?_
      rintro e w' ⟨l, hl, rfl, hb⟩
      rw [Dy.text_uniq hl hT]
      exact ⟨rfl, hb⟩
  · have hb : n < 0 ∨ 99999 < n := by omega
    exact ⟨⟨#[]⟩, Nat.zero_le _, some 1, fun w _ => refDate_bad n w hb, fun w _ => day_print_bad n w hb⟩
theorem alike_parse (s : ByteArray) (hs : s.size ≤ 100) : ∃ x : Int, Alike 25 26 #[.string s] (fun v => .tuple #[.int .i64 x, v]) := by
  by_cases h : ∃ k, 0 ≤ k ∧ k ≤ 99999 ∧ Dy.Text k s.data.toList
  · obtain ⟨k, k0, k1, kt⟩ := h
    exact ⟨k, none, fun w hw => refParse_yes k s w hw.dr k0 k1 kt, fun w hw => day_parse_yes k s w hw.dr.dw k0 k1 kt⟩
  · have hT : ∀ k, 0 ≤ k → k ≤ 99999 → ¬ Dy.Text k s.data.toList := fun k k0 k1 kt => h ⟨k, k0, k1, kt⟩
    exact ⟨0, some 3, fun w hw => refParse_no s w hw.dr hs hT, fun w hw => day_parse_no s w hw.dr.dw hT⟩
end Go.Proofs.YtmkfdmbjeppndaaDoor
