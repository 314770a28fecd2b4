/- day.two, day.Print: what they hand back. -/
import Derived.Test.YtjbpeebhphmffaaDoorDayX
import Derived.Test.YtjbpeebhphmffaaDoorDayP
import Derived.Test.YtjbpeebhphmffaaDoorLawLift
namespace Go.Proofs.YtjbpeebhphmffaaDoor
open Go.RowKit

theorem below_grow (w : World) (q : Nat) (os : Array Obj) : Below w.heap.size w (Go.Sort.grow (w.drewN q) os) :=
  ⟨rfl, rfl, rfl, by simp [Go.Sort.grow], fun i hi => by
    show ((w.drewN q).heap ++ os)[i]? = _
    rw [Array.getElem?_append_left (by show i < w.heap.size; omega)]
    rfl⟩

theorem itoa_nat (n : Nat) : Lib.itoa (n : Int) = Lib.decDigits n := by rw [Lib.itoa, if_neg (by omega)]; simp

set_option maxHeartbeats 400000 in
theorem two_4 (n : Nat) (w : World) (hw : DW w) (h1 : 1000 ≤ n) (h2 : n < 10000) :
    Calls Tryd.prog 26 #[.int .i64 n, .int .i64 4] w (Gives (.string ⟨(Dy.four4 n).toArray⟩) w) := by
  have hd := Dy.dec4 n h1 h2
  obtain ⟨s, hs⟩ : ∃ s : ByteArray, s = ⟨(Lib.decDigits n).toArray⟩ := ⟨_, rfl⟩
  have hsz : s.size = 4 := by rw [hs, hd]; rfl
  have HS : Hid (Value.string s = Value.string ⟨(Dy.four4 n).toArray⟩) := Lib.hid (by rw [hs, hd])
  have Hs := Lib.hid hs
  clear hs hd
  go_enter Tryd.func26, Tryd.ntmps26
  go_wp2_with (go_at_call 16; refine (Tryd.strconv_Itoa n (by omega) (by omega) _ hw.pow).mono ?_; rintro e w1 ⟨rfl, k, os, rfl⟩; rw [itoa_nat, ← Hs.out])
  generalize hw1 : Go.Sort.grow (w.drewN k) os = w1
  have hb : Below w.heap.size w w1 := by rw [← hw1]; exact below_grow _ _ _
  clear hw1
  go_loop [5] (fun v => v = .string s) (fun _ => 0)
  case atStart => rfl
  case round =>
    subst hrel
    go_wp2
    go_ret
    exact ⟨congrArg Ending.returned HS.out, hb⟩

set_option maxHeartbeats 400000 in
theorem two_2 (n : Nat) (w : World) (h2 : n < 100) :
    Calls Tryd.prog 26 #[.int .i64 n, .int .i64 2] w (Gives (.string ⟨(Dy.two2 n).toArray⟩) w) := by
  obtain ⟨s, hs⟩ : ∃ s : ByteArray, s = ⟨(Lib.decDigits n).toArray⟩ := ⟨_, rfl⟩
  by_cases h1 : n < 10
  · have hsz : s.size = 1 := by rw [hs, Lib.decDigits_one h1]; rfl
    have HS : Hid (Value.string (⟨#[48]⟩ ++ s) = Value.string ⟨(Dy.two2 n).toArray⟩) := Lib.hid (by rw [← Dy.dec1 n h1, hs]; rfl)
    have Hs := Lib.hid hs
    clear hs
    go_enter Tryd.func26, Tryd.ntmps26
    go_wp2_with (go_at_call 16; refine (Tryd.strconv_Itoa_small n h2 _).mono ?_; rintro e w1 ⟨rfl, rfl⟩; rw [← Hs.out])
    go_loop [5] (fun v => ∃ t : ByteArray, v = .string t ∧ ((t = s ∧ t.size = 1) ∨ (t = (⟨#[48]⟩ ++ s : ByteArray) ∧ t.size = 2))) (fun v => match v with | .string t => 3 - t.size | _ => 0)
    case atStart => exact ⟨s, rfl, Or.inl ⟨rfl, hsz⟩⟩
    case round =>
      obtain ⟨t, rfl, ht⟩ := hrel
      rcases ht with ⟨rfl, ht⟩ | ⟨ht0, ht⟩
      · go_wp2
        go_round
        case rel => exact ⟨_, rfl, Or.inr ⟨rfl, by simp [hsz]; rfl⟩⟩
        case measure => simp [hsz]; decide
      · have HT := Lib.hid ht0
        clear ht0
        go_wp2
        go_ret
        exact ⟨by rw [HT.out]; exact congrArg Ending.returned HS.out, Below.refl _ _⟩
  · have hd := Dy.dec2 n h1 h2
    have hsz : s.size = 2 := by rw [hs, hd]; rfl
    have HS : Hid (Value.string s = Value.string ⟨(Dy.two2 n).toArray⟩) := Lib.hid (by rw [hs, hd])
    have Hs := Lib.hid hs
    clear hs hd
    go_enter Tryd.func26, Tryd.ntmps26
    go_wp2_with (go_at_call 16; refine (Tryd.strconv_Itoa_small n h2 _).mono ?_; rintro e w1 ⟨rfl, rfl⟩; rw [← Hs.out])
    go_loop [5] (fun v => v = .string s) (fun _ => 0)
    case atStart => rfl
    case round =>
      subst hrel
      go_wp2
      go_ret
      exact ⟨congrArg Ending.returned HS.out, Below.refl _ _⟩
end Go.Proofs.YtjbpeebhphmffaaDoor
