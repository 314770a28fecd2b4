/- Joined: DayT, NumW. -/
import Derived.Test.YtjmeefmofbpbnaaGreatDoorJoined6
import Derived.Test.YtjmeefmofbpbnaaGreatDoorDayP
import Derived.Test.YtjmeefmofbpbnaaGreatDoorJoined4
import Derived.Shelf.Strconv.ErrVarAll
import Derived.Lib.Hide
import Derived.Lib.LaidTab
import Derived.Lib.SmallJoins
import Derived.WalkSpells
import Derived.WalkLawsBesides
import Derived.Handy
import Derived.Test.YtjmeefmofbpbnaaGreatDoorBase
import Derived.Test.YtjmeefmofbpbnaaGreatDoorShelf

section
/- day.two, day.Print: what they hand back. -/
namespace Go.Proofs.YtjmeefmofbpbnaaGreatDoor
open Go.RowKit

theorem below_grow (w : World) (q : Nat) (os : Array Obj) : Below w.heap.size w (Go.Sort.grow (w.drewN q) os) :=
  ⟨rfl, rfl, rfl, by simp [Go.Sort.grow], fun i hi => by
    show ((w.drewN q).heap ++ os)[i]? = _
    rw [Array.getElem?_append_left (by show i < w.heap.size; omega)]
    rfl⟩

theorem itoa_nat (n : Nat) : Lib.itoa (n : Int) = Lib.decDigits n := by rw [Lib.itoa, if_neg (by omega)]; simp

set_option maxHeartbeats 400000 in
theorem two_4 (n : Nat) (w : World) (hw : DW w) (h1 : 1000 ≤ n) (h2 : n < 10000) :
    Calls Tryz.prog 48 #[.int .i64 n, .int .i64 4] w (Gives (.string ⟨(Dy.four4 n).toArray⟩) w) := by
  have hd := Dy.dec4 n h1 h2
  obtain ⟨s, hs⟩ : ∃ s : ByteArray, s = ⟨(Lib.decDigits n).toArray⟩ := ⟨_, rfl⟩
  have hsz : s.size = 4 := by rw [hs, hd]; rfl
  have HS : Hid (Value.string s = Value.string ⟨(Dy.four4 n).toArray⟩) := Lib.hid (by rw [hs, hd])
  have Hs := Lib.hid hs
  clear hs hd
  go_enter Tryz.func48, Tryz.ntmps48
  go_wp2_with (go_at_call 22; refine (Tryz.strconv_Itoa n (by omega) (by omega) _ hw.pow).mono ?_; rintro e w1 ⟨rfl, k, os, rfl⟩; rw [itoa_nat, ← Hs.out])
  generalize hw1 : Go.Sort.grow (w.drewN k) os = w1
  have hb : Below w.heap.size w w1 := by rw [← hw1]; exact below_grow _ _ _
  clear hw1
  go_loop [5] (fun v => v = .string s) (fun _ => 0)
  case atStart => rfl
  case round =>
    subst hrel
    go_wp2
    go_ret
    exact ⟨congrArg Ending.returned HS.out, hb⟩

set_option maxHeartbeats 400000 in
theorem two_2 (n : Nat) (w : World) (h2 : n < 100) :
    Calls Tryz.prog 48 #[.int .i64 n, .int .i64 2] w (Gives (.string ⟨(Dy.two2 n).toArray⟩) w) := by
  obtain ⟨s, hs⟩ : ∃ s : ByteArray, s = ⟨(Lib.decDigits n).toArray⟩ := ⟨_, rfl⟩
  by_cases h1 : n < 10
  · have hsz : s.size = 1 := by rw [hs, Lib.decDigits_one h1]; rfl
    have HS : Hid (Value.string (⟨#[48]⟩ ++ s) = Value.string ⟨(Dy.two2 n).toArray⟩) := Lib.hid (by rw [← Dy.dec1 n h1, hs]; rfl)
    have Hs := Lib.hid hs
    clear hs
    go_enter Tryz.func48, Tryz.ntmps48
    go_wp2_with (go_at_call 22; refine (Tryz.strconv_Itoa_small n h2 _).mono ?_; rintro e w1 ⟨rfl, rfl⟩; rw [← Hs.out])
    go_loop [5] (fun v => ∃ t : ByteArray, v = .string t ∧ ((t = s ∧ t.size = 1) ∨ (t = (⟨#[48]⟩ ++ s : ByteArray) ∧ t.size = 2))) (fun v => match v with | .string t => 3 - t.size | _ => 0)
    case atStart => exact ⟨s, rfl, Or.inl ⟨rfl, hsz⟩⟩
    case round =>
      obtain ⟨t, rfl, ht⟩ := hrel
      rcases ht with ⟨rfl, ht⟩ | ⟨ht0, ht⟩
      · go_wp2
        go_round
        case rel => exact ⟨_, rfl, Or.inr ⟨rfl, by simp [hsz]; rfl⟩⟩
        case measure => simp [hsz]; decide
      · have HT := Lib.hid ht0
        clear ht0
        go_wp2
        go_ret
        exact ⟨by rw [HT.out]; exact congrArg Ending.returned HS.out, Below.refl _ _⟩
  · have hd := Dy.dec2 n h1 h2
    have hsz : s.size = 2 := by rw [hs, hd]; rfl
    have HS : Hid (Value.string s = Value.string ⟨(Dy.two2 n).toArray⟩) := Lib.hid (by rw [hs, hd])
    have Hs := Lib.hid hs
    clear hs hd
    go_enter Tryz.func48, Tryz.ntmps48
    go_wp2_with (go_at_call 22; refine (Tryz.strconv_Itoa_small n h2 _).mono ?_; rintro e w1 ⟨rfl, rfl⟩; rw [← Hs.out])
    go_loop [5] (fun v => v = .string s) (fun _ => 0)
    case atStart => rfl
    case round =>
      subst hrel
      go_wp2
      go_ret
      exact ⟨congrArg Ending.returned HS.out, Below.refl _ _⟩
end Go.Proofs.YtjmeefmofbpbnaaGreatDoor
end

section
/- strconv at every number and at texts of at most 100 bytes; what the walks over numbers as text ask of the world. -/
namespace Go.Proofs.YtjmeefmofbpbnaaGreatDoor
open Go.RowKit

/-- What the laid variables of strconv and of the search in texts hold. -/
structure NW (w : World) : Prop where
  pow : Lib.TabIs Tryz.prog w "internal/strconv.uint64pow10" .u64 Lib.pow10Tab
  syn : ∃ tp p, w.var? Tryz.prog "strconv.ErrSyntax" = some #[.iface tp p]
  rng : ∃ tp p, w.var? Tryz.prog "strconv.ErrRange" = some #[.iface tp p]
  most : ∃ m, w.cell? ⟨1, 0, none⟩ = some (.int .i64 m)
namespace NW
theorem gPow : Tryz.prog.globalNamed "internal/strconv.uint64pow10" = some 7 := by kernel_rfl
theorem gSyn : Tryz.prog.globalNamed "strconv.ErrSyntax" = some 3 := by kernel_rfl
theorem gRng : Tryz.prog.globalNamed "strconv.ErrRange" = some 4 := by kernel_rfl
theorem below {w w' : World} (h : NW w) (hb : Below w.heap.size w w') : NW w' := by
  refine ⟨Joins.var_stays gPow h.pow hb (Nat.le_refl _), ?_, ?_, ?_⟩
  · obtain ⟨tp, p, hs⟩ := h.syn
    exact ⟨tp, p, Joins.var_stays gSyn hs hb (Nat.le_refl _)⟩
  · obtain ⟨tp, p, hs⟩ := h.rng
    exact ⟨tp, p, Joins.var_stays gRng hs hb (Nat.le_refl _)⟩
  · obtain ⟨m, hm⟩ := h.most
    exact ⟨m, by rw [hb.cell (p := ⟨1, 0, none⟩) (cell_lt hm), hm]⟩
theorem grows (w : World) (q : Nat) (os : Array Obj) : Below w.heap.size w (Go.Sort.grow (w.drewN q) os) :=
  ⟨rfl, rfl, rfl, by simp [Go.Sort.grow], fun i hi => by
    show ((w.drewN q).heap ++ os)[i]? = _
    rw [Array.getElem?_append_left (by show i < w.heap.size; omega)]
    rfl⟩
theorem itoa_pos (n : Nat) : Lib.itoa (n : Int) = Lib.decDigits n := by rw [Lib.itoa, if_neg (by omega)]; simp
theorem itoa (n : Int) (w : World) (hw : NW w) (h0 : -9223372036854775808 ≤ n) (h1 : n ≤ 9223372036854775807) :
    Calls Tryz.prog 22 #[.int .i64 n] w (Gives (.string ⟨(Lib.itoa n).toArray⟩) w) := by
  refine (Tryz.strconv_Itoa n h0 h1 _ hw.pow).mono ?_
  rintro e w1 ⟨rfl, q, os, rfl⟩
  exact ⟨rfl, grows _ _ _⟩

/-- Atoi at a text: a number and no error, as the text reads; or some number and an error. -/
def AtoiPost (s : ByteArray) (w : World) (e : Ending) (w' : World) : Prop :=
  ∃ (v : Int) (er : Value), e = .returned (.tuple #[.int .i64 v, er]) ∧ ((Lib.atoiAll s.data.toList = .ok v ∧ er = .nilIface) ∨ ((∀ u, Lib.atoiAll s.data.toList ≠ .ok u) ∧ ∃ N, er = .iface 107 (.pointer (some ⟨N, 0, none⟩)))) ∧ Below w.heap.size w w'
theorem atoi (s : ByteArray) (w : World) (hw : NW w) (hl : s.size ≤ 1000) : Calls Tryz.prog 31 #[.string s] w (AtoiPost s w) := by
  obtain ⟨tp, p, hv⟩ := hw.syn
  obtain ⟨tq, q, hr⟩ := hw.rng
  rcases h : Lib.atoiAll s.data.toList with v | _ | _
  · refine (Tryz.strconv_Atoi_ok s (by omega) v h w).mono ?_
    rintro e w' ⟨rfl, rfl | ⟨t, rfl⟩⟩
    · exact ⟨v, _, rfl, Or.inl ⟨h, rfl⟩, Below.refl _ _⟩
    · exact ⟨v, _, rfl, Or.inl ⟨h, rfl⟩, Lib.bytesWorld_below _ _ _⟩
  · refine (Any.strconv_Atoi_syntax_var Tryz.laysC172 s (by omega) h tp p w hv).mono ?_
    rintro e w' ⟨N, rfl, -, -, hb⟩
    exact ⟨0, _, rfl, Or.inr ⟨fun u hu => by (rw [h] at hu; cases hu), N, rfl⟩, hb⟩
  · refine (Any.strconv_Atoi_range_var Tryz.laysC172 s (by omega) h tq q w hr).mono ?_
    rintro e w' ⟨N, rfl, -, -, hb⟩
    exact ⟨_, _, rfl, Or.inr ⟨fun u hu => by (rw [h] at hu; cases hu), N, rfl⟩, hb⟩
theorem atoi_ok (s : ByteArray) (v : Int) (w : World) (hl : s.size ≤ 1000) (h : Lib.atoiAll s.data.toList = .ok v) : Calls Tryz.prog 31 #[.string s] w (Gives (.tuple #[.int .i64 v, .nilIface]) w) := by
  refine (Tryz.strconv_Atoi_ok s (by omega) v h w).mono ?_
  rintro e w' ⟨rfl, rfl | ⟨t, rfl⟩⟩
  · exact ⟨rfl, Below.refl _ _⟩
  · exact ⟨rfl, Lib.bytesWorld_below _ _ _⟩
end NW
end Go.Proofs.YtjmeefmofbpbnaaGreatDoor
end
