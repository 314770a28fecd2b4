/- Joined: DayX, DayO, RefS. -/
import Derived.Lib.Atoi
import Derived.Lib.ItoaNum
import Derived.Test.YtjmeefmofbpbnaaGreatDoorJoined1
import Derived.Deep.QuietTactic
import Derived.BigQuiet
import Derived.Deep.LoopGhost
import Derived.Test.YtjmeefmofbpbnaaGreatDoorJoined2
import Derived.Lib.SplitLaws

section
/- Days as text: the plain part. -/
namespace Go.Proofs.YtjmeefmofbpbnaaGreatDoor.Dy

def dg (k : Nat) : UInt8 := UInt8.ofNat (48 + k)
def two2 (n : Nat) : List UInt8 := [dg (n / 10), dg (n % 10)]
def four4 (n : Nat) : List UInt8 := [dg (n / 1000), dg (n / 100 % 10), dg (n / 10 % 10), dg (n % 10)]
def txt (y m d : Nat) : List UInt8 := four4 y ++ [45] ++ two2 m ++ [45] ++ two2 d
/-- l is how the day n is written. -/
def Text (n : Int) (l : List UInt8) : Prop := ∃ (y d : Int) (m : Nat), Is n y m d ∧ l = txt y.toNat m d.toNat

theorem dec4 (n : Nat) (h1 : 1000 ≤ n) (h2 : n < 10000) : Lib.decDigits n = four4 n := by
  rw [Lib.decDigits, dif_neg (by omega), Lib.decDigits, dif_neg (by omega), Lib.decDigits_two (by omega) (by omega)]
  simp only [four4, dg, List.cons_append, List.nil_append, Nat.div_div_eq_div_mul]
theorem dec2 (n : Nat) (h1 : ¬ n < 10) (h2 : n < 100) : Lib.decDigits n = two2 n := Lib.decDigits_two h1 h2
theorem dec1 (n : Nat) (h1 : n < 10) : [48] ++ Lib.decDigits n = two2 n := by
  rw [Lib.decDigits_one h1, two2, Nat.div_eq_of_lt h1, Nat.mod_eq_of_lt h1]; rfl
theorem digitVal_dg (k : Nat) (h : k < 10) : Lib.digitVal (dg k) = some k := by
  unfold Lib.digitVal dg
  rw [UInt8.toNat_ofNat', if_pos (by omega)]
  congr 1
  omega
theorem dg_ne (k : Nat) (h : k < 10) (c : UInt8) (hc : c.toNat < 48) : dg k ≠ c := by
  intro e
  have := congrArg UInt8.toNat e
  unfold dg at this
  rw [UInt8.toNat_ofNat'] at this
  omega
theorem atoi_two2 (n : Nat) (h : n < 100) : Lib.atoi (two2 n) = some (n : Int) := by
  have a1 := dg_ne (n / 10) (by omega) 45 (by decide)
  have a2 := dg_ne (n / 10) (by omega) 43 (by decide)
  simp only [two2, Lib.atoi, beq_iff_eq, if_neg a1, if_neg a2, Lib.decNat, List.isEmpty_cons, Lib.decFrom, digitVal_dg _ (show n / 10 < 10 by omega), digitVal_dg _ (show n % 10 < 10 by omega)]
  simp
  omega
theorem atoi_four4 (n : Nat) (h : n < 10000) : Lib.atoi (four4 n) = some (n : Int) := by
  have a1 := dg_ne (n / 1000) (by omega) 45 (by decide)
  have a2 := dg_ne (n / 1000) (by omega) 43 (by decide)
  simp only [four4, Lib.atoi, beq_iff_eq, if_neg a1, if_neg a2, Lib.decNat, List.isEmpty_cons, Lib.decFrom, digitVal_dg _ (show n / 1000 < 10 by omega), digitVal_dg _ (show n / 100 % 10 < 10 by omega), digitVal_dg _ (show n / 10 % 10 < 10 by omega), digitVal_dg _ (show n % 10 < 10 by omega)]
  simp
  omega
theorem txt_len (y m d : Nat) : (txt y m d).length = 10 := rfl
theorem text_uniq {n : Int} {l l' : List UInt8} (h : Text n l) (h' : Text n l') : l = l' := by
  obtain ⟨y, d, m, hi, rfl⟩ := h
  obtain ⟨y', d', m', hi', rfl⟩ := h'
  obtain ⟨rfl, e, rfl⟩ := is_uniq hi hi'
  obtain rfl : m = m' := by omega
  rfl
end Go.Proofs.YtjmeefmofbpbnaaGreatDoor.Dy
end

section
/- day.Of: what it hands back. -/
namespace Go.Proofs.YtjmeefmofbpbnaaGreatDoor
open Go.RowKit

def okVal (o : Option Int) : Value := match o with
  | some n => .tuple #[.int .i64 n, .nilIface]
  | none => .tuple #[.int .i64 0, .iface 28 (.int .i64 1)]
/-- It hands this back; the world is the same but for what was drawn. -/
def Draws (v : Value) (w : World) (e : Ending) (w' : World) : Prop := e = .returned v ∧ ∃ n, w' = w.drewN n

theorem ofN_not {y m d : Int} (h : ¬ Dy.Ok y m d) : Dy.ofN y m d = none := by unfold Dy.ofN; rw [if_neg (fun hc => h hc.1)]

set_option maxHeartbeats 400000 in
theorem of_bad (y m d : Int) (w : World) (hw : DW w) (h : ¬ Dy.Ok y m d) :
    Calls Tryz.prog 55 #[.int .i64 y, .int .i64 m, .int .i64 d] w (Draws (okVal none) w) := by
  by_cases c1 : y < 1900
  · clear h
    go_enter Tryz.func55, Tryz.ntmps55
    go_wp2
    go_ret2
    exact ⟨rfl, 0, rfl⟩
  · by_cases c2 : 2200 < y
    · clear h
      go_enter Tryz.func55, Tryz.ntmps55
      go_wp2
      go_ret2
      exact ⟨rfl, 0, rfl⟩
    · by_cases c3 : m < 1
      · clear h
        go_enter Tryz.func55, Tryz.ntmps55
        go_wp2
        go_ret2
        exact ⟨rfl, 0, rfl⟩
      · by_cases c4 : 12 < m
        · clear h
          go_enter Tryz.func55, Tryz.ntmps55
          go_wp2
          go_ret2
          exact ⟨rfl, 0, rfl⟩
        · by_cases c5 : d < 1
          · clear h
            go_enter Tryz.func55, Tryz.ntmps55
            go_wp2
            go_ret2
            exact ⟨rfl, 0, rfl⟩
          · obtain ⟨M, rfl⟩ : ∃ M : Nat, m = M := ⟨m.toNat, by omega⟩
            have c6 : Dy.len y M < d := by
              apply Classical.byContradiction
              intro hc
              exact h ⟨by omega, by omega, by omega, by omega, by omega, by simpa using (show d ≤ Dy.len y M by omega)⟩
            clear h
            go_enter Tryz.func55, Tryz.ntmps55
            go_wp2_with (go_at_call 64; refine (length_any y M _ hw (by omega) (by omega) (by omega) (by omega)).mono ?_; rintro e w1 ⟨rfl, n, rfl⟩)
            go_ret2
            exact ⟨rfl, n, rfl⟩

theorem ofN_ok {y m d N : Int} (h : Dy.Ok y m d) (hN : Dy.num y m d = N) : Dy.ofN y m d = if N ≤ 99999 then some N else none := by
  subst hN
  unfold Dy.ofN
  by_cases hc : Dy.num y m d ≤ 99999
  · rw [if_pos ⟨h, hc⟩, if_pos hc]
  · rw [if_neg (fun k => hc k.2), if_neg hc]

set_option maxHeartbeats 800000 in
theorem of_good (y d : Int) (M : Nat) (w : World) (hw : DW w) (h : Dy.Ok y M d) :
    Calls Tryz.prog 55 #[.int .i64 y, .int .i64 M, .int .i64 d] w (Draws (okVal (Dy.ofN y M d)) w) := by
  obtain ⟨N, hN⟩ : ∃ N, Dy.num y M d = N := ⟨_, rfl⟩
  obtain ⟨v, hv⟩ : ∃ v, v = okVal (Dy.ofN y M d) := ⟨_, rfl⟩
  rw [← hv]
  rw [ofN_ok h hN] at hv
  have HV := Lib.hid hv
  clear hv
  obtain ⟨h1, h2, h3, h4, h5, h6⟩ := h
  rw [Int.toNat_natCast] at h6
  have hl := Dy.len_pos y M (by omega) (by omega)
  have hms := Dy.ms_le y M (by omega)
  have HN : Hid (d - 1 + Dy.ms y M + Dy.ys y = N) := Lib.hid (by rw [← hN]; simp [Dy.num])
  clear hN
  have c1 : ¬ y < 1900 := by omega
  have c2 : ¬ 2200 < y := by omega
  have c3 : ¬ (M : Int) < 1 := by omega
  have c4 : ¬ 12 < (M : Int) := by omega
  have c5 : ¬ d < 1 := by omega
  have c6 : ¬ Dy.len y M < d := by omega
  clear h6
  go_enter Tryz.func55, Tryz.ntmps55
  go_wp2_with (go_at_call 64; refine (length_any y M _ hw (by omega) (by omega) (by omega) (by omega)).mono ?_; rintro e w1 ⟨rfl, n1, rfl⟩)
  go_loopw [8, 9] (fun n k wr => ∃ (j q : Nat) (a : Int), 1 ≤ j ∧ j ≤ M ∧ k = .int .i64 j ∧ n = .int .i64 a ∧ Hid (a = d - 1 + Dy.ms y j) ∧ 0 ≤ a ∧ a ≤ 100 + 31 * j ∧ Hid (wr = w.drewN q)) (fun _ k _ => M - (intOf k).toNat)
  case atStart => exact ⟨1, n1, d - 1, by omega, by omega, rfl, rfl, Lib.hid (by simp [Dy.ms]), by omega, by omega, Lib.hid rfl⟩
  case round =>
    obtain ⟨j, q, a, hj1, hj2, rfl, rfl, ha, ha0, ha1, hwr⟩ := hrel
    by_cases hlt : j < M
    · have hl2 := Dy.len_pos y j (by omega) (by omega)
      obtain ⟨L, hL⟩ : ∃ L, L = Dy.len y j := ⟨_, rfl⟩
      rw [← hL] at hl2
      have HL := Lib.hid hL
      clear hL
      go_wp2_with (go_at_call 64; refine (length_any y j _ (by rw [hwr.out]; exact hw.drew _) (by omega) (by omega) (by omega) (by omega)).mono ?_; rintro e w1 ⟨rfl, n2, rfl⟩; rw [← HL.out])
      go_roundw
      case rel => exact ⟨j + 1, q + n2, a + L, by omega, by omega, by go_num, rfl, Lib.hid (by rw [Dy.ms_succ y j hj1, ha.out, HL.out]; omega), by omega, by omega, Lib.hid (by rw [hwr.out, World.drewN_drewN])⟩
      case measure => simp [intOf]; omega
    · obtain rfl : j = M := by omega
      have hN : a + ((y - 1900) * 365 + (y - 1) / 4 - (y - 1) / 100 + (y - 1) / 400 - 460) = N := by rw [← HN.out, ha.out]; rfl
      have HNN := Lib.hid hN
      by_cases hc : N ≤ 99999
      · have HG : Hid (v = okVal (some N)) := Lib.hid (by rw [HV.out, if_pos hc])
        clear hN
        have hc' : ¬ 99999 < a + ((y - 1900) * 365 + (y - 1) / 4 - (y - 1) / 100 + (y - 1) / 400 - 460) := by rw [HNN.out]; omega
        go_wp2
        go_ret2
        exact ⟨(congrArg (fun x => Ending.returned (okVal (some x))) HNN.out).trans (congrArg Ending.returned HG.out.symm), q, hwr.out⟩
      · have HG : Hid (v = okVal none) := Lib.hid (by rw [HV.out, if_neg hc])
        clear hN
        have hc' : 99999 < a + ((y - 1900) * 365 + (y - 1) / 4 - (y - 1) / 100 + (y - 1) / 400 - 460) := by rw [HNN.out]; omega
        go_wp2
        go_ret2
        exact ⟨congrArg Ending.returned HG.out.symm, q, hwr.out⟩

theorem of_any (y m d : Int) (w : World) (hw : DW w) :
    Calls Tryz.prog 55 #[.int .i64 y, .int .i64 m, .int .i64 d] w (Draws (okVal (Dy.ofN y m d)) w) := by
  by_cases h : Dy.Ok y m d
  · obtain ⟨M, rfl⟩ : ∃ M : Nat, m = M := ⟨m.toNat, by have := h.2.2.1; omega⟩
    exact of_good y d M w hw h
  · rw [ofN_not h]
    exact of_bad y m d w hw h
end Go.Proofs.YtjmeefmofbpbnaaGreatDoor
end

section
/- A day's text in its three pieces: plain. -/
namespace Go.Proofs.YtjmeefmofbpbnaaGreatDoor.Dy

theorem dg45 (k : Nat) (h : k < 10) : (dg k == 45) = false := by
  rw [beq_eq_false_iff_ne]
  exact dg_ne k h 45 (by decide)

theorem txt_count (Y m D : Nat) (hY : Y < 10000) (hm : m < 100) (hD : D < 100) : Lib.count (txt Y m D) [45] = 2 := by
  rw [Lib.count_one]
  simp only [txt, four4, two2, List.cons_append, List.nil_append, List.count_cons, dg45 _ (show Y / 1000 < 10 by omega), dg45 _ (show Y / 100 % 10 < 10 by omega), dg45 _ (show Y / 10 % 10 < 10 by omega), dg45 _ (show Y % 10 < 10 by omega), dg45 _ (show m / 10 < 10 by omega), dg45 _ (show m % 10 < 10 by omega), dg45 _ (show D / 10 < 10 by omega), dg45 _ (show D % 10 < 10 by omega), List.count_nil]
  decide

theorem txt_split (Y m D : Nat) (hY : Y < 10000) (hm : m < 100) : Lib.splitK [45] 0 2 (txt Y m D) = [four4 Y, two2 m, two2 D] := by
  have i1 : Lib.indexByte (txt Y m D) 45 = 4 := by
    simp [txt, four4, two2, Lib.indexByte, dg45 _ (show Y / 1000 < 10 by omega), dg45 _ (show Y / 100 % 10 < 10 by omega), dg45 _ (show Y / 10 % 10 < 10 by omega), dg45 _ (show Y % 10 < 10 by omega)]
  have i2 : Lib.indexByte (two2 m ++ [45] ++ two2 D) 45 = 2 := by
    simp [two2, Lib.indexByte, dg45 _ (show m / 10 < 10 by omega), dg45 _ (show m % 10 < 10 by omega)]
  have e1 : (txt Y m D).drop 5 = two2 m ++ [45] ++ two2 D := rfl
  have e2 : (two2 m ++ [45] ++ two2 D).drop 3 = two2 D := rfl
  simp only [Lib.splitK, Lib.index_one, i1]
  rw [show ((4 : Int).toNat + [(45 : UInt8)].length) = 5 from rfl, e1, i2, show ((2 : Int).toNat + [(45 : UInt8)].length) = 3 from rfl, e2]
  rfl

theorem txt_splitB (s : ByteArray) (Y m D : Nat) (hY : Y < 10000) (hm : m < 100) (hs : s.data.toList = txt Y m D) : Lib.splitB ⟨#[45]⟩ 0 2 s = [⟨(four4 Y).toArray⟩, ⟨(two2 m).toArray⟩, ⟨(two2 D).toArray⟩] := by
  have h := Lib.splitB_data ⟨#[45]⟩ 0 2 s
  rw [hs, show (⟨#[45]⟩ : ByteArray).data.toList = [45] from rfl, txt_split Y m D hY hm] at h
  match hL : Lib.splitB ⟨#[45]⟩ 0 2 s with
  | [] => rw [hL] at h; simp at h
  | [_] => rw [hL] at h; simp at h
  | [_, _] => rw [hL] at h; simp at h
  | [a, b, c] =>
    rw [hL] at h
    simp only [List.map_cons, List.map_nil, List.cons.injEq, and_true] at h
    obtain ⟨h1, h2, h3⟩ := h
    rw [show a = ⟨(four4 Y).toArray⟩ from ByteArray.ext (Array.ext' (by rw [h1])), show b = ⟨(two2 m).toArray⟩ from ByteArray.ext (Array.ext' (by rw [h2])), show c = ⟨(two2 D).toArray⟩ from ByteArray.ext (Array.ext' (by rw [h3]))]
  | _ :: _ :: _ :: _ :: _ => rw [hL] at h; simp at h
end Go.Proofs.YtjmeefmofbpbnaaGreatDoor.Dy
end
