/- Joined: RefY, RnV. -/
import Derived.Test.YtjmeefmofbpbnaaGreatDoorJoined5
import Derived.Test.YtjmeefmofbpbnaaGreatDoorJoined6
import Derived.Test.YtjmeefmofbpbnaaGreatDoorJoined7
import Derived.Test.YtjmeefmofbpbnaaGreatDoorEvF
import Derived.Test.YtjmeefmofbpbnaaGreatDoorJoined13
import Derived.Test.YtjmeefmofbpbnaaGreatDoorDayR

section
/- tallymanref.ParseDate at a day's text: what it hands back. -/
namespace Go.Proofs.YtjmeefmofbpbnaaGreatDoor
open Go.RowKit

set_option maxHeartbeats 800000 in
theorem refParse_yes (n : Int) (s : ByteArray) (w : World) (hw : DR w) (h0 : 0 ≤ n) (h1 : n ≤ 99999) (hT : Dy.Text n s.data.toList) :
    Calls Tryz.prog 29 #[.string s] w (Gives (.tuple #[.int .i64 n, .int .i64 0]) w) := by
  have HT := Lib.hid hT
  obtain ⟨y, d, m, hi, hs⟩ := hT
  obtain ⟨Y, rfl⟩ : ∃ Y : Nat, y = Y := ⟨y.toNat, by have := hi.1.1; omega⟩
  obtain ⟨D, rfl⟩ : ∃ D : Nat, d = D := ⟨d.toNat, by have := hi.1.2.2.2.2.1; omega⟩
  have hlen : ((D : Int)) ≤ 31 := by
    have a1 := hi.1.2.2.2.2.2
    have a2 := Dy.len_pos Y m (by have := hi.1.2.2.1; omega) (by have := hi.1.2.2.2.1; omega)
    simp at a1
    omega
  obtain ⟨b1, b2, b3, b4, b5, -⟩ := hi.1
  have hof := Dy.ofN_is hi h1
  have HO : Hid (∀ w1, Calls Tryz.prog 51 #[.int .i64 Y, .int .i64 m, .int .i64 D] w1 (Same (.tuple #[.int .i64 n, .int .i64 0]) w1)) := Lib.hid (fun w1 => by have := refDay_any Y m D w1; rw [hof] at this; exact this)
  clear hof
  rw [Int.toNat_natCast, Int.toNat_natCast] at hs
  have hsz : s.size = 10 := by
    have : s.data.toList.length = 10 := by rw [hs]; rfl
    simpa using this
  obtain ⟨mx, hmx⟩ := hw.most
  have HS0 := Tryz.strings_Split s ⟨#[45]⟩ mx w (by omega) hmx (by decide)
  have hcnt : Lib.countB s ⟨#[45]⟩ = 2 := by
    show Lib.count s.data.toList [45] = 2
    rw [hs]; exact Dy.txt_count Y m D (by omega) (by omega) (by omega)
  rw [hcnt, Dy.txt_splitB s Y m D (by omega) (by omega) hs] at HS0
  have HS := Lib.hid HS0
  clear HS0 hcnt hmx
  obtain ⟨a, ha⟩ : ∃ a : ByteArray, a = ⟨(Dy.four4 Y).toArray⟩ := ⟨_, rfl⟩
  obtain ⟨b, hb⟩ : ∃ a : ByteArray, a = ⟨(Dy.two2 m).toArray⟩ := ⟨_, rfl⟩
  obtain ⟨c, hc⟩ : ∃ a : ByteArray, a = ⟨(Dy.two2 D).toArray⟩ := ⟨_, rfl⟩
  have HA : Hid (∀ w1, Calls Tryz.prog 31 #[.string a] w1 (Gives (.tuple #[.int .i64 Y, .nilIface]) w1)) := Lib.hid (fun w1 => atoi_is a Y w1 (by rw [ha]; show 4 ≤ 18; omega) (by rw [ha]; exact Dy.atoi_four4 Y (by omega)))
  have HB : Hid (∀ w1, Calls Tryz.prog 31 #[.string b] w1 (Gives (.tuple #[.int .i64 m, .nilIface]) w1)) := Lib.hid (fun w1 => atoi_is b m w1 (by rw [hb]; show 2 ≤ 18; omega) (by rw [hb]; exact Dy.atoi_two2 m (by omega)))
  have HC : Hid (∀ w1, Calls Tryz.prog 31 #[.string c] w1 (Gives (.tuple #[.int .i64 D, .nilIface]) w1)) := Lib.hid (fun w1 => atoi_is c D w1 (by rw [hc]; show 2 ≤ 18; omega) (by rw [hc]; exact Dy.atoi_two2 D (by omega)))
  rw [← ha, ← hb, ← hc] at HS
  have H0 := Lib.hid h0
  have H1 := Lib.hid h1
  clear ha hb hc hs hi h0 h1
  go_enter Tryz.func29, Tryz.ntmps29
  go_wp2_with fail
  refine HS.out.mono ?_
  rintro e w1 ⟨rfl, hw1⟩
  have hb1 : Below w.heap.size w w1 := by rw [hw1]; exact (Below.refl _ _).alloc (Nat.le_refl _) _
  have hlt : w.heap.size < w1.heap.size := by rw [hw1]; simp
  have c0 : w1.cell? ⟨w.heap.size, 0, none⟩ = some (.string a) := by rw [hw1]; simp
  have c1 : w1.cell? ⟨w.heap.size, 1, none⟩ = some (.string b) := by rw [hw1]; simp
  have c2 : w1.cell? ⟨w.heap.size, 2, none⟩ = some (.string c) := by rw [hw1]; simp
  clear hw1
  go_wp2_with fail
  refine (HA.out _).mono ?_
  rintro e w2 ⟨rfl, hb2⟩
  have d1 : w2.cell? ⟨w.heap.size, 1, none⟩ = some (.string b) := by rw [hb2.cell (p := ⟨w.heap.size, 1, none⟩) hlt, c1]
  have d2 : w2.cell? ⟨w.heap.size, 2, none⟩ = some (.string c) := by rw [hb2.cell (p := ⟨w.heap.size, 2, none⟩) hlt, c2]
  have hlt2 : w.heap.size < w2.heap.size := Nat.lt_of_lt_of_le hlt hb2.size
  go_wp2_with fail
  refine (HB.out _).mono ?_
  rintro e w3 ⟨rfl, hb3⟩
  have e2 : w3.cell? ⟨w.heap.size, 2, none⟩ = some (.string c) := by rw [hb3.cell (p := ⟨w.heap.size, 2, none⟩) hlt2, d2]
  go_wp2_with fail
  refine (HC.out _).mono ?_
  rintro e w4 ⟨rfl, hb4⟩
  have hb14 : Below w.heap.size w w4 := ((hb1.step hb2).step hb3).step hb4
  have hwr4 := hw.below hb14
  go_wp2_with fail
  refine (HO.out _).mono ?_
  rintro e w5 ⟨rfl, rfl⟩
  go_wp2_with fail
  refine (refDate_ok n _ hwr4.dw H0.out H1.out).mono ?_
  rintro e w6 ⟨l, hl, rfl, hb6⟩
  have hq' : (l == s.toList) = true := by rw [Go.ByteArray.toList_eq, Dy.text_uniq hl HT.out]; simp
  go_wp2_with fail
  go_ret2
  exact ⟨rfl, hb14.step hb6⟩
end Go.Proofs.YtjmeefmofbpbnaaGreatDoor
end

section
/- What the document's readers of a day, an amount and a number hand back at any text: a number within bounds; the one that the text is, if it is one. -/
namespace Go.Proofs.YtjmeefmofbpbnaaGreatDoor
open Go.RowKit

theorem atoi_val (s : ByteArray) (w : World) (hw : NW w) (hl : s.size ≤ 1000) : Calls Tryz.prog 31 #[.string s] w fun e w' =>
    ∃ (v : Int) (er : Value), e = .returned (.tuple #[.int .i64 v, er]) ∧ -9223372036854775808 ≤ v ∧ v ≤ 9223372036854775807 ∧ (∀ u, Nm.Is s.data.toList u → v = u) ∧ Below w.heap.size w w' := by
  obtain ⟨tp, p, hv⟩ := hw.syn
  obtain ⟨tq, q, hr⟩ := hw.rng
  have key : ∀ u, Nm.Is s.data.toList u → Lib.atoiAll s.data.toList = .ok u := fun u hu => by
    have := Nm.atoi_itoa u hu.1 hu.2.1
    rwa [hu.2.2] at this
  rcases h : Lib.atoiAll s.data.toList with v | _ | _
  · have hb := Lib.atoiAll_bounds h
    have hk : ∀ u, Nm.Is s.data.toList u → v = u := fun u hu => by
      have := key u hu
      rw [h] at this
      injection this
    refine (Tryz.strconv_Atoi_ok s (by omega) v h w).mono ?_
    rintro e w' ⟨rfl, rfl | ⟨t, rfl⟩⟩
    · exact ⟨v, _, rfl, hb.1, hb.2, hk, Below.refl _ _⟩
    · exact ⟨v, _, rfl, hb.1, hb.2, hk, Lib.bytesWorld_below _ _ _⟩
  · refine (Any.strconv_Atoi_syntax_var Tryz.laysC172 s (by omega) h tp p w hv).mono ?_
    rintro e w' ⟨N, rfl, -, -, hb⟩
    exact ⟨0, _, rfl, by decide, by decide, fun u hu => by (have := key u hu; rw [h] at this; cases this), hb⟩
  · refine (Any.strconv_Atoi_range_var Tryz.laysC172 s (by omega) h tq q w hr).mono ?_
    rintro e w' ⟨N, rfl, -, -, hb⟩
    refine ⟨_, _, rfl, ?_, ?_, fun u hu => by (have := key u hu; rw [h] at this; cases this), hb⟩
    · unfold Lib.atoiSat; split <;> decide
    · unfold Lib.atoiSat; split <;> decide

theorem date_val (s : ByteArray) (w : World) (hw : DR w) (hl : s.size ≤ 1000) : Calls Tryz.prog 29 #[.string s] w fun e w' =>
    ∃ (v : Int) (er : Value), e = .returned (.tuple #[.int .i64 v, er]) ∧ 0 ≤ v ∧ v ≤ 99999 ∧ (∀ u, 0 ≤ u → u ≤ 99999 → Dy.Text u s.data.toList → v = u) ∧ Below w.heap.size w w' := by
  by_cases h : ∃ n, 0 ≤ n ∧ n ≤ 99999 ∧ Dy.Text n s.data.toList
  · obtain ⟨n, h0, h1, hT⟩ := h
    refine (refParse_yes n s w hw h0 h1 hT).mono ?_
    rintro e w' ⟨rfl, hb⟩
    exact ⟨n, _, rfl, h0, h1, fun u _ _ hu => Ev.day_uniq hT hu, hb⟩
  · refine (refParse_no s w hw hl (fun n h0 h1 hT => h ⟨n, h0, h1, hT⟩)).mono ?_
    rintro e w' ⟨rfl, hb⟩
    exact ⟨0, _, rfl, by decide, by decide, fun u h0 h1 hu => absurd ⟨u, h0, h1, hu⟩ h, hb⟩

theorem amount_val (s : ByteArray) (w : World) (hw : NW w) (hl : s.size ≤ 1000) : Calls Tryz.prog 30 #[.string s] w fun e w' =>
    ∃ (v : Int) (er : Value), e = .returned (.tuple #[.int .i64 v, er]) ∧ -1000000000000 ≤ v ∧ v ≤ 1000000000000 ∧ (∀ u, Mn.parse s.data.toList = some u → v = u) ∧ Below w.heap.size w w' := by
  refine (refParse_any s w hw hl).mono ?_
  rintro e w' ⟨h, hb⟩
  rcases hp : Mn.parse s.data.toList with _ | v
  · rw [hp] at h
    exact ⟨0, _, h, by decide, by decide, (fun u hu => by cases hu), hb⟩
  · rw [hp] at h
    have := (Mn.parse_back hp).2
    exact ⟨v, _, h, this.1, this.2, (fun u hu => by injection hu), hb⟩
end Go.Proofs.YtjmeefmofbpbnaaGreatDoor
end
