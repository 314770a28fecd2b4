/- tallymanref.ParseDate at a day's text: what it hands back. -/
import Derived.Test.YtmkfdmbjeppndaaDoorRefR
import Derived.Test.YtmkfdmbjeppndaaDoorRefS
namespace Go.Proofs.YtmkfdmbjeppndaaDoor
open Go.RowKit

set_option maxHeartbeats 800000 in
theorem refParse_yes (n : Int) (s : ByteArray) (w : World) (hw : DR w) (h0 : 0 ≤ n) (h1 : n ≤ 99999) (hT : Dy.Text n s.data.toList) :
    Calls Tryd.prog 25 #[.string s] w (Gives (.tuple #[.int .i64 n, .int .i64 0]) w) := by
  have HT := Lib.hid hT
  obtain ⟨y, d, m, hi, hs⟩ := hT
  obtain ⟨Y, rfl⟩ : ∃ Y : Nat, y = Y := ⟨y.toNat, by have := hi.1.1; omega⟩
  obtain ⟨D, rfl⟩ : ∃ D : Nat, d = D := ⟨d.toNat, by have := hi.1.2.2.2.2.1; omega⟩
  have hlen : ((D : Int)) ≤ 31 := by
    have a1 := hi.1.2.2.2.2.2
    have a2 := Dy.len_pos Y m (by have := hi.1.2.2.1; omega) (by have := hi.1.2.2.2.1; omega)
    simp at a1
    omega
  obtain ⟨b1, b2, b3, b4, b5, -⟩ := hi.1
  have hof := Dy.ofN_is hi h1
  have HO : Hid (∀ w1, Calls Tryd.prog 15 #[.int .i64 Y, .int .i64 m, .int .i64 D] w1 (Same (.tuple #[.int .i64 n, .int .i64 0]) w1)) := Lib.hid (fun w1 => by have := refDay_any Y m D w1; rw [hof] at this; exact this)
  clear hof
  rw [Int.toNat_natCast, Int.toNat_natCast] at hs
  have hsz : s.size = 10 := by
    have : s.data.toList.length = 10 := by rw [hs]; rfl
    simpa using this
  obtain ⟨mx, hmx⟩ := hw.most
  have HS0 := Tryd.strings_Split s ⟨#[45]⟩ mx w (by omega) hmx (by decide)
  have hcnt : Lib.countB s ⟨#[45]⟩ = 2 := by
    show Lib.count s.data.toList [45] = 2
    rw [hs]; exact Dy.txt_count Y m D (by omega) (by omega) (by omega)
  rw [hcnt, Dy.txt_splitB s Y m D (by omega) (by omega) hs] at HS0
  have HS := Lib.hid HS0
  clear HS0 hcnt hmx
  obtain ⟨a, ha⟩ : ∃ a : ByteArray, a = ⟨(Dy.four4 Y).toArray⟩ := ⟨_, rfl⟩
  obtain ⟨b, hb⟩ : ∃ a : ByteArray, a = ⟨(Dy.two2 m).toArray⟩ := ⟨_, rfl⟩
  obtain ⟨c, hc⟩ : ∃ a : ByteArray, a = ⟨(Dy.two2 D).toArray⟩ := ⟨_, rfl⟩
  have HA : Hid (∀ w1, Calls Tryd.prog 32 #[.string a] w1 (Gives (.tuple #[.int .i64 Y, .nilIface]) w1)) := Lib.hid (fun w1 => atoi_is a Y w1 (by rw [ha]; show 4 ≤ 18; omega) (by rw [ha]; exact Dy.atoi_four4 Y (by omega)))
  have HB : Hid (∀ w1, Calls Tryd.prog 32 #[.string b] w1 (Gives (.tuple #[.int .i64 m, .nilIface]) w1)) := Lib.hid (fun w1 => atoi_is b m w1 (by rw [hb]; show 2 ≤ 18; omega) (by rw [hb]; exact Dy.atoi_two2 m (by omega)))
  have HC : Hid (∀ w1, Calls Tryd.prog 32 #[.string c] w1 (Gives (.tuple #[.int .i64 D, .nilIface]) w1)) := Lib.hid (fun w1 => atoi_is c D w1 (by rw [hc]; show 2 ≤ 18; omega) (by rw [hc]; exact Dy.atoi_two2 D (by omega)))
  rw [← ha, ← hb, ← hc] at HS
  have H0 := Lib.hid h0
  have H1 := Lib.hid h1
  clear ha hb hc hs hi h0 h1
  go_enter Tryd.func25, Tryd.ntmps25
  go_wp2_with fail
  refine HS.out.mono ?_
  rintro e w1 ⟨rfl, hw1⟩
  have hb1 : Below w.heap.size w w1 := by rw [hw1]; exact (Below.refl _ _).alloc (Nat.le_refl _) _
  have hlt : w.heap.size < w1.heap.size := by rw [hw1]; simp
  have c0 : w1.cell? ⟨w.heap.size, 0, none⟩ = some (.string a) := by rw [hw1]; simp
  have c1 : w1.cell? ⟨w.heap.size, 1, none⟩ = some (.string b) := by rw [hw1]; simp
  have c2 : w1.cell? ⟨w.heap.size, 2, none⟩ = some (.string c) := by rw [hw1]; simp
  clear hw1
  go_wp2_with fail
  refine (HA.out _).mono ?_
  rintro e w2 ⟨rfl, hb2⟩
  have d1 : w2.cell? ⟨w.heap.size, 1, none⟩ = some (.string b) := by rw [hb2.cell (p := ⟨w.heap.size, 1, none⟩) hlt, c1]
  have d2 : w2.cell? ⟨w.heap.size, 2, none⟩ = some (.string c) := by rw [hb2.cell (p := ⟨w.heap.size, 2, none⟩) hlt, c2]
  have hlt2 : w.heap.size < w2.heap.size := Nat.lt_of_lt_of_le hlt hb2.size
  go_wp2_with fail
  refine (HB.out _).mono ?_
  rintro e w3 ⟨rfl, hb3⟩
  have e2 : w3.cell? ⟨w.heap.size, 2, none⟩ = some (.string c) := by rw [hb3.cell (p := ⟨w.heap.size, 2, none⟩) hlt2, d2]
  go_wp2_with fail
  refine (HC.out _).mono ?_
  rintro e w4 ⟨rfl, hb4⟩
  have hb14 : Below w.heap.size w w4 := ((hb1.step hb2).step hb3).step hb4
  have hwr4 := hw.below hb14
  go_wp2_with fail
  refine (HO.out _).mono ?_
  rintro e w5 ⟨rfl, rfl⟩
  go_wp2_with fail
  refine (refDate_ok n _ hwr4.dw H0.out H1.out).mono ?_
  rintro e w6 ⟨l, hl, rfl, hb6⟩
  have hq' : (l == s.toList) = true := by rw [Go.ByteArray.toList_eq, Dy.text_uniq hl HT.out]; simp
  go_wp2_with fail
  go_ret2
  exact ⟨rfl, hb14.step hb6⟩
end Go.Proofs.YtmkfdmbjeppndaaDoor
