/- Joined: RefD, RefR. -/
import Derived.Test.YtjmeefmofbpbnaaGreatDoorJoined15
import Derived.Test.YtjmeefmofbpbnaaGreatDoorJoined3
import Derived.Lib.SplitLaws

section
/- tallymanref.Date: what it hands back. -/
namespace Go.Proofs.YtjmeefmofbpbnaaGreatDoor
open Go.RowKit

theorem Dy.dec3 (k : Nat) (h : k < 100) : Lib.decDigits (100 + k) = 49 :: Dy.two2 k := by
  rw [Lib.decDigits, dif_neg (by omega), Lib.decDigits_two (by omega) (by omega)]
  rw [show (100 + k) / 10 / 10 = 1 by omega, show (100 + k) / 10 % 10 = k / 10 by omega, show (100 + k) % 10 = k % 10 by omega]
  rfl

set_option maxHeartbeats 400000 in
theorem refTwo (k : Nat) (w : World) (hw : DW w) (h : k < 100) :
    Calls Tryz.prog 45 #[.int .i64 k] w (Gives (.string ⟨(Dy.two2 k).toArray⟩) w) := by
  obtain ⟨s, hs⟩ : ∃ s : ByteArray, s = ⟨(Lib.decDigits (100 + k)).toArray⟩ := ⟨_, rfl⟩
  have hsz : s.size = 3 := by rw [hs, Dy.dec3 k h]; rfl
  have he : s.extract 1 s.size = ⟨(Dy.two2 k).toArray⟩ := by rw [hsz, hs, Dy.dec3 k h]; rfl
  have f1 := slice_from (P := Tryz.prog) 9 Tryz.underlying9 s 1 1 rfl (by omega)
  rw [he] at f1
  have hI : Hid (Calls Tryz.prog 22 #[.int .i64 (100 + (k : Int))] w (Gives (.string s) w)) := by
    refine Lib.hid ((Tryz.strconv_Itoa (100 + (k : Int)) (by omega) (by omega) _ hw.pow).mono ?_)
    rintro e w1 ⟨rfl, q, os, rfl⟩
    refine ⟨?_, below_grow _ _ _⟩
    rw [hs, show (100 + (k : Int)) = ((100 + k : Nat) : Int) by omega, itoa_nat]
  clear hs he
  go_enter Tryz.func45, Tryz.ntmps45
  go_wp2_with fail
  refine hI.out.mono ?_
  rintro e w1 ⟨rfl, hb⟩
  go_wp2_with fail
  go_ret
  exact ⟨rfl, hb⟩

set_option maxHeartbeats 400000 in
theorem refDate_bad (n : Int) (w : World) (h : n < 0 ∨ 99999 < n) :
    Calls Tryz.prog 21 #[.int .i64 n] w (Gives (.tuple #[.string ⟨#[]⟩, .int .i64 1]) w) := by
  have H := Lib.hid h
  clear h
  go_enter Tryz.func21, Tryz.ntmps21
  go_wp2_with fail
  refine (refParts_bad n _ H.out).mono ?_
  rintro e w1 ⟨rfl, rfl⟩
  go_wp2_with fail
  go_ret2
  exact ⟨rfl, Below.refl _ _⟩

set_option maxHeartbeats 800000 in
theorem refDate_ok (n : Int) (w : World) (hw : DW w) (h0 : 0 ≤ n) (h1 : n ≤ 99999) :
    Calls Tryz.prog 21 #[.int .i64 n] w (fun e w' => ∃ l, Dy.Text n l ∧ e = .returned (.tuple #[.string ⟨l.toArray⟩, .int .i64 0]) ∧ Below w.heap.size w w') := by
  go_enter Tryz.func21, Tryz.ntmps21
  go_wp2_with fail
  refine (refParts_ok n _ h0 h1).mono ?_
  rintro e w1 ⟨y, d, m, hi, rfl, rfl⟩
  obtain ⟨Y, rfl⟩ : ∃ Y : Nat, y = Y := ⟨y.toNat, by have := hi.1.1; omega⟩
  obtain ⟨D, rfl⟩ : ∃ D : Nat, d = D := ⟨d.toNat, by have := hi.1.2.2.2.2.1; omega⟩
  have hlen : ((D : Int)) ≤ 31 := by
    have a1 := hi.1.2.2.2.2.2
    have a2 := Dy.len_pos Y m (by have := hi.1.2.2.1; omega) (by have := hi.1.2.2.2.1; omega)
    simp at a1
    omega
  obtain ⟨b1, b2, b3, b4, b5, -⟩ := hi.1
  have HI := Lib.hid hi
  clear hi h0 h1
  obtain ⟨sy, hsy⟩ : ∃ s : ByteArray, s = ⟨(Dy.four4 Y).toArray⟩ := ⟨_, rfl⟩
  obtain ⟨sm, hsm⟩ : ∃ s : ByteArray, s = ⟨(Dy.two2 m).toArray⟩ := ⟨_, rfl⟩
  obtain ⟨sd, hsd⟩ : ∃ s : ByteArray, s = ⟨(Dy.two2 D).toArray⟩ := ⟨_, rfl⟩
  have H4 : Hid (∀ w2, DW w2 → Calls Tryz.prog 22 #[.int .i64 Y] w2 (Gives (.string sy) w2)) := Lib.hid (fun w2 hw2 => by
    refine (Tryz.strconv_Itoa Y (by omega) (by omega) _ hw2.pow).mono ?_
    rintro e w1 ⟨rfl, q, os, rfl⟩
    exact ⟨by rw [hsy, itoa_nat, Dy.dec4 Y (by omega) (by omega)], below_grow _ _ _⟩)
  have HM : Hid (∀ w2, DW w2 → Calls Tryz.prog 45 #[.int .i64 m] w2 (Gives (.string sm) w2)) := Lib.hid (fun w2 hw2 => by rw [hsm]; exact refTwo m w2 hw2 (by omega))
  have HD : Hid (∀ w2, DW w2 → Calls Tryz.prog 45 #[.int .i64 D] w2 (Gives (.string sd) w2)) := Lib.hid (fun w2 hw2 => by rw [hsd]; exact refTwo D w2 hw2 (by omega))
  have HT : Hid ((⟨(Dy.txt Y m D).toArray⟩ : ByteArray) = sy ++ ⟨#[45]⟩ ++ sm ++ ⟨#[45]⟩ ++ sd) := Lib.hid (by rw [hsy, hsm, hsd]; rfl)
  have z1 : sy.size = 4 := by rw [hsy]; rfl
  have z2 : sm.size = 2 := by rw [hsm]; rfl
  have z3 : sd.size = 2 := by rw [hsd]; rfl
  clear hsy hsm hsd
  go_wp2_with fail
  refine (H4.out _ hw).mono ?_
  rintro e w2 ⟨rfl, hb2⟩
  have hw2 := hw.below hb2
  go_wp2_with fail
  refine (HM.out _ hw2).mono ?_
  rintro e w3 ⟨rfl, hb3⟩
  have hw3 := hw2.below hb3
  go_wp2_with fail
  refine (HD.out _ hw3).mono ?_
  rintro e w4 ⟨rfl, hb4⟩
  go_wp2_with fail
  go_ret2
  refine ⟨_, ⟨Y, D, m, HI.out, rfl⟩, ?_, (hb2.step hb3).step hb4⟩
  rw [Int.toNat_natCast, Int.toNat_natCast, HT.out]
  rfl
end Go.Proofs.YtjmeefmofbpbnaaGreatDoor
end

section
/- tallymanref.ParseDate at a text that is no day's: what it hands back. -/
namespace Go.Proofs.YtjmeefmofbpbnaaGreatDoor
open Go.RowKit

theorem split_sizes (sep : ByteArray) : ∀ (k : Nat) (s x : ByteArray), x ∈ Lib.splitB sep 0 k s → x.size ≤ s.size := by
  intro k
  induction k with
  | zero => intro s x hx; rw [Lib.splitB_zero] at hx; simp at hx; subst hx; omega
  | succ k ih =>
    intro s x hx
    unfold Lib.splitB at hx
    split at hx
    · simp at hx; subst hx; omega
    · simp only [List.mem_cons] at hx
      rcases hx with rfl | hx
      · simp; omega
      · have := ih _ _ hx
        simp at this
        omega

set_option maxHeartbeats 800000 in
theorem refParse_no (s : ByteArray) (w : World) (hw : DR w) (hs : s.size ≤ 1000) (hT : ∀ n, 0 ≤ n → n ≤ 99999 → ¬ Dy.Text n s.data.toList) :
    Calls Tryz.prog 29 #[.string s] w (Gives (.tuple #[.int .i64 0, .int .i64 3]) w) := by
  have HT := Lib.hid hT
  clear hT
  obtain ⟨mx, hmx⟩ := hw.most
  have HS := Lib.hid (Tryz.strings_Split s ⟨#[45]⟩ mx w (by omega) hmx (by decide))
  clear hmx
  by_cases hc : Lib.countB s ⟨#[45]⟩ = 2
  · have hlen := Lib.splitB_all ⟨#[45]⟩ (by decide) 0 2 s hc
    have hsz := split_sizes ⟨#[45]⟩ 2 s
    rw [hc] at HS
    generalize Lib.splitB ⟨#[45]⟩ 0 2 s = L at hlen hsz HS
    match L, hlen with
    | [a, b, c], _ =>
      have za : a.size ≤ 1000 := Nat.le_trans (hsz a (by simp)) hs
      have zb : b.size ≤ 1000 := Nat.le_trans (hsz b (by simp)) hs
      have zc : c.size ≤ 1000 := Nat.le_trans (hsz c (by simp)) hs
      clear hsz hc
      go_enter Tryz.func29, Tryz.ntmps29
      go_wp2_with fail
      refine HS.out.mono ?_
      rintro e w1 ⟨rfl, hw1⟩
      have hb1 : Below w.heap.size w w1 := by rw [hw1]; exact (Below.refl _ _).alloc (Nat.le_refl _) _
      have hlt : w.heap.size < w1.heap.size := by rw [hw1]; simp
      have c0 : w1.cell? ⟨w.heap.size, 0, none⟩ = some (.string a) := by rw [hw1]; simp
      have c1 : w1.cell? ⟨w.heap.size, 1, none⟩ = some (.string b) := by rw [hw1]; simp
      have c2 : w1.cell? ⟨w.heap.size, 2, none⟩ = some (.string c) := by rw [hw1]; simp
      have hwr1 := hw.below hb1
      clear hw1
      go_wp2_with fail
      refine (atoi_x a _ hwr1 za).mono ?_
      rintro e w2 ⟨v1, er1, rfl, h1, hb2⟩
      have d1 : w2.cell? ⟨w.heap.size, 1, none⟩ = some (.string b) := by rw [hb2.cell (p := ⟨w.heap.size, 1, none⟩) hlt, c1]
      have d2 : w2.cell? ⟨w.heap.size, 2, none⟩ = some (.string c) := by rw [hb2.cell (p := ⟨w.heap.size, 2, none⟩) hlt, c2]
      have hlt2 : w.heap.size < w2.heap.size := Nat.lt_of_lt_of_le hlt hb2.size
      have hwr2 := hwr1.below hb2
      rcases h1 with rfl | ⟨N1, rfl⟩
      all_goals
        go_wp2_with fail
        refine (atoi_x b _ hwr2 zb).mono ?_
        rintro e w3 ⟨v2, er2, rfl, h2, hb3⟩
        have e2 : w3.cell? ⟨w.heap.size, 2, none⟩ = some (.string c) := by rw [hb3.cell (p := ⟨w.heap.size, 2, none⟩) hlt2, d2]
        have hwr3 := hwr2.below hb3
        rcases h2 with rfl | ⟨N2, rfl⟩
      all_goals
        go_wp2_with fail
        refine (atoi_x c _ hwr3 zc).mono ?_
        rintro e w4 ⟨v3, er3, rfl, h3, hb4⟩
        have hwr4 := hwr3.below hb4
        have hb14 : Below w.heap.size w w4 := ((hb1.step hb2).step hb3).step hb4
        rcases h3 with rfl | ⟨N3, rfl⟩
      all_goals
        go_wp2_with fail
        rcases ho : Dy.ofN v1 v2 v3 with _ | n
        · have HO : Hid (Calls Tryz.prog 51 #[.int .i64 v1, .int .i64 v2, .int .i64 v3] w4 (Same (.tuple #[.int .i64 0, .int .i64 1]) w4)) := Lib.hid (by have := refDay_any v1 v2 v3 w4; rw [ho] at this; exact this)
          clear ho
          refine HO.out.mono ?_
          rintro e w5 ⟨rfl, rfl⟩
          go_wp2_with fail
          go_ret2
          exact ⟨rfl, hb14⟩
        · have HO : Hid (Calls Tryz.prog 51 #[.int .i64 v1, .int .i64 v2, .int .i64 v3] w4 (Same (.tuple #[.int .i64 n, .int .i64 0]) w4)) := Lib.hid (by have := refDay_any v1 v2 v3 w4; rw [ho] at this; exact this)
          obtain ⟨-, n0, n1⟩ := Dy.ofN_some ho
          have H0 := Lib.hid n0
          have H1 := Lib.hid n1
          clear ho n0 n1
          refine HO.out.mono ?_
          rintro e w5 ⟨rfl, rfl⟩
          go_wp2_with fail
          first
            | (go_ret2; exact ⟨rfl, hb14⟩)
            | (refine (refDate_ok n _ hwr4.dw H0.out H1.out).mono ?_
               rintro e w6 ⟨l, hl, rfl, hb6⟩
               have hq' : (l == s.toList) = false := by
                 rw [Go.ByteArray.toList_eq]
                 apply Classical.byContradiction
                 intro hc
                 simp at hc
                 exact HT.out n H0.out H1.out (hc ▸ hl)
               go_wp2_with fail
               go_ret2
               exact ⟨rfl, hb14.step hb6⟩)
  · generalize Lib.splitB ⟨#[45]⟩ 0 (Lib.countB s ⟨#[45]⟩) s = L at HS
    generalize Lib.countB s ⟨#[45]⟩ = k at hc HS
    have hc' : (((k + 1 : Nat) : Int) == 3) = false := by simp; omega
    go_enter Tryz.func29, Tryz.ntmps29
    go_wp2_with fail
    refine HS.out.mono ?_
    rintro e w1 ⟨rfl, hw1⟩
    have hb1 : Below w.heap.size w w1 := by rw [hw1]; exact (Below.refl _ _).alloc (Nat.le_refl _) _
    clear hw1
    go_wp2_with fail
    go_ret2
    exact ⟨rfl, hb1⟩
end Go.Proofs.YtjmeefmofbpbnaaGreatDoor
end
