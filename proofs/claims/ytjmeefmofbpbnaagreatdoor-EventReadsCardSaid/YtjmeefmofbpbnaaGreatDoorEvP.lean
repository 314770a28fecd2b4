/- event.Print: what it hands back. -/
import Derived.Test.YtjmeefmofbpbnaaGreatDoorJoined11
import Derived.Test.YtjmeefmofbpbnaaGreatDoorJoined3
import Derived.Test.YtjmeefmofbpbnaaGreatDoorJoined2
import Derived.Deep.RegionHeld3
import Derived.Laws.Concat
namespace Go.Proofs.YtjmeefmofbpbnaaGreatDoor
open Go.RowKit

/-- What the walks over events ask of the world. -/
structure VW (w : World) : Prop where
  dw : DW w
  nw : NW w
  w1 : w.cell? ⟨0, 1, none⟩ = some (.string ⟨#[105, 110]⟩)
  w2 : w.cell? ⟨0, 2, none⟩ = some (.string ⟨#[99, 104, 97, 114, 103, 101]⟩)
  w3 : w.cell? ⟨0, 3, none⟩ = some (.string ⟨#[111, 117, 116]⟩)
  w4 : w.cell? ⟨0, 4, none⟩ = some (.string ⟨#[99, 111, 117, 110, 116]⟩)
theorem VW.below {w w' : World} (h : VW w) (hb : Below w.heap.size w w') : VW w' :=
  ⟨h.dw.below hb, h.nw.below hb, by rw [hb.cell (p := ⟨0, 1, none⟩) (cell_lt h.w1), h.w1], by rw [hb.cell (p := ⟨0, 2, none⟩) (cell_lt h.w2), h.w2],
    by rw [hb.cell (p := ⟨0, 3, none⟩) (cell_lt h.w3), h.w3], by rw [hb.cell (p := ⟨0, 4, none⟩) (cell_lt h.w4), h.w4]⟩

theorem cat_at' (a b c : ByteArray) (h : c = a ++ b) (ha : a.size ≤ 1000000000) (hb : b.size ≤ 1000000000) (w : World) : (Op.stringOp .add a b).run Tryz.prog w = .ok (.string c) w := by
  rw [h]
  exact run_string_add_sum w a b (by omega)
theorem cat_len (a b : ByteArray) : (a ++ b).size = a.size + b.size := ByteArray.size_append





set_option maxHeartbeats 4000000 in
set_option maxRecDepth 100000 in
theorem print_in (i : Int) (s : ByteArray) (q p o d : Int) (w : World) (hw : VW w) (hs : s.size ≤ 1000000) (hR : Ev.RightP s.data.toList 1 q p o d) :
    Calls Tryz.prog 11 #[.agg #[.int .i64 i, .string s, .int .i64 1, .int .i64 q, .int .i64 p, .int .i64 o, .int .i64 d]] w
      (fun e w' => ∃ l, Ev.Text s.data.toList 1 q p o d l ∧ e = .returned (.tuple #[.string ⟨l.toArray⟩, .nilIface]) ∧ Below w.heap.size w w') := by
  have HRt : Hid (∀ w1, Calls Tryz.prog 5 #[.agg #[.int .i64 i, .string s, .int .i64 1, .int .i64 q, .int .i64 p, .int .i64 o, .int .i64 d]] w1 (Gives (.bool true) w1)) := Lib.hid (fun w1 => by
    have := right_any i s 1 q p o d w1 hs
    rw [show Ev.rightB s.data.toList 1 q p o d = true from decide_eq_true hR] at this
    exact this)
  have hlen := hR.1.2.1
  have hsl : s.data.toList.length = s.size := by simp
  obtain ⟨hN, d0, d1, hk⟩ := hR
  have hq : 1 ≤ q ∧ q ≤ 100000 ∧ 0 ≤ p ∧ p ≤ 1000000 := by omega
  obtain ⟨q0, q1, p0, p1⟩ := hq
  have hs10 : s.size ≤ 10 := by omega
  clear hN hk hsl hlen hs
  have hg1 := cell_lt hw.w1
  go_enter Tryz.func11, Tryz.ntmps11
  go_wp2_with fail
  refine (HRt.out _).mono ?_
  rintro e w1 ⟨rfl, hb1⟩
  have hb : Below w.heap.size w w1 := ((Below.refl _ _).alloc (Nat.le_refl _) _).step hb1
  have c1 := hb1.cell (p := ⟨w.heap.size, 1, none⟩) (by simp)
  have c2 := hb1.cell (p := ⟨w.heap.size, 2, none⟩) (by simp)
  have c3 := hb1.cell (p := ⟨w.heap.size, 3, none⟩) (by simp)
  have c4 := hb1.cell (p := ⟨w.heap.size, 4, none⟩) (by simp)
  have c6 := hb1.cell (p := ⟨w.heap.size, 6, none⟩) (by simp)
  have hlt : w.heap.size < w1.heap.size := by have := hb1.size; simp at this; omega
  simp at c1 c2 c3 c4 c6
  clear hb1
  go_wp2_with fail
  refine (day_print_ok d _ (hw.dw.below hb) d0 d1).mono ?_
  rintro e w2 ⟨dl, hdl, rfl, hb2⟩
  have HDL := Lib.hid hdl
  have hdz : dl.length = 10 := by obtain ⟨y, dd, m, -, e⟩ := hdl; rw [e]; rfl
  have e1 : w2.cell? ⟨w.heap.size, 1, none⟩ = some (.string s) := by rw [hb2.cell (p := ⟨w.heap.size, 1, none⟩) hlt, c1]
  have e2 : w2.cell? ⟨w.heap.size, 2, none⟩ = some (.int .i64 1) := by rw [hb2.cell (p := ⟨w.heap.size, 2, none⟩) hlt, c2]
  have e3 : w2.cell? ⟨w.heap.size, 3, none⟩ = some (.int .i64 q) := by rw [hb2.cell (p := ⟨w.heap.size, 3, none⟩) hlt, c3]
  have e4 : w2.cell? ⟨w.heap.size, 4, none⟩ = some (.int .i64 p) := by rw [hb2.cell (p := ⟨w.heap.size, 4, none⟩) hlt, c4]
  have hlt2 : w.heap.size < w2.heap.size := Nat.lt_of_lt_of_le hlt hb2.size
  replace hb := hb.step hb2
  have hw2 := hw.below hb
  have hwd := hw2.w1
  clear hdl hb2 c1 c2 c3 c4 c6
  obtain ⟨D, hD⟩ : ∃ D : ByteArray, D = ⟨dl.toArray⟩ := ⟨_, rfl⟩
  rw [← hD]
  have zD : D.size = 10 := by rw [hD]; show dl.toArray.size = 10; simp [hdz]
  obtain ⟨A1, hA1⟩ : ∃ A : ByteArray, A = D ++ ⟨#[32]⟩ := ⟨_, rfl⟩
  have z1 : A1.size = 11 := by rw [hA1, cat_len, zD]; rfl
  obtain ⟨A2, hA2⟩ : ∃ A : ByteArray, A = A1 ++ ⟨#[105, 110]⟩ := ⟨_, rfl⟩
  have z2 : A2.size = 13 := by rw [hA2, cat_len, z1]; rfl
  obtain ⟨A3, hA3⟩ : ∃ A : ByteArray, A = A2 ++ ⟨#[32]⟩ := ⟨_, rfl⟩
  have z3 : A3.size = 14 := by rw [hA3, cat_len, z2]; rfl
  obtain ⟨A4, hA4⟩ : ∃ A : ByteArray, A = A3 ++ s := ⟨_, rfl⟩
  have z4 : A4.size ≤ 24 := by rw [hA4, cat_len, z3]; omega
  obtain ⟨A5, hA5⟩ : ∃ A : ByteArray, A = A4 ++ ⟨#[32]⟩ := ⟨_, rfl⟩
  have z5 : A5.size ≤ 25 := by rw [hA5, cat_len]; show _ + 1 ≤ _; omega
  have k1 := cat_at' D ⟨#[32]⟩ A1 hA1 (by omega) (by decide)
  have k2 := cat_at' A1 ⟨#[105, 110]⟩ A2 hA2 (by omega) (by decide)
  have k3 := cat_at' A2 ⟨#[32]⟩ A3 hA3 (by omega) (by decide)
  have k4 := cat_at' A3 s A4 hA4 (by omega) (by omega)
  have k5 := cat_at' A4 ⟨#[32]⟩ A5 hA5 (by omega) (by decide)
  have HA : Hid (A5.data.toList = dl ++ [32] ++ [105, 110] ++ [32] ++ s.data.toList ++ [32]) := Lib.hid (by rw [hA5, hA4, hA3, hA2, hA1, hD]; simp [ByteArray.data_append])
  have Z5 := Lib.hid z5
  clear hA1 hA2 hA3 hA4 hA5 hD z1 z2 z3 z4 z5 zD hdz
  go_wp2
  go_quiet (fail)
  generalize hw3 : World.drewN w2 _ = w3
  have hb3 : Below w.heap.size w w3 := by rw [← hw3]; exact below_drewN hb _
  have f2 : w3.cell? ⟨w.heap.size, 2, none⟩ = some (.int .i64 1) := by rw [← hw3]; exact e2
  have f3 : w3.cell? ⟨w.heap.size, 3, none⟩ = some (.int .i64 q) := by rw [← hw3]; exact e3
  have f4 : w3.cell? ⟨w.heap.size, 4, none⟩ = some (.int .i64 p) := by rw [← hw3]; exact e4
  have hlt3 : w.heap.size < w3.heap.size := by rw [← hw3]; exact hlt2
  have hw3' := hw.below hb3
  clear hw3 e1 e2 e3 e4 hwd k1 k2 k3 k4 k5 hb hw2 hlt2 hlt
  obtain ⟨si, hsi⟩ : ∃ x : ByteArray, x = ⟨(Lib.itoa q).toArray⟩ := ⟨_, rfl⟩
  obtain ⟨sp, hsp⟩ : ∃ x : ByteArray, x = ⟨(Mn.prt p).toArray⟩ := ⟨_, rfl⟩
  have HI : Hid (∀ w', VW w' → Calls Tryz.prog 22 #[.int .i64 q] w' (Gives (.string si) w')) := Lib.hid (fun w' h => by rw [hsi]; exact NW.itoa q w' h.nw (by omega) (by omega))
  have HP : Hid (∀ w', Calls Tryz.prog 25 #[.int .i64 p] w' (Gives (.string sp) w')) := Lib.hid (fun w' => by rw [hsp]; exact print_any p w' (by omega) (by omega))
  have zi : si.size ≤ 30 := by
    rw [hsi]; show (Lib.itoa q).toArray.size ≤ 30
    rw [List.size_toArray, Lib.itoa, if_neg (by omega), Lib.decDigits_length]
    have := Mn.nDigits_le 13 q.toNat (by omega) (by omega)
    omega
  have zp : sp.size ≤ 30 := by
    rw [hsp]; show (Mn.prt p).toArray.size ≤ 30
    rw [List.size_toArray]
    exact Mn.prt_len p (by omega) (by omega)
  have z5 := Z5.out
  obtain ⟨B1, hB1⟩ : ∃ A : ByteArray, A = A5 ++ si := ⟨_, rfl⟩
  have y1 : B1.size ≤ 55 := by rw [hB1, cat_len]; omega
  obtain ⟨B2, hB2⟩ : ∃ A : ByteArray, A = B1 ++ ⟨#[32, 97, 116, 32]⟩ := ⟨_, rfl⟩
  have y2 : B2.size ≤ 59 := by rw [hB2, cat_len]; show _ + 4 ≤ _; omega
  obtain ⟨B3, hB3⟩ : ∃ A : ByteArray, A = B2 ++ sp := ⟨_, rfl⟩
  have k1 := cat_at' A5 si B1 hB1 (by omega) (by omega)
  have k2 := cat_at' B1 ⟨#[32, 97, 116, 32]⟩ B2 hB2 (by omega) (by decide)
  have k3 := cat_at' B2 sp B3 hB3 (by omega) (by omega)
  have HB : Hid (B3.data.toList = dl ++ [32] ++ Ev.word 1 ++ [32] ++ s.data.toList ++ [32] ++ Ev.tail 1 q p o) := Lib.hid (by
    rw [hB3, hB2, hB1, ByteArray.data_append, ByteArray.data_append, ByteArray.data_append]
    simp only [Array.toList_append]
    rw [HA.out, hsi, hsp]
    simp [Ev.word, Ev.tail])
  clear hsi hsp hB1 hB2 hB3 z5 zi zp y1 y2
  have g3 : w3.drew.cell? ⟨w.heap.size, 3, none⟩ = some (.int .i64 q) := f3
  have g4 : w3.drew.cell? ⟨w.heap.size, 4, none⟩ = some (.int .i64 p) := f4
  have gb : Below w.heap.size w w3.drew := below_drewN hb3 1
  have gw : VW w3.drew := hw.below gb
  have gl : w.heap.size < w3.drew.heap.size := hlt3
  go_wp2_with fail
  go_region_held3 (fun w' => w'.cell? ⟨w.heap.size, 3, none⟩ = some (.int .i64 q) ∧ w'.cell? ⟨w.heap.size, 4, none⟩ = some (.int .i64 p) ∧ VW w' ∧ Below w.heap.size w w' ∧ w.heap.size < w'.heap.size)
    (first
      | exact ⟨g3, g4, gw, gb, gl⟩
      | exact ⟨f3, f4, hw3', hb3, hlt3⟩
      | (go_split_ands
         refine ⟨?_, ?_, ?_, ?_, ?_⟩
         · (rw [hb5.cell (p := ⟨w.heap.size, 3, none⟩) (by assumption)]; assumption)
         · (rw [hb5.cell (p := ⟨w.heap.size, 4, none⟩) (by assumption)]; assumption)
         · exact VW.below (by assumption) hb5
         · exact Below.step (by assumption) hb5
         · exact Nat.lt_of_lt_of_le (by assumption) hb5.size)
      | (go_split_ands
         refine ⟨?_, ?_, ?_, ?_, ?_⟩
         · (rw [hb4.cell (p := ⟨w.heap.size, 3, none⟩) (by assumption)]; assumption)
         · (rw [hb4.cell (p := ⟨w.heap.size, 4, none⟩) (by assumption)]; assumption)
         · exact VW.below (by assumption) hb4
         · exact Below.step (by assumption) hb4
         · exact Nat.lt_of_lt_of_le (by assumption) hb4.size))
    (first
      | (go_at_call 22; refine (HI.out _ (by go_split_ands; assumption)).mono ?_; rintro e w4 ⟨rfl, hb4⟩)
      | (go_at_call 25; refine (HP.out _).mono ?_; rintro e w5 ⟨rfl, hb5⟩))
  all_goals
    go_wp2
    go_ret2
    refine ⟨_, ⟨dl, HDL.out, rfl⟩, ?_, ?_⟩
    · rw [← HB.out]; try rfl
    · first
        | exact (gb.step hb4).step hb5
        | exact (gb.step hb5).step hb4

set_option maxHeartbeats 4000000 in
set_option maxRecDepth 100000 in
theorem print_charge (i : Int) (s : ByteArray) (q p o d : Int) (w : World) (hw : VW w) (hs : s.size ≤ 1000000) (ho : o ≤ 9223372036854775807) (hR : Ev.RightP s.data.toList 2 q p o d) :
    Calls Tryz.prog 11 #[.agg #[.int .i64 i, .string s, .int .i64 2, .int .i64 q, .int .i64 p, .int .i64 o, .int .i64 d]] w
      (fun e w' => ∃ l, Ev.Text s.data.toList 2 q p o d l ∧ e = .returned (.tuple #[.string ⟨l.toArray⟩, .nilIface]) ∧ Below w.heap.size w w') := by
  have HRt : Hid (∀ w1, Calls Tryz.prog 5 #[.agg #[.int .i64 i, .string s, .int .i64 2, .int .i64 q, .int .i64 p, .int .i64 o, .int .i64 d]] w1 (Gives (.bool true) w1)) := Lib.hid (fun w1 => by
    have := right_any i s 2 q p o d w1 hs
    rw [show Ev.rightB s.data.toList 2 q p o d = true from decide_eq_true hR] at this
    exact this)
  have hlen := hR.1.2.1
  have hsl : s.data.toList.length = s.size := by simp
  obtain ⟨hN, d0, d1, hk⟩ := hR
  have hq : 1 ≤ o ∧ 0 ≤ p ∧ p ≤ 100000000000 := by omega
  obtain ⟨o0, p0, p1⟩ := hq
  have hs10 : s.size ≤ 10 := by omega
  clear hN hk hsl hlen hs
  have hg1 := cell_lt hw.w2
  go_enter Tryz.func11, Tryz.ntmps11
  go_wp2_with fail
  refine (HRt.out _).mono ?_
  rintro e w1 ⟨rfl, hb1⟩
  have hb : Below w.heap.size w w1 := ((Below.refl _ _).alloc (Nat.le_refl _) _).step hb1
  have c1 := hb1.cell (p := ⟨w.heap.size, 1, none⟩) (by simp)
  have c2 := hb1.cell (p := ⟨w.heap.size, 2, none⟩) (by simp)
  have c3 := hb1.cell (p := ⟨w.heap.size, 5, none⟩) (by simp)
  have c4 := hb1.cell (p := ⟨w.heap.size, 4, none⟩) (by simp)
  have c6 := hb1.cell (p := ⟨w.heap.size, 6, none⟩) (by simp)
  have hlt : w.heap.size < w1.heap.size := by have := hb1.size; simp at this; omega
  simp at c1 c2 c3 c4 c6
  clear hb1
  go_wp2_with fail
  refine (day_print_ok d _ (hw.dw.below hb) d0 d1).mono ?_
  rintro e w2 ⟨dl, hdl, rfl, hb2⟩
  have HDL := Lib.hid hdl
  have hdz : dl.length = 10 := by obtain ⟨y, dd, m, -, e⟩ := hdl; rw [e]; rfl
  have e1 : w2.cell? ⟨w.heap.size, 1, none⟩ = some (.string s) := by rw [hb2.cell (p := ⟨w.heap.size, 1, none⟩) hlt, c1]
  have e2 : w2.cell? ⟨w.heap.size, 2, none⟩ = some (.int .i64 2) := by rw [hb2.cell (p := ⟨w.heap.size, 2, none⟩) hlt, c2]
  have e3 : w2.cell? ⟨w.heap.size, 5, none⟩ = some (.int .i64 o) := by rw [hb2.cell (p := ⟨w.heap.size, 5, none⟩) hlt, c3]
  have e4 : w2.cell? ⟨w.heap.size, 4, none⟩ = some (.int .i64 p) := by rw [hb2.cell (p := ⟨w.heap.size, 4, none⟩) hlt, c4]
  have hlt2 : w.heap.size < w2.heap.size := Nat.lt_of_lt_of_le hlt hb2.size
  replace hb := hb.step hb2
  have hw2 := hw.below hb
  have hwd := hw2.w2
  clear hdl hb2 c1 c2 c3 c4 c6
  obtain ⟨D, hD⟩ : ∃ D : ByteArray, D = ⟨dl.toArray⟩ := ⟨_, rfl⟩
  rw [← hD]
  have zD : D.size = 10 := by rw [hD]; show dl.toArray.size = 10; simp [hdz]
  obtain ⟨A1, hA1⟩ : ∃ A : ByteArray, A = D ++ ⟨#[32]⟩ := ⟨_, rfl⟩
  have z1 : A1.size = 11 := by rw [hA1, cat_len, zD]; rfl
  obtain ⟨A2, hA2⟩ : ∃ A : ByteArray, A = A1 ++ ⟨#[99, 104, 97, 114, 103, 101]⟩ := ⟨_, rfl⟩
  have z2 : A2.size = 17 := by rw [hA2, cat_len, z1]; rfl
  obtain ⟨A3, hA3⟩ : ∃ A : ByteArray, A = A2 ++ ⟨#[32]⟩ := ⟨_, rfl⟩
  have z3 : A3.size = 18 := by rw [hA3, cat_len, z2]; rfl
  obtain ⟨A4, hA4⟩ : ∃ A : ByteArray, A = A3 ++ s := ⟨_, rfl⟩
  have z4 : A4.size ≤ 28 := by rw [hA4, cat_len, z3]; omega
  obtain ⟨A5, hA5⟩ : ∃ A : ByteArray, A = A4 ++ ⟨#[32]⟩ := ⟨_, rfl⟩
  have z5 : A5.size ≤ 29 := by rw [hA5, cat_len]; show _ + 1 ≤ _; omega
  have k1 := cat_at' D ⟨#[32]⟩ A1 hA1 (by omega) (by decide)
  have k2 := cat_at' A1 ⟨#[99, 104, 97, 114, 103, 101]⟩ A2 hA2 (by omega) (by decide)
  have k3 := cat_at' A2 ⟨#[32]⟩ A3 hA3 (by omega) (by decide)
  have k4 := cat_at' A3 s A4 hA4 (by omega) (by omega)
  have k5 := cat_at' A4 ⟨#[32]⟩ A5 hA5 (by omega) (by decide)
  have HA : Hid (A5.data.toList = dl ++ [32] ++ [99, 104, 97, 114, 103, 101] ++ [32] ++ s.data.toList ++ [32]) := Lib.hid (by rw [hA5, hA4, hA3, hA2, hA1, hD]; simp [ByteArray.data_append])
  have Z5 := Lib.hid z5
  clear hA1 hA2 hA3 hA4 hA5 hD z1 z2 z3 z4 z5 zD hdz
  go_wp2
  go_quiet (fail)
  generalize hw3 : World.drewN w2 _ = w3
  have hb3 : Below w.heap.size w w3 := by rw [← hw3]; exact below_drewN hb _
  have f2 : w3.cell? ⟨w.heap.size, 2, none⟩ = some (.int .i64 2) := by rw [← hw3]; exact e2
  have f3 : w3.cell? ⟨w.heap.size, 5, none⟩ = some (.int .i64 o) := by rw [← hw3]; exact e3
  have f4 : w3.cell? ⟨w.heap.size, 4, none⟩ = some (.int .i64 p) := by rw [← hw3]; exact e4
  have hlt3 : w.heap.size < w3.heap.size := by rw [← hw3]; exact hlt2
  have hw3' := hw.below hb3
  clear hw3 e1 e2 e3 e4 hwd k1 k2 k3 k4 k5 hb hw2 hlt2 hlt
  obtain ⟨si, hsi⟩ : ∃ x : ByteArray, x = ⟨(Lib.itoa o).toArray⟩ := ⟨_, rfl⟩
  obtain ⟨sp, hsp⟩ : ∃ x : ByteArray, x = ⟨(Mn.prt p).toArray⟩ := ⟨_, rfl⟩
  have HI : Hid (∀ w', VW w' → Calls Tryz.prog 22 #[.int .i64 o] w' (Gives (.string si) w')) := Lib.hid (fun w' h => by rw [hsi]; exact NW.itoa o w' h.nw (by omega) (by omega))
  have HP : Hid (∀ w', Calls Tryz.prog 25 #[.int .i64 p] w' (Gives (.string sp) w')) := Lib.hid (fun w' => by rw [hsp]; exact print_any p w' (by omega) (by omega))
  have zi : si.size ≤ 30 := by
    rw [hsi]; show (Lib.itoa o).toArray.size ≤ 30
    rw [List.size_toArray, Lib.itoa, if_neg (by omega), Lib.decDigits_length]
    have := Mn.nDigits_le 19 o.toNat (by omega) (by omega)
    omega
  have zp : sp.size ≤ 30 := by
    rw [hsp]; show (Mn.prt p).toArray.size ≤ 30
    rw [List.size_toArray]
    exact Mn.prt_len p (by omega) (by omega)
  have z5 := Z5.out
  obtain ⟨B1, hB1⟩ : ∃ A : ByteArray, A = A5 ++ sp := ⟨_, rfl⟩
  have y1 : B1.size ≤ 59 := by rw [hB1, cat_len]; omega
  obtain ⟨B2, hB2⟩ : ∃ A : ByteArray, A = B1 ++ ⟨#[32, 102, 111, 114, 32]⟩ := ⟨_, rfl⟩
  have y2 : B2.size ≤ 64 := by rw [hB2, cat_len]; show _ + 5 ≤ _; omega
  obtain ⟨B3, hB3⟩ : ∃ A : ByteArray, A = B2 ++ si := ⟨_, rfl⟩
  have k1 := cat_at' A5 sp B1 hB1 (by omega) (by omega)
  have k2 := cat_at' B1 ⟨#[32, 102, 111, 114, 32]⟩ B2 hB2 (by omega) (by decide)
  have k3 := cat_at' B2 si B3 hB3 (by omega) (by omega)
  have HB : Hid (B3.data.toList = dl ++ [32] ++ Ev.word 2 ++ [32] ++ s.data.toList ++ [32] ++ Ev.tail 2 q p o) := Lib.hid (by
    rw [hB3, hB2, hB1, ByteArray.data_append, ByteArray.data_append, ByteArray.data_append]
    simp only [Array.toList_append]
    rw [HA.out, hsi, hsp]
    simp [Ev.word, Ev.tail])
  clear hsi hsp hB1 hB2 hB3 z5 zi zp y1 y2
  have g3 : w3.drew.cell? ⟨w.heap.size, 5, none⟩ = some (.int .i64 o) := f3
  have g4 : w3.drew.cell? ⟨w.heap.size, 4, none⟩ = some (.int .i64 p) := f4
  have gb : Below w.heap.size w w3.drew := below_drewN hb3 1
  have gw : VW w3.drew := hw.below gb
  have gl : w.heap.size < w3.drew.heap.size := hlt3
  go_wp2_with fail
  go_region_held3 (fun w' => w'.cell? ⟨w.heap.size, 5, none⟩ = some (.int .i64 o) ∧ w'.cell? ⟨w.heap.size, 4, none⟩ = some (.int .i64 p) ∧ VW w' ∧ Below w.heap.size w w' ∧ w.heap.size < w'.heap.size)
    (first
      | exact ⟨g3, g4, gw, gb, gl⟩
      | exact ⟨f3, f4, hw3', hb3, hlt3⟩
      | (go_split_ands
         refine ⟨?_, ?_, ?_, ?_, ?_⟩
         · (rw [hb5.cell (p := ⟨w.heap.size, 5, none⟩) (by assumption)]; assumption)
         · (rw [hb5.cell (p := ⟨w.heap.size, 4, none⟩) (by assumption)]; assumption)
         · exact VW.below (by assumption) hb5
         · exact Below.step (by assumption) hb5
         · exact Nat.lt_of_lt_of_le (by assumption) hb5.size)
      | (go_split_ands
         refine ⟨?_, ?_, ?_, ?_, ?_⟩
         · (rw [hb4.cell (p := ⟨w.heap.size, 5, none⟩) (by assumption)]; assumption)
         · (rw [hb4.cell (p := ⟨w.heap.size, 4, none⟩) (by assumption)]; assumption)
         · exact VW.below (by assumption) hb4
         · exact Below.step (by assumption) hb4
         · exact Nat.lt_of_lt_of_le (by assumption) hb4.size))
    (first
      | (go_at_call 22; refine (HI.out _ (by go_split_ands; assumption)).mono ?_; rintro e w4 ⟨rfl, hb4⟩)
      | (go_at_call 25; refine (HP.out _).mono ?_; rintro e w5 ⟨rfl, hb5⟩))
  all_goals
    go_wp2
    go_ret2
    refine ⟨_, ⟨dl, HDL.out, rfl⟩, ?_, ?_⟩
    · rw [← HB.out]; try rfl
    · first
        | exact (gb.step hb4).step hb5
        | exact (gb.step hb5).step hb4

set_option maxHeartbeats 4000000 in
set_option maxRecDepth 100000 in
theorem print_out (i : Int) (s : ByteArray) (q p o d : Int) (w : World) (hw : VW w) (hs : s.size ≤ 1000000) (hR : Ev.RightP s.data.toList 3 q p o d) :
    Calls Tryz.prog 11 #[.agg #[.int .i64 i, .string s, .int .i64 3, .int .i64 q, .int .i64 p, .int .i64 o, .int .i64 d]] w
      (fun e w' => ∃ l, Ev.Text s.data.toList 3 q p o d l ∧ e = .returned (.tuple #[.string ⟨l.toArray⟩, .nilIface]) ∧ Below w.heap.size w w') := by
  have HRt : Hid (∀ w1, Calls Tryz.prog 5 #[.agg #[.int .i64 i, .string s, .int .i64 3, .int .i64 q, .int .i64 p, .int .i64 o, .int .i64 d]] w1 (Gives (.bool true) w1)) := Lib.hid (fun w1 => by
    have := right_any i s 3 q p o d w1 hs
    rw [show Ev.rightB s.data.toList 3 q p o d = true from decide_eq_true hR] at this
    exact this)
  have hlen := hR.1.2.1
  have hsl : s.data.toList.length = s.size := by simp
  obtain ⟨hN, d0, d1, hk⟩ := hR
  have hq : 0 ≤ q ∧ q ≤ 100000 := by omega
  obtain ⟨q0, q1⟩ := hq
  have hs10 : s.size ≤ 10 := by omega
  clear hN hk hsl hlen hs
  have hg1 := cell_lt hw.w3
  go_enter Tryz.func11, Tryz.ntmps11
  go_wp2_with fail
  refine (HRt.out _).mono ?_
  rintro e w1 ⟨rfl, hb1⟩
  have hb : Below w.heap.size w w1 := ((Below.refl _ _).alloc (Nat.le_refl _) _).step hb1
  have c1 := hb1.cell (p := ⟨w.heap.size, 1, none⟩) (by simp)
  have c2 := hb1.cell (p := ⟨w.heap.size, 2, none⟩) (by simp)
  have c3 := hb1.cell (p := ⟨w.heap.size, 3, none⟩) (by simp)
  have c4 := hb1.cell (p := ⟨w.heap.size, 4, none⟩) (by simp)
  have c6 := hb1.cell (p := ⟨w.heap.size, 6, none⟩) (by simp)
  have hlt : w.heap.size < w1.heap.size := by have := hb1.size; simp at this; omega
  simp at c1 c2 c3 c4 c6
  clear hb1
  go_wp2_with fail
  refine (day_print_ok d _ (hw.dw.below hb) d0 d1).mono ?_
  rintro e w2 ⟨dl, hdl, rfl, hb2⟩
  have HDL := Lib.hid hdl
  have hdz : dl.length = 10 := by obtain ⟨y, dd, m, -, e⟩ := hdl; rw [e]; rfl
  have e1 : w2.cell? ⟨w.heap.size, 1, none⟩ = some (.string s) := by rw [hb2.cell (p := ⟨w.heap.size, 1, none⟩) hlt, c1]
  have e2 : w2.cell? ⟨w.heap.size, 2, none⟩ = some (.int .i64 3) := by rw [hb2.cell (p := ⟨w.heap.size, 2, none⟩) hlt, c2]
  have e3 : w2.cell? ⟨w.heap.size, 3, none⟩ = some (.int .i64 q) := by rw [hb2.cell (p := ⟨w.heap.size, 3, none⟩) hlt, c3]
  have e4 : w2.cell? ⟨w.heap.size, 4, none⟩ = some (.int .i64 p) := by rw [hb2.cell (p := ⟨w.heap.size, 4, none⟩) hlt, c4]
  have hlt2 : w.heap.size < w2.heap.size := Nat.lt_of_lt_of_le hlt hb2.size
  replace hb := hb.step hb2
  have hw2 := hw.below hb
  have hwd := hw2.w3
  clear hdl hb2 c1 c2 c3 c4 c6
  obtain ⟨D, hD⟩ : ∃ D : ByteArray, D = ⟨dl.toArray⟩ := ⟨_, rfl⟩
  rw [← hD]
  have zD : D.size = 10 := by rw [hD]; show dl.toArray.size = 10; simp [hdz]
  obtain ⟨A1, hA1⟩ : ∃ A : ByteArray, A = D ++ ⟨#[32]⟩ := ⟨_, rfl⟩
  have z1 : A1.size = 11 := by rw [hA1, cat_len, zD]; rfl
  obtain ⟨A2, hA2⟩ : ∃ A : ByteArray, A = A1 ++ ⟨#[111, 117, 116]⟩ := ⟨_, rfl⟩
  have z2 : A2.size = 14 := by rw [hA2, cat_len, z1]; rfl
  obtain ⟨A3, hA3⟩ : ∃ A : ByteArray, A = A2 ++ ⟨#[32]⟩ := ⟨_, rfl⟩
  have z3 : A3.size = 15 := by rw [hA3, cat_len, z2]; rfl
  obtain ⟨A4, hA4⟩ : ∃ A : ByteArray, A = A3 ++ s := ⟨_, rfl⟩
  have z4 : A4.size ≤ 25 := by rw [hA4, cat_len, z3]; omega
  obtain ⟨A5, hA5⟩ : ∃ A : ByteArray, A = A4 ++ ⟨#[32]⟩ := ⟨_, rfl⟩
  have z5 : A5.size ≤ 26 := by rw [hA5, cat_len]; show _ + 1 ≤ _; omega
  have k1 := cat_at' D ⟨#[32]⟩ A1 hA1 (by omega) (by decide)
  have k2 := cat_at' A1 ⟨#[111, 117, 116]⟩ A2 hA2 (by omega) (by decide)
  have k3 := cat_at' A2 ⟨#[32]⟩ A3 hA3 (by omega) (by decide)
  have k4 := cat_at' A3 s A4 hA4 (by omega) (by omega)
  have k5 := cat_at' A4 ⟨#[32]⟩ A5 hA5 (by omega) (by decide)
  have HA : Hid (A5.data.toList = dl ++ [32] ++ [111, 117, 116] ++ [32] ++ s.data.toList ++ [32]) := Lib.hid (by rw [hA5, hA4, hA3, hA2, hA1, hD]; simp [ByteArray.data_append])
  have Z5 := Lib.hid z5
  clear hA1 hA2 hA3 hA4 hA5 hD z1 z2 z3 z4 z5 zD hdz
  go_wp2
  go_quiet (fail)
  generalize hw3 : World.drewN w2 _ = w3
  have hb3 : Below w.heap.size w w3 := by rw [← hw3]; exact below_drewN hb _
  have f2 : w3.cell? ⟨w.heap.size, 2, none⟩ = some (.int .i64 3) := by rw [← hw3]; exact e2
  have f3 : w3.cell? ⟨w.heap.size, 3, none⟩ = some (.int .i64 q) := by rw [← hw3]; exact e3
  have hlt3 : w.heap.size < w3.heap.size := by rw [← hw3]; exact hlt2
  have hw3' := hw.below hb3
  clear hw3 e1 e2 e3 e4 hwd k1 k2 k3 k4 k5 hb hw2 hlt2 hlt
  obtain ⟨si, hsi⟩ : ∃ x : ByteArray, x = ⟨(Lib.itoa q).toArray⟩ := ⟨_, rfl⟩
  have HI : Hid (∀ w', VW w' → Calls Tryz.prog 22 #[.int .i64 q] w' (Gives (.string si) w')) := Lib.hid (fun w' h => by rw [hsi]; exact NW.itoa q w' h.nw (by omega) (by omega))
  have zi : si.size ≤ 30 := by
    rw [hsi]; show (Lib.itoa q).toArray.size ≤ 30
    rw [List.size_toArray, Lib.itoa, if_neg (by omega), Lib.decDigits_length]
    have := Mn.nDigits_le 13 q.toNat (by omega) (by omega)
    omega
  have z5 := Z5.out
  obtain ⟨B1, hB1⟩ : ∃ A : ByteArray, A = A5 ++ si := ⟨_, rfl⟩
  have y1 : B1.size ≤ 56 := by rw [hB1, cat_len]; omega
  have k1 := cat_at' A5 si B1 hB1 (by omega) (by omega)
  have HB : Hid (B1.data.toList = dl ++ [32] ++ Ev.word 3 ++ [32] ++ s.data.toList ++ [32] ++ Ev.tail 3 q p o) := Lib.hid (by
    rw [hB1, ByteArray.data_append]
    simp only [Array.toList_append]
    rw [HA.out, hsi]
    simp [Ev.word, Ev.tail])
  clear hsi hB1 z5 zi y1
  go_wp2_with fail
  refine (HI.out _ hw3').mono ?_
  rintro e w4 ⟨rfl, hb4⟩
  go_wp2_with fail
  go_ret2
  refine ⟨_, ⟨dl, HDL.out, rfl⟩, ?_, hb3.step hb4⟩
  rw [← HB.out]
  rfl

set_option maxHeartbeats 4000000 in
set_option maxRecDepth 100000 in
theorem print_count (i : Int) (s : ByteArray) (q p o d : Int) (w : World) (hw : VW w) (hs : s.size ≤ 1000000) (hR : Ev.RightP s.data.toList 4 q p o d) :
    Calls Tryz.prog 11 #[.agg #[.int .i64 i, .string s, .int .i64 4, .int .i64 q, .int .i64 p, .int .i64 o, .int .i64 d]] w
      (fun e w' => ∃ l, Ev.Text s.data.toList 4 q p o d l ∧ e = .returned (.tuple #[.string ⟨l.toArray⟩, .nilIface]) ∧ Below w.heap.size w w') := by
  have HRt : Hid (∀ w1, Calls Tryz.prog 5 #[.agg #[.int .i64 i, .string s, .int .i64 4, .int .i64 q, .int .i64 p, .int .i64 o, .int .i64 d]] w1 (Gives (.bool true) w1)) := Lib.hid (fun w1 => by
    have := right_any i s 4 q p o d w1 hs
    rw [show Ev.rightB s.data.toList 4 q p o d = true from decide_eq_true hR] at this
    exact this)
  have hlen := hR.1.2.1
  have hsl : s.data.toList.length = s.size := by simp
  obtain ⟨hN, d0, d1, hk⟩ := hR
  have hq : 0 ≤ q ∧ q ≤ 100000 := by omega
  obtain ⟨q0, q1⟩ := hq
  have hs10 : s.size ≤ 10 := by omega
  clear hN hk hsl hlen hs
  have hg1 := cell_lt hw.w4
  go_enter Tryz.func11, Tryz.ntmps11
  go_wp2_with fail
  refine (HRt.out _).mono ?_
  rintro e w1 ⟨rfl, hb1⟩
  have hb : Below w.heap.size w w1 := ((Below.refl _ _).alloc (Nat.le_refl _) _).step hb1
  have c1 := hb1.cell (p := ⟨w.heap.size, 1, none⟩) (by simp)
  have c2 := hb1.cell (p := ⟨w.heap.size, 2, none⟩) (by simp)
  have c3 := hb1.cell (p := ⟨w.heap.size, 3, none⟩) (by simp)
  have c4 := hb1.cell (p := ⟨w.heap.size, 4, none⟩) (by simp)
  have c6 := hb1.cell (p := ⟨w.heap.size, 6, none⟩) (by simp)
  have hlt : w.heap.size < w1.heap.size := by have := hb1.size; simp at this; omega
  simp at c1 c2 c3 c4 c6
  clear hb1
  go_wp2_with fail
  refine (day_print_ok d _ (hw.dw.below hb) d0 d1).mono ?_
  rintro e w2 ⟨dl, hdl, rfl, hb2⟩
  have HDL := Lib.hid hdl
  have hdz : dl.length = 10 := by obtain ⟨y, dd, m, -, e⟩ := hdl; rw [e]; rfl
  have e1 : w2.cell? ⟨w.heap.size, 1, none⟩ = some (.string s) := by rw [hb2.cell (p := ⟨w.heap.size, 1, none⟩) hlt, c1]
  have e2 : w2.cell? ⟨w.heap.size, 2, none⟩ = some (.int .i64 4) := by rw [hb2.cell (p := ⟨w.heap.size, 2, none⟩) hlt, c2]
  have e3 : w2.cell? ⟨w.heap.size, 3, none⟩ = some (.int .i64 q) := by rw [hb2.cell (p := ⟨w.heap.size, 3, none⟩) hlt, c3]
  have e4 : w2.cell? ⟨w.heap.size, 4, none⟩ = some (.int .i64 p) := by rw [hb2.cell (p := ⟨w.heap.size, 4, none⟩) hlt, c4]
  have hlt2 : w.heap.size < w2.heap.size := Nat.lt_of_lt_of_le hlt hb2.size
  replace hb := hb.step hb2
  have hw2 := hw.below hb
  have hwd := hw2.w4
  clear hdl hb2 c1 c2 c3 c4 c6
  obtain ⟨D, hD⟩ : ∃ D : ByteArray, D = ⟨dl.toArray⟩ := ⟨_, rfl⟩
  rw [← hD]
  have zD : D.size = 10 := by rw [hD]; show dl.toArray.size = 10; simp [hdz]
  obtain ⟨A1, hA1⟩ : ∃ A : ByteArray, A = D ++ ⟨#[32]⟩ := ⟨_, rfl⟩
  have z1 : A1.size = 11 := by rw [hA1, cat_len, zD]; rfl
  obtain ⟨A2, hA2⟩ : ∃ A : ByteArray, A = A1 ++ ⟨#[99, 111, 117, 110, 116]⟩ := ⟨_, rfl⟩
  have z2 : A2.size = 16 := by rw [hA2, cat_len, z1]; rfl
  obtain ⟨A3, hA3⟩ : ∃ A : ByteArray, A = A2 ++ ⟨#[32]⟩ := ⟨_, rfl⟩
  have z3 : A3.size = 17 := by rw [hA3, cat_len, z2]; rfl
  obtain ⟨A4, hA4⟩ : ∃ A : ByteArray, A = A3 ++ s := ⟨_, rfl⟩
  have z4 : A4.size ≤ 27 := by rw [hA4, cat_len, z3]; omega
  obtain ⟨A5, hA5⟩ : ∃ A : ByteArray, A = A4 ++ ⟨#[32]⟩ := ⟨_, rfl⟩
  have z5 : A5.size ≤ 28 := by rw [hA5, cat_len]; show _ + 1 ≤ _; omega
  have k1 := cat_at' D ⟨#[32]⟩ A1 hA1 (by omega) (by decide)
  have k2 := cat_at' A1 ⟨#[99, 111, 117, 110, 116]⟩ A2 hA2 (by omega) (by decide)
  have k3 := cat_at' A2 ⟨#[32]⟩ A3 hA3 (by omega) (by decide)
  have k4 := cat_at' A3 s A4 hA4 (by omega) (by omega)
  have k5 := cat_at' A4 ⟨#[32]⟩ A5 hA5 (by omega) (by decide)
  have HA : Hid (A5.data.toList = dl ++ [32] ++ [99, 111, 117, 110, 116] ++ [32] ++ s.data.toList ++ [32]) := Lib.hid (by rw [hA5, hA4, hA3, hA2, hA1, hD]; simp [ByteArray.data_append])
  have Z5 := Lib.hid z5
  clear hA1 hA2 hA3 hA4 hA5 hD z1 z2 z3 z4 z5 zD hdz
  go_wp2
  go_quiet (fail)
  generalize hw3 : World.drewN w2 _ = w3
  have hb3 : Below w.heap.size w w3 := by rw [← hw3]; exact below_drewN hb _
  have f2 : w3.cell? ⟨w.heap.size, 2, none⟩ = some (.int .i64 4) := by rw [← hw3]; exact e2
  have f3 : w3.cell? ⟨w.heap.size, 3, none⟩ = some (.int .i64 q) := by rw [← hw3]; exact e3
  have hlt3 : w.heap.size < w3.heap.size := by rw [← hw3]; exact hlt2
  have hw3' := hw.below hb3
  clear hw3 e1 e2 e3 e4 hwd k1 k2 k3 k4 k5 hb hw2 hlt2 hlt
  obtain ⟨si, hsi⟩ : ∃ x : ByteArray, x = ⟨(Lib.itoa q).toArray⟩ := ⟨_, rfl⟩
  have HI : Hid (∀ w', VW w' → Calls Tryz.prog 22 #[.int .i64 q] w' (Gives (.string si) w')) := Lib.hid (fun w' h => by rw [hsi]; exact NW.itoa q w' h.nw (by omega) (by omega))
  have zi : si.size ≤ 30 := by
    rw [hsi]; show (Lib.itoa q).toArray.size ≤ 30
    rw [List.size_toArray, Lib.itoa, if_neg (by omega), Lib.decDigits_length]
    have := Mn.nDigits_le 13 q.toNat (by omega) (by omega)
    omega
  have z5 := Z5.out
  obtain ⟨B1, hB1⟩ : ∃ A : ByteArray, A = A5 ++ si := ⟨_, rfl⟩
  have y1 : B1.size ≤ 58 := by rw [hB1, cat_len]; omega
  have k1 := cat_at' A5 si B1 hB1 (by omega) (by omega)
  have HB : Hid (B1.data.toList = dl ++ [32] ++ Ev.word 4 ++ [32] ++ s.data.toList ++ [32] ++ Ev.tail 4 q p o) := Lib.hid (by
    rw [hB1, ByteArray.data_append]
    simp only [Array.toList_append]
    rw [HA.out, hsi]
    simp [Ev.word, Ev.tail])
  clear hsi hB1 z5 zi y1
  go_wp2_with fail
  refine (HI.out _ hw3').mono ?_
  rintro e w4 ⟨rfl, hb4⟩
  go_wp2_with fail
  go_ret2
  refine ⟨_, ⟨dl, HDL.out, rfl⟩, ?_, hb3.step hb4⟩
  rw [← HB.out]
  rfl

end Go.Proofs.YtjmeefmofbpbnaaGreatDoor
