/- tallymanref.EventText: what it hands back. -/
import Derived.Test.YtjmeefmofbpbnaaGreatDoorRnR
import Derived.Test.YtjmeefmofbpbnaaGreatDoorEvP
import Derived.Test.YtjmeefmofbpbnaaGreatDoorEvF
import Derived.Test.YtjmeefmofbpbnaaGreatDoorJoined5
import Derived.Test.YtjmeefmofbpbnaaGreatDoorRpA
import Derived.Test.YtjmeefmofbpbnaaGreatDoorJoined14
import Derived.Test.YtjmeefmofbpbnaaGreatDoorJoined11
namespace Go.Proofs.YtjmeefmofbpbnaaGreatDoor
open Go.RowKit
set_option linter.unusedVariables false

set_option maxHeartbeats 4000000 in
set_option maxRecDepth 100000 in
theorem text_in (i : Int) (s : ByteArray) (q p o d : Int) (w : World) (hd : DW w) (hw : NW w) (hs : s.size ≤ 1000000) (ho : o ≤ 9223372036854775807) (hR : Ev.RightP s.data.toList 1 q p o d) :
    Calls Tryz.prog 10 #[.agg #[.int .i64 i, .string s, .int .i64 1, .int .i64 q, .int .i64 p, .int .i64 o, .int .i64 d]] w
      (fun e w' => ∃ l, Ev.Text s.data.toList 1 q p o d l ∧ e = .returned (.tuple #[.string ⟨l.toArray⟩, .int .i64 0]) ∧ Below w.heap.size w w') := by
  have HRt : Hid (∀ w1, Calls Tryz.prog 6 #[.agg #[.int .i64 i, .string s, .int .i64 1, .int .i64 q, .int .i64 p, .int .i64 o, .int .i64 d]] w1 (Gives (.bool true) w1)) := Lib.hid (fun w1 => by
    have := refRight_any i s 1 q p o d w1 hs
    rw [show Ev.rightB s.data.toList 1 q p o d = true from decide_eq_true hR] at this
    exact this)
  have hlen := hR.1.2.1
  have hsl : s.data.toList.length = s.size := by simp
  have hmon := Ev.mon_bd hR
  obtain ⟨hN, d0, d1, hk⟩ := hR
  have hq : 0 ≤ q ∧ q ≤ 100000 ∧ 0 ≤ p ∧ p ≤ 100000000000 ∧ 0 ≤ o := by omega
  obtain ⟨q0, q1, p0, p1, o0⟩ := hq
  have hs10 : s.size ≤ 10 := by omega
  clear hN hk hsl hlen hs hmon
  obtain ⟨sq, hsq⟩ : ∃ x : ByteArray, x = ⟨(Lib.itoa q).toArray⟩ := ⟨_, rfl⟩
  have zq : sq.size ≤ 30 := by
    rw [hsq]; show (Lib.itoa q).toArray.size ≤ 30
    rw [List.size_toArray]
    have := Nm.itoa_len q (by omega) (by omega)
    omega
  have HQ : Hid (∀ w', NW w' → Calls Tryz.prog 22 #[.int .i64 q] w' (Gives (.string sq) w')) := Lib.hid (fun w' h => by rw [hsq]; exact NW.itoa q w' h (by omega) (by omega))
  obtain ⟨sp, hsp⟩ : ∃ x : ByteArray, x = ⟨(Mn.prt p).toArray⟩ := ⟨_, rfl⟩
  have zp : sp.size ≤ 30 := by
    rw [hsp]; show (Mn.prt p).toArray.size ≤ 30
    rw [List.size_toArray]
    exact Mn.prt_len p (by omega) (by omega)
  have HP : Hid (∀ w', NW w' → Calls Tryz.prog 23 #[.int .i64 p] w' (Gives (.string sp) w')) := Lib.hid (fun w' h => by rw [hsp]; exact amount_any p w' h (by omega) (by omega))
  go_enter Tryz.func10, Tryz.ntmps10
  go_wp2_with fail
  refine (HRt.out _).mono ?_
  rintro e w1 ⟨rfl, hb1⟩
  have hB1 := hb1
  have hb : Below w.heap.size w w1 := ((Below.refl _ _).new _).step hb1
  have hc1 := (bcell hb1).1
  simp only [World.size_alloc] at hc1 hB1
  have hl1 : w.heap.size < w1.heap.size := by have := hb1.size; simp only [World.size_alloc] at this; omega
  clear hb1
  go_wp2_with fail
  refine (refDate_ok d _ (hd.below hb) d0 d1).mono ?_
  rintro e w2 ⟨dl, hdl, rfl, hb2⟩
  have HDL := Lib.hid hdl
  have hdz : dl.length = 10 := by obtain ⟨y, dd, m, -, e⟩ := hdl; rw [e]; rfl
  have hc2 := (bcell hb2).1
  have hl2 : w.heap.size < w2.heap.size := Nat.lt_of_lt_of_le hl1 hb2.size
  replace hb := hb.step hb2
  obtain ⟨D, hD⟩ : ∃ D : ByteArray, D = ⟨dl.toArray⟩ := ⟨_, rfl⟩
  rw [← hD]
  have zD : D.size ≤ 10 := by rw [hD]; show dl.toArray.size ≤ 10; simp [hdz]
  obtain ⟨A1, hA1⟩ : ∃ A : ByteArray, A = D ++ ⟨#[32, 105, 110, 32]⟩ := ⟨_, rfl⟩
  have zA1 : A1.size ≤ 14 := by rw [hA1, ByteArray.size_append]; show _ + 4 ≤ _; omega
  have kA1 := cat_at' D ⟨#[32, 105, 110, 32]⟩ A1 hA1 (by omega) (by decide)
  obtain ⟨A2, hA2⟩ : ∃ A : ByteArray, A = A1 ++ s := ⟨_, rfl⟩
  have zA2 : A2.size ≤ 24 := by rw [hA2, ByteArray.size_append]; omega
  have kA2 := cat_at' A1 s A2 hA2 (by omega) (by omega)
  obtain ⟨A3, hA3⟩ : ∃ A : ByteArray, A = A2 ++ ⟨#[32]⟩ := ⟨_, rfl⟩
  have zA3 : A3.size ≤ 25 := by rw [hA3, ByteArray.size_append]; show _ + 1 ≤ _; omega
  have kA3 := cat_at' A2 ⟨#[32]⟩ A3 hA3 (by omega) (by decide)
  obtain ⟨A4, hA4⟩ : ∃ A : ByteArray, A = A3 ++ sq := ⟨_, rfl⟩
  have zA4 : A4.size ≤ 55 := by rw [hA4, ByteArray.size_append]; omega
  have kA4 := cat_at' A3 sq A4 hA4 (by omega) (by omega)
  obtain ⟨A5, hA5⟩ : ∃ A : ByteArray, A = A4 ++ ⟨#[32, 97, 116, 32]⟩ := ⟨_, rfl⟩
  have zA5 : A5.size ≤ 59 := by rw [hA5, ByteArray.size_append]; show _ + 4 ≤ _; omega
  have kA5 := cat_at' A4 ⟨#[32, 97, 116, 32]⟩ A5 hA5 (by omega) (by decide)
  obtain ⟨A6, hA6⟩ : ∃ A : ByteArray, A = A5 ++ sp := ⟨_, rfl⟩
  have zA6 : A6.size ≤ 89 := by rw [hA6, ByteArray.size_append]; omega
  have kA6 := cat_at' A5 sp A6 hA6 (by omega) (by omega)
  have HA : Hid (A6.data.toList = dl ++ [32] ++ Ev.word 1 ++ [32] ++ s.data.toList ++ [32] ++ Ev.tail 1 q p o) := Lib.hid (by
    rw [hA6, hA5, hA4, hA3, hA2, hA1, hD, hsq, hsp]; simp [ByteArray.data_append, Ev.word, Ev.tail])
  clear hdl hb2 hsq hsp hD zD hdz hA1 hA2 hA3 hA4 hA5 hA6
  go_wp2_with fail
  refine (HQ.out _ (hw.below hb)).mono ?_
  rintro e w3 ⟨rfl, hb3⟩
  have hc3 := (bcell hb3).1
  have hl3 : w.heap.size < w3.heap.size := Nat.lt_of_lt_of_le hl2 hb3.size
  replace hb := hb.step hb3
  have hw3 := hw.below hb
  clear hb3
  go_wp2_with fail
  have hcs := fun (p : Since w3) b o h => Since.cells p b o h
  have hvs : Hid (∀ p : Since w3, NW p.w') := Lib.hid (fun p => hw3.below p.h)
  refine wp_region_since (by kernel_rfl) (by kernel_rfl) ?_
  repeat (quiet_step (first
    | (with_reducible exact Calls.since_of (HP.out _ (hvs.out _)))))
  refine wpQuiet_nil ?_
  intro w4 hw'
  obtain ⟨pp, hp⟩ := hw'
  have hb4 : Below w3.heap.size w3 w4 := by rw [hp]; exact pp.h
  clear hp pp hcs hvs
  replace hb := hb.step hb4
  go_wp2_with fail
  go_ret2
  refine ⟨_, ⟨dl, HDL.out, rfl⟩, ?_, hb⟩
  rw [← HA.out]
  rfl

set_option maxHeartbeats 4000000 in
set_option maxRecDepth 100000 in
theorem text_charge (i : Int) (s : ByteArray) (q p o d : Int) (w : World) (hd : DW w) (hw : NW w) (hs : s.size ≤ 1000000) (ho : o ≤ 9223372036854775807) (hR : Ev.RightP s.data.toList 2 q p o d) :
    Calls Tryz.prog 10 #[.agg #[.int .i64 i, .string s, .int .i64 2, .int .i64 q, .int .i64 p, .int .i64 o, .int .i64 d]] w
      (fun e w' => ∃ l, Ev.Text s.data.toList 2 q p o d l ∧ e = .returned (.tuple #[.string ⟨l.toArray⟩, .int .i64 0]) ∧ Below w.heap.size w w') := by
  have HRt : Hid (∀ w1, Calls Tryz.prog 6 #[.agg #[.int .i64 i, .string s, .int .i64 2, .int .i64 q, .int .i64 p, .int .i64 o, .int .i64 d]] w1 (Gives (.bool true) w1)) := Lib.hid (fun w1 => by
    have := refRight_any i s 2 q p o d w1 hs
    rw [show Ev.rightB s.data.toList 2 q p o d = true from decide_eq_true hR] at this
    exact this)
  have hlen := hR.1.2.1
  have hsl : s.data.toList.length = s.size := by simp
  have hmon := Ev.mon_bd hR
  obtain ⟨hN, d0, d1, hk⟩ := hR
  have hq : 0 ≤ q ∧ q ≤ 100000 ∧ 0 ≤ p ∧ p ≤ 100000000000 ∧ 0 ≤ o := by omega
  obtain ⟨q0, q1, p0, p1, o0⟩ := hq
  have hs10 : s.size ≤ 10 := by omega
  clear hN hk hsl hlen hs hmon
  obtain ⟨sq, hsq⟩ : ∃ x : ByteArray, x = ⟨(Lib.itoa q).toArray⟩ := ⟨_, rfl⟩
  have zq : sq.size ≤ 30 := by
    rw [hsq]; show (Lib.itoa q).toArray.size ≤ 30
    rw [List.size_toArray]
    have := Nm.itoa_len q (by omega) (by omega)
    omega
  have HQ : Hid (∀ w', NW w' → Calls Tryz.prog 22 #[.int .i64 q] w' (Gives (.string sq) w')) := Lib.hid (fun w' h => by rw [hsq]; exact NW.itoa q w' h (by omega) (by omega))
  obtain ⟨sp, hsp⟩ : ∃ x : ByteArray, x = ⟨(Mn.prt p).toArray⟩ := ⟨_, rfl⟩
  have zp : sp.size ≤ 30 := by
    rw [hsp]; show (Mn.prt p).toArray.size ≤ 30
    rw [List.size_toArray]
    exact Mn.prt_len p (by omega) (by omega)
  have HP : Hid (∀ w', NW w' → Calls Tryz.prog 23 #[.int .i64 p] w' (Gives (.string sp) w')) := Lib.hid (fun w' h => by rw [hsp]; exact amount_any p w' h (by omega) (by omega))
  obtain ⟨so, hso⟩ : ∃ x : ByteArray, x = ⟨(Lib.itoa o).toArray⟩ := ⟨_, rfl⟩
  have zo : so.size ≤ 30 := by
    rw [hso]; show (Lib.itoa o).toArray.size ≤ 30
    rw [List.size_toArray]
    have := Nm.itoa_len o (by omega) (by omega)
    omega
  have HO : Hid (∀ w', NW w' → Calls Tryz.prog 22 #[.int .i64 o] w' (Gives (.string so) w')) := Lib.hid (fun w' h => by rw [hso]; exact NW.itoa o w' h (by omega) ho)
  go_enter Tryz.func10, Tryz.ntmps10
  go_wp2_with fail
  refine (HRt.out _).mono ?_
  rintro e w1 ⟨rfl, hb1⟩
  have hB1 := hb1
  have hb : Below w.heap.size w w1 := ((Below.refl _ _).new _).step hb1
  have hc1 := (bcell hb1).1
  simp only [World.size_alloc] at hc1 hB1
  have hl1 : w.heap.size < w1.heap.size := by have := hb1.size; simp only [World.size_alloc] at this; omega
  clear hb1
  go_wp2_with fail
  refine (refDate_ok d _ (hd.below hb) d0 d1).mono ?_
  rintro e w2 ⟨dl, hdl, rfl, hb2⟩
  have HDL := Lib.hid hdl
  have hdz : dl.length = 10 := by obtain ⟨y, dd, m, -, e⟩ := hdl; rw [e]; rfl
  have hc2 := (bcell hb2).1
  have hl2 : w.heap.size < w2.heap.size := Nat.lt_of_lt_of_le hl1 hb2.size
  replace hb := hb.step hb2
  obtain ⟨D, hD⟩ : ∃ D : ByteArray, D = ⟨dl.toArray⟩ := ⟨_, rfl⟩
  rw [← hD]
  have zD : D.size ≤ 10 := by rw [hD]; show dl.toArray.size ≤ 10; simp [hdz]
  obtain ⟨A1, hA1⟩ : ∃ A : ByteArray, A = D ++ ⟨#[32, 99, 104, 97, 114, 103, 101, 32]⟩ := ⟨_, rfl⟩
  have zA1 : A1.size ≤ 18 := by rw [hA1, ByteArray.size_append]; show _ + 8 ≤ _; omega
  have kA1 := cat_at' D ⟨#[32, 99, 104, 97, 114, 103, 101, 32]⟩ A1 hA1 (by omega) (by decide)
  obtain ⟨A2, hA2⟩ : ∃ A : ByteArray, A = A1 ++ s := ⟨_, rfl⟩
  have zA2 : A2.size ≤ 28 := by rw [hA2, ByteArray.size_append]; omega
  have kA2 := cat_at' A1 s A2 hA2 (by omega) (by omega)
  obtain ⟨A3, hA3⟩ : ∃ A : ByteArray, A = A2 ++ ⟨#[32]⟩ := ⟨_, rfl⟩
  have zA3 : A3.size ≤ 29 := by rw [hA3, ByteArray.size_append]; show _ + 1 ≤ _; omega
  have kA3 := cat_at' A2 ⟨#[32]⟩ A3 hA3 (by omega) (by decide)
  obtain ⟨A4, hA4⟩ : ∃ A : ByteArray, A = A3 ++ sp := ⟨_, rfl⟩
  have zA4 : A4.size ≤ 59 := by rw [hA4, ByteArray.size_append]; omega
  have kA4 := cat_at' A3 sp A4 hA4 (by omega) (by omega)
  obtain ⟨A5, hA5⟩ : ∃ A : ByteArray, A = A4 ++ ⟨#[32, 102, 111, 114, 32]⟩ := ⟨_, rfl⟩
  have zA5 : A5.size ≤ 64 := by rw [hA5, ByteArray.size_append]; show _ + 5 ≤ _; omega
  have kA5 := cat_at' A4 ⟨#[32, 102, 111, 114, 32]⟩ A5 hA5 (by omega) (by decide)
  obtain ⟨A6, hA6⟩ : ∃ A : ByteArray, A = A5 ++ so := ⟨_, rfl⟩
  have zA6 : A6.size ≤ 94 := by rw [hA6, ByteArray.size_append]; omega
  have kA6 := cat_at' A5 so A6 hA6 (by omega) (by omega)
  have HA : Hid (A6.data.toList = dl ++ [32] ++ Ev.word 2 ++ [32] ++ s.data.toList ++ [32] ++ Ev.tail 2 q p o) := Lib.hid (by
    rw [hA6, hA5, hA4, hA3, hA2, hA1, hD, hsp, hso]; simp [ByteArray.data_append, Ev.word, Ev.tail])
  clear hdl hb2 hsq hsp hso hD zD hdz hA1 hA2 hA3 hA4 hA5 hA6
  go_wp2_with fail
  refine (HQ.out _ (hw.below hb)).mono ?_
  rintro e w3 ⟨rfl, hb3⟩
  have hc3 := (bcell hb3).1
  have hl3 : w.heap.size < w3.heap.size := Nat.lt_of_lt_of_le hl2 hb3.size
  replace hb := hb.step hb3
  have hw3 := hw.below hb
  clear hb3
  go_wp2_with fail
  have hcs := fun (p : Since w3) b o h => Since.cells p b o h
  have hvs : Hid (∀ p : Since w3, NW p.w') := Lib.hid (fun p => hw3.below p.h)
  refine wp_region_since (by kernel_rfl) (by kernel_rfl) ?_
  repeat (quiet_step (first
    | (with_reducible exact Calls.since_of (HP.out _ (hvs.out _)))
    | (with_reducible exact Calls.since_of (HO.out _ (hvs.out _)))))
  refine wpQuiet_nil ?_
  intro w4 hw'
  obtain ⟨pp, hp⟩ := hw'
  have hb4 : Below w3.heap.size w3 w4 := by rw [hp]; exact pp.h
  clear hp pp hcs hvs
  replace hb := hb.step hb4
  go_wp2_with fail
  go_ret2
  refine ⟨_, ⟨dl, HDL.out, rfl⟩, ?_, hb⟩
  rw [← HA.out]
  rfl

set_option maxHeartbeats 4000000 in
set_option maxRecDepth 100000 in
theorem text_out (i : Int) (s : ByteArray) (q p o d : Int) (w : World) (hd : DW w) (hw : NW w) (hs : s.size ≤ 1000000) (ho : o ≤ 9223372036854775807) (hR : Ev.RightP s.data.toList 3 q p o d) :
    Calls Tryz.prog 10 #[.agg #[.int .i64 i, .string s, .int .i64 3, .int .i64 q, .int .i64 p, .int .i64 o, .int .i64 d]] w
      (fun e w' => ∃ l, Ev.Text s.data.toList 3 q p o d l ∧ e = .returned (.tuple #[.string ⟨l.toArray⟩, .int .i64 0]) ∧ Below w.heap.size w w') := by
  have HRt : Hid (∀ w1, Calls Tryz.prog 6 #[.agg #[.int .i64 i, .string s, .int .i64 3, .int .i64 q, .int .i64 p, .int .i64 o, .int .i64 d]] w1 (Gives (.bool true) w1)) := Lib.hid (fun w1 => by
    have := refRight_any i s 3 q p o d w1 hs
    rw [show Ev.rightB s.data.toList 3 q p o d = true from decide_eq_true hR] at this
    exact this)
  have hlen := hR.1.2.1
  have hsl : s.data.toList.length = s.size := by simp
  have hmon := Ev.mon_bd hR
  obtain ⟨hN, d0, d1, hk⟩ := hR
  have hq : 0 ≤ q ∧ q ≤ 100000 ∧ 0 ≤ p ∧ p ≤ 100000000000 ∧ 0 ≤ o := by omega
  obtain ⟨q0, q1, p0, p1, o0⟩ := hq
  have hs10 : s.size ≤ 10 := by omega
  clear hN hk hsl hlen hs hmon
  obtain ⟨sq, hsq⟩ : ∃ x : ByteArray, x = ⟨(Lib.itoa q).toArray⟩ := ⟨_, rfl⟩
  have zq : sq.size ≤ 30 := by
    rw [hsq]; show (Lib.itoa q).toArray.size ≤ 30
    rw [List.size_toArray]
    have := Nm.itoa_len q (by omega) (by omega)
    omega
  have HQ : Hid (∀ w', NW w' → Calls Tryz.prog 22 #[.int .i64 q] w' (Gives (.string sq) w')) := Lib.hid (fun w' h => by rw [hsq]; exact NW.itoa q w' h (by omega) (by omega))
  go_enter Tryz.func10, Tryz.ntmps10
  go_wp2_with fail
  refine (HRt.out _).mono ?_
  rintro e w1 ⟨rfl, hb1⟩
  have hB1 := hb1
  have hb : Below w.heap.size w w1 := ((Below.refl _ _).new _).step hb1
  have hc1 := (bcell hb1).1
  simp only [World.size_alloc] at hc1 hB1
  have hl1 : w.heap.size < w1.heap.size := by have := hb1.size; simp only [World.size_alloc] at this; omega
  clear hb1
  go_wp2_with fail
  refine (refDate_ok d _ (hd.below hb) d0 d1).mono ?_
  rintro e w2 ⟨dl, hdl, rfl, hb2⟩
  have HDL := Lib.hid hdl
  have hdz : dl.length = 10 := by obtain ⟨y, dd, m, -, e⟩ := hdl; rw [e]; rfl
  have hc2 := (bcell hb2).1
  have hl2 : w.heap.size < w2.heap.size := Nat.lt_of_lt_of_le hl1 hb2.size
  replace hb := hb.step hb2
  obtain ⟨D, hD⟩ : ∃ D : ByteArray, D = ⟨dl.toArray⟩ := ⟨_, rfl⟩
  rw [← hD]
  have zD : D.size ≤ 10 := by rw [hD]; show dl.toArray.size ≤ 10; simp [hdz]
  obtain ⟨A1, hA1⟩ : ∃ A : ByteArray, A = D ++ ⟨#[32, 111, 117, 116, 32]⟩ := ⟨_, rfl⟩
  have zA1 : A1.size ≤ 15 := by rw [hA1, ByteArray.size_append]; show _ + 5 ≤ _; omega
  have kA1 := cat_at' D ⟨#[32, 111, 117, 116, 32]⟩ A1 hA1 (by omega) (by decide)
  obtain ⟨A2, hA2⟩ : ∃ A : ByteArray, A = A1 ++ s := ⟨_, rfl⟩
  have zA2 : A2.size ≤ 25 := by rw [hA2, ByteArray.size_append]; omega
  have kA2 := cat_at' A1 s A2 hA2 (by omega) (by omega)
  obtain ⟨A3, hA3⟩ : ∃ A : ByteArray, A = A2 ++ ⟨#[32]⟩ := ⟨_, rfl⟩
  have zA3 : A3.size ≤ 26 := by rw [hA3, ByteArray.size_append]; show _ + 1 ≤ _; omega
  have kA3 := cat_at' A2 ⟨#[32]⟩ A3 hA3 (by omega) (by decide)
  obtain ⟨A4, hA4⟩ : ∃ A : ByteArray, A = A3 ++ sq := ⟨_, rfl⟩
  have zA4 : A4.size ≤ 56 := by rw [hA4, ByteArray.size_append]; omega
  have kA4 := cat_at' A3 sq A4 hA4 (by omega) (by omega)
  have HA : Hid (A4.data.toList = dl ++ [32] ++ Ev.word 3 ++ [32] ++ s.data.toList ++ [32] ++ Ev.tail 3 q p o) := Lib.hid (by
    rw [hA4, hA3, hA2, hA1, hD, hsq]; simp [ByteArray.data_append, Ev.word, Ev.tail])
  clear hdl hb2 hsq  hD zD hdz hA1 hA2 hA3 hA4
  go_wp2_with fail
  refine (HQ.out _ (hw.below hb)).mono ?_
  rintro e w3 ⟨rfl, hb3⟩
  have hc3 := (bcell hb3).1
  have hl3 : w.heap.size < w3.heap.size := Nat.lt_of_lt_of_le hl2 hb3.size
  replace hb := hb.step hb3
  have hw3 := hw.below hb
  clear hb3
  go_wp2_with fail
  go_ret2
  refine ⟨_, ⟨dl, HDL.out, rfl⟩, ?_, hb⟩
  rw [← HA.out]
  rfl

set_option maxHeartbeats 4000000 in
set_option maxRecDepth 100000 in
theorem text_count (i : Int) (s : ByteArray) (q p o d : Int) (w : World) (hd : DW w) (hw : NW w) (hs : s.size ≤ 1000000) (ho : o ≤ 9223372036854775807) (hR : Ev.RightP s.data.toList 4 q p o d) :
    Calls Tryz.prog 10 #[.agg #[.int .i64 i, .string s, .int .i64 4, .int .i64 q, .int .i64 p, .int .i64 o, .int .i64 d]] w
      (fun e w' => ∃ l, Ev.Text s.data.toList 4 q p o d l ∧ e = .returned (.tuple #[.string ⟨l.toArray⟩, .int .i64 0]) ∧ Below w.heap.size w w') := by
  have HRt : Hid (∀ w1, Calls Tryz.prog 6 #[.agg #[.int .i64 i, .string s, .int .i64 4, .int .i64 q, .int .i64 p, .int .i64 o, .int .i64 d]] w1 (Gives (.bool true) w1)) := Lib.hid (fun w1 => by
    have := refRight_any i s 4 q p o d w1 hs
    rw [show Ev.rightB s.data.toList 4 q p o d = true from decide_eq_true hR] at this
    exact this)
  have hlen := hR.1.2.1
  have hsl : s.data.toList.length = s.size := by simp
  have hmon := Ev.mon_bd hR
  obtain ⟨hN, d0, d1, hk⟩ := hR
  have hq : 0 ≤ q ∧ q ≤ 100000 ∧ 0 ≤ p ∧ p ≤ 100000000000 ∧ 0 ≤ o := by omega
  obtain ⟨q0, q1, p0, p1, o0⟩ := hq
  have hs10 : s.size ≤ 10 := by omega
  clear hN hk hsl hlen hs hmon
  obtain ⟨sq, hsq⟩ : ∃ x : ByteArray, x = ⟨(Lib.itoa q).toArray⟩ := ⟨_, rfl⟩
  have zq : sq.size ≤ 30 := by
    rw [hsq]; show (Lib.itoa q).toArray.size ≤ 30
    rw [List.size_toArray]
    have := Nm.itoa_len q (by omega) (by omega)
    omega
  have HQ : Hid (∀ w', NW w' → Calls Tryz.prog 22 #[.int .i64 q] w' (Gives (.string sq) w')) := Lib.hid (fun w' h => by rw [hsq]; exact NW.itoa q w' h (by omega) (by omega))
  go_enter Tryz.func10, Tryz.ntmps10
  go_wp2_with fail
  refine (HRt.out _).mono ?_
  rintro e w1 ⟨rfl, hb1⟩
  have hB1 := hb1
  have hb : Below w.heap.size w w1 := ((Below.refl _ _).new _).step hb1
  have hc1 := (bcell hb1).1
  simp only [World.size_alloc] at hc1 hB1
  have hl1 : w.heap.size < w1.heap.size := by have := hb1.size; simp only [World.size_alloc] at this; omega
  clear hb1
  go_wp2_with fail
  refine (refDate_ok d _ (hd.below hb) d0 d1).mono ?_
  rintro e w2 ⟨dl, hdl, rfl, hb2⟩
  have HDL := Lib.hid hdl
  have hdz : dl.length = 10 := by obtain ⟨y, dd, m, -, e⟩ := hdl; rw [e]; rfl
  have hc2 := (bcell hb2).1
  have hl2 : w.heap.size < w2.heap.size := Nat.lt_of_lt_of_le hl1 hb2.size
  replace hb := hb.step hb2
  obtain ⟨D, hD⟩ : ∃ D : ByteArray, D = ⟨dl.toArray⟩ := ⟨_, rfl⟩
  rw [← hD]
  have zD : D.size ≤ 10 := by rw [hD]; show dl.toArray.size ≤ 10; simp [hdz]
  obtain ⟨A1, hA1⟩ : ∃ A : ByteArray, A = D ++ ⟨#[32, 99, 111, 117, 110, 116, 32]⟩ := ⟨_, rfl⟩
  have zA1 : A1.size ≤ 17 := by rw [hA1, ByteArray.size_append]; show _ + 7 ≤ _; omega
  have kA1 := cat_at' D ⟨#[32, 99, 111, 117, 110, 116, 32]⟩ A1 hA1 (by omega) (by decide)
  obtain ⟨A2, hA2⟩ : ∃ A : ByteArray, A = A1 ++ s := ⟨_, rfl⟩
  have zA2 : A2.size ≤ 27 := by rw [hA2, ByteArray.size_append]; omega
  have kA2 := cat_at' A1 s A2 hA2 (by omega) (by omega)
  obtain ⟨A3, hA3⟩ : ∃ A : ByteArray, A = A2 ++ ⟨#[32]⟩ := ⟨_, rfl⟩
  have zA3 : A3.size ≤ 28 := by rw [hA3, ByteArray.size_append]; show _ + 1 ≤ _; omega
  have kA3 := cat_at' A2 ⟨#[32]⟩ A3 hA3 (by omega) (by decide)
  obtain ⟨A4, hA4⟩ : ∃ A : ByteArray, A = A3 ++ sq := ⟨_, rfl⟩
  have zA4 : A4.size ≤ 58 := by rw [hA4, ByteArray.size_append]; omega
  have kA4 := cat_at' A3 sq A4 hA4 (by omega) (by omega)
  have HA : Hid (A4.data.toList = dl ++ [32] ++ Ev.word 4 ++ [32] ++ s.data.toList ++ [32] ++ Ev.tail 4 q p o) := Lib.hid (by
    rw [hA4, hA3, hA2, hA1, hD, hsq]; simp [ByteArray.data_append, Ev.word, Ev.tail])
  clear hdl hb2 hsq  hD zD hdz hA1 hA2 hA3 hA4
  go_wp2_with fail
  refine (HQ.out _ (hw.below hb)).mono ?_
  rintro e w3 ⟨rfl, hb3⟩
  have hc3 := (bcell hb3).1
  have hl3 : w.heap.size < w3.heap.size := Nat.lt_of_lt_of_le hl2 hb3.size
  replace hb := hb.step hb3
  have hw3 := hw.below hb
  clear hb3
  go_wp2_with fail
  go_ret2
  refine ⟨_, ⟨dl, HDL.out, rfl⟩, ?_, hb⟩
  rw [← HA.out]
  rfl

set_option maxHeartbeats 1000000 in
set_option maxRecDepth 100000 in
theorem text_bad (i : Int) (s : ByteArray) (k q p o d : Int) (w : World) (hs : s.size ≤ 1000000) (hR : ¬ Ev.RightP s.data.toList k q p o d) :
    Calls Tryz.prog 10 #[.agg #[.int .i64 i, .string s, .int .i64 k, .int .i64 q, .int .i64 p, .int .i64 o, .int .i64 d]] w (Gives (.tuple #[.string ⟨#[]⟩, .int .i64 1]) w) := by
  have HR : Hid (∀ w1, Calls Tryz.prog 6 #[.agg #[.int .i64 i, .string s, .int .i64 k, .int .i64 q, .int .i64 p, .int .i64 o, .int .i64 d]] w1 (Gives (.bool false) w1)) := Lib.hid (fun w1 => by
    have := refRight_any i s k q p o d w1 hs
    rw [show Ev.rightB s.data.toList k q p o d = false from decide_eq_false hR] at this
    exact this)
  clear hR
  go_enter Tryz.func10, Tryz.ntmps10
  go_wp2_with fail
  refine (HR.out _).mono ?_
  rintro e w1 ⟨rfl, hb1⟩
  go_wp2_with fail
  go_ret2
  exact ⟨rfl, ((Below.refl _ _).new _).step hb1⟩
/-- An event's text; or none, and an error. -/
def EvText (s : ByteArray) (k q p o d : Int) (w : World) (e : Ending) (w' : World) : Prop :=
  ((∃ l, Ev.RightP s.data.toList k q p o d ∧ Ev.Text s.data.toList k q p o d l ∧ e = .returned (.tuple #[.string ⟨l.toArray⟩, .int .i64 0])) ∨
   (¬ Ev.RightP s.data.toList k q p o d ∧ e = .returned (.tuple #[.string ⟨#[]⟩, .int .i64 1]))) ∧ Below w.heap.size w w'
theorem text_event (i : Int) (s : ByteArray) (k q p o d : Int) (w : World) (hd : DW w) (hw : NW w) (hs : s.size ≤ 1000000) (ho : o ≤ 9223372036854775807) :
    Calls Tryz.prog 10 #[.agg #[.int .i64 i, .string s, .int .i64 k, .int .i64 q, .int .i64 p, .int .i64 o, .int .i64 d]] w (EvText s k q p o d w) := by
  by_cases hR : Ev.RightP s.data.toList k q p o d
  · rcases Ev.right_kind hR with rfl | rfl | rfl | rfl
    · exact (text_in i s q p o d w hd hw hs ho hR).mono fun e w' ⟨l, h1, h2, h3⟩ => ⟨Or.inl ⟨l, hR, h1, h2⟩, h3⟩
    · exact (text_charge i s q p o d w hd hw hs ho hR).mono fun e w' ⟨l, h1, h2, h3⟩ => ⟨Or.inl ⟨l, hR, h1, h2⟩, h3⟩
    · exact (text_out i s q p o d w hd hw hs ho hR).mono fun e w' ⟨l, h1, h2, h3⟩ => ⟨Or.inl ⟨l, hR, h1, h2⟩, h3⟩
    · exact (text_count i s q p o d w hd hw hs ho hR).mono fun e w' ⟨l, h1, h2, h3⟩ => ⟨Or.inl ⟨l, hR, h1, h2⟩, h3⟩
  · exact (text_bad i s k q p o d w hs hR).mono fun e w' ⟨h1, h2⟩ => ⟨Or.inr ⟨hR, h1⟩, h2⟩
end Go.Proofs.YtjmeefmofbpbnaaGreatDoor
