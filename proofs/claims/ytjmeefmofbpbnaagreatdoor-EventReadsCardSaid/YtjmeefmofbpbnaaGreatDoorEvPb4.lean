/- event.Parse: what it hands back at a text that begins as a kind's (4). -/
import Derived.Test.YtjmeefmofbpbnaaGreatDoorJoined13
namespace Go.Proofs.YtjmeefmofbpbnaaGreatDoor
open Go.RowKit
set_option maxHeartbeats 4000000 in
set_option maxRecDepth 100000 in
theorem parse_count (s z0 z2 z3 : ByteArray) (d : Int) (w : World) (hw : VW w) (hs : s.size ≤ 1000) (hL : Sp.spl 32 s.data.toList = [z0.data.toList, [99, 111, 117, 110, 116], z2.data.toList, z3.data.toList]) (d0 : 0 ≤ d) (d1 : d ≤ 99999) (hD : Dy.Text d z0.data.toList) :
    Calls Tryz.prog 14 #[.string s] w (EvParse s w) := by
  have hz : ([z0, ⟨#[99, 111, 117, 110, 116]⟩, z2, z3] : List ByteArray).map (fun z => z.data.toList) = Sp.spl 32 s.data.toList := by rw [hL]; rfl
  have hsz := spl_sizes hz
  have s2 : z2.size ≤ 1000 := Nat.le_trans (hsz z2 (by simp)) hs
  have s3 : z3.size ≤ 1000 := Nat.le_trans (hsz z3 (by simp)) hs
  have HS := Lib.hid (fun w' (h' : VW w') => split_one 32 s [z0, ⟨#[99, 111, 117, 110, 116]⟩, z2, z3] 4 rfl hz w' h'.nw (by omega))
  have HD := Lib.hid (fun w' (h' : VW w') => day_parse_yes d z0 w' h'.dw d0 d1 hD)
  have hsh := Ev.shape_count z0.data.toList z2.data.toList z3.data.toList
  rw [← hL] at hsh
  have HSH := Lib.hid hsh
  have HL := Lib.hid hL
  have HDT := Lib.hid hD
  have hb0 : Below w.heap.size w (w.alloc (.cells #[.int .i64 0, .string ⟨#[]⟩, .int .i64 0, .int .i64 0, .int .i64 0, .int .i64 0, .int .i64 0] 23)) := (Below.refl _ _).alloc (Nat.le_refl _) _
  have HNu := Lib.hid (fun w' (h' : VW w') => number_any z3 w' h'.nw s3)
  clear hz hsz hsh hL hD
  go_enter Tryz.func14, Tryz.ntmps14
  go_wp2_with fail
  refine (HS.out _ (hw.below hb0)).mono ?_
  rintro e w1 ⟨rfl, hr, hlt, hb⟩
  simp only [World.size_alloc] at hlt hr
  have p0 := hr.str0 0 z0 rfl
  have p1 := hr.str0 1 ⟨#[99, 111, 117, 110, 116]⟩ rfl
  have p2 := hr.str0 2 z2 rfl
  have p3 := hr.str0 3 z3 rfl
  have hb1 : Below w.heap.size w w1 := hb0.step hb
  have hB1 := hb
  rw [World.size_alloc] at hB1
  have hc := (bcell hb).1
  have hf := (bcell hb).2
  simp only [World.size_alloc] at hc hf
  have hl : w.heap.size < w1.heap.size := by omega
  clear hr hb
  go_wp2_with fail
  refine (HD.out _ (hw.below hb1)).mono ?_
  rintro e w2 ⟨rfl, hb⟩
  have hb2 : Below w.heap.size w w2 := hb1.step hb
  have hB2 := hB1.trans (hb.mono (by omega))
  have hc2 := (bcell hb).1
  have hf2 := (bcell hb).2
  have hl2 : w.heap.size < w2.heap.size := Nat.lt_of_lt_of_le hl hb.size
  have hm2 : w.heap.size + 1 < w2.heap.size := Nat.lt_of_lt_of_le hlt hb.size
  clear hb
  go_wp2_with fail
  refine (HNu.out _ (hw.below (hb2.new _))).mono ?_
  rintro e w3 ⟨h, hb⟩
  have hb3 : Below w.heap.size w w3 := (hb2.new _).step hb
  have hB3 := (hB2.alloc (by omega) _).trans (hb.mono (by rw [World.size_alloc]; omega))
  have hc3 := (bcell hb).1
  have hf3 := (bcell hb).2
  simp only [World.size_alloc] at hc3 hf3
  have hz3 := hb.size
  rw [World.size_alloc] at hz3
  have hE3 : w2.heap.size < w3.heap.size := by omega
  have hl3 : w.heap.size < w3.heap.size := by omega
  have hm3 : w.heap.size + 1 < w3.heap.size := by omega
  have hp2 : w.heap.size ≤ w2.heap.size := by omega
  have hq2 : w.heap.size + 1 ≤ w2.heap.size := by omega
  clear hb hz3
  rcases h with ⟨v, hv, rfl⟩ | ⟨hno, v, rfl⟩
  · have HV := Lib.hid hv
    clear hv
    by_cases hR : Ev.RightP z2.data.toList 4 v 0 0 d
    · have HR : Hid (∀ w', Calls Tryz.prog 5 #[.agg #[.int .i64 0, .string z2, .int .i64 4, .int .i64 v, .int .i64 0, .int .i64 0, .int .i64 d]] w' (Gives (.bool true) w')) := Lib.hid (fun w' => by
        have := right_any 0 z2 4 v 0 0 d w' (by omega)
        rw [show Ev.rightB z2.data.toList 4 v 0 0 d = true from decide_eq_true hR] at this
        exact this)
      have HF : Hid (Ev.Reads s.data.toList z2.data.toList 4 v 0 0 d) := Lib.hid (Ev.reads_fin HSH.out HL.out HDT.out HV.out (Or.inr ⟨rfl, rfl⟩) hR)
      clear hR
      go_wp2_with fail
      refine (HR.out _).mono ?_
      rintro e w4 ⟨rfl, hb⟩
      have hb4 : Below w.heap.size w w4 := (hb3.setCell (p := ⟨w2.heap.size, 3, none⟩) hp2 _).step hb
      have hB4 := (hB3.setCell (p := ⟨w2.heap.size, 3, none⟩) hq2 _).trans (hb.mono (by rw [World.size_setCell]; omega))
      have hc4 := (bcell hb).1
      have hf4 := (bcell hb).2
      have hz4 := hb.size
      simp only [World.size_setCell] at hc4 hf4 hz4
      have hl4 : w.heap.size < w4.heap.size := by omega
      have hE4 : w2.heap.size < w4.heap.size := by omega
      have hM4 : w.heap.size + 1 ≤ w4.heap.size := by omega
      clear hb hz4
      go_wp2_with fail
      have qs := cells7 hB4
      have q0 := qs 0 (by decide)
      have q1 := qs 1 (by decide)
      have q2 := qs 2 (by decide)
      have q3 := qs 3 (by decide)
      have q4 := qs 4 (by decide)
      have q5 := qs 5 (by decide)
      have q6 := qs 6 (by decide)
      clear qs
      exact bodyPost_ret (v := .tuple #[.agg #[.int .i64 0, .string z2, .int .i64 4, .int .i64 v, .int .i64 0, .int .i64 0, .int .i64 d], .nilIface]) (by simp [results, Tryz.results14, go_sem, q0, q1, q2, q3, q4, q5, q6]) rfl ⟨Or.inl ⟨_, _, _, _, _, _, HF.out, rfl⟩, below_set7 hb4 (Nat.le_refl _)⟩
    · have HR : Hid (∀ w', Calls Tryz.prog 5 #[.agg #[.int .i64 0, .string z2, .int .i64 4, .int .i64 v, .int .i64 0, .int .i64 0, .int .i64 d]] w' (Gives (.bool false) w')) := Lib.hid (fun w' => by
        have := right_any 0 z2 4 v 0 0 d w' (by omega)
        rw [show Ev.rightB z2.data.toList 4 v 0 0 d = false from decide_eq_false hR] at this
        exact this)
      have HF : Hid (Ev.ReadsNo s.data.toList) := Lib.hid (Ev.no_fin HSH.out HL.out HDT.out HV.out (Or.inr ⟨rfl, rfl⟩) hR)
      clear hR
      go_wp2_with fail
      refine (HR.out _).mono ?_
      rintro e w4 ⟨rfl, hb⟩
      have hb4 : Below w.heap.size w w4 := (hb3.setCell (p := ⟨w2.heap.size, 3, none⟩) hp2 _).step hb
      have hB4 := (hB3.setCell (p := ⟨w2.heap.size, 3, none⟩) hq2 _).trans (hb.mono (by rw [World.size_setCell]; omega))
      have hc4 := (bcell hb).1
      have hf4 := (bcell hb).2
      have hz4 := hb.size
      simp only [World.size_setCell] at hc4 hf4 hz4
      have hl4 : w.heap.size < w4.heap.size := by omega
      have hE4 : w2.heap.size < w4.heap.size := by omega
      have hM4 : w.heap.size + 1 ≤ w4.heap.size := by omega
      clear hb hz4
      go_wp2_with fail
      have qs := cells7 hB4
      have q0 := qs 0 (by decide)
      have q1 := qs 1 (by decide)
      have q2 := qs 2 (by decide)
      have q3 := qs 3 (by decide)
      have q4 := qs 4 (by decide)
      have q5 := qs 5 (by decide)
      have q6 := qs 6 (by decide)
      clear qs
      exact bodyPost_ret (v := .tuple #[.agg #[.int .i64 0, .string ⟨#[]⟩, .int .i64 0, .int .i64 0, .int .i64 0, .int .i64 0, .int .i64 0], .iface 28 (.int .i64 3)]) (by simp [results, Tryz.results14, go_sem, q0, q1, q2, q3, q4, q5, q6]) rfl ⟨Or.inr ⟨HF.out, rfl⟩, below_set7 hb4 (Nat.le_refl _)⟩
  · have HF : Hid (Ev.ReadsNo s.data.toList) := Lib.hid (Ev.no_num HSH.out hno)
    clear hno
    go_wp2_with fail
    have qs := cells7 hB3
    have q0 := qs 0 (by decide)
    have q1 := qs 1 (by decide)
    have q2 := qs 2 (by decide)
    have q3 := qs 3 (by decide)
    have q4 := qs 4 (by decide)
    have q5 := qs 5 (by decide)
    have q6 := qs 6 (by decide)
    clear qs
    exact bodyPost_ret (v := .tuple #[.agg #[.int .i64 0, .string ⟨#[]⟩, .int .i64 0, .int .i64 0, .int .i64 0, .int .i64 0, .int .i64 0], .iface 28 (.int .i64 3)]) (by simp [results, Tryz.results14, go_sem, q0, q1, q2, q3, q4, q5, q6]) rfl ⟨Or.inr ⟨HF.out, rfl⟩, below_set7 (hb3.setCell hp2 _) (Nat.le_refl _)⟩
end Go.Proofs.YtjmeefmofbpbnaaGreatDoor
