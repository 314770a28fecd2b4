/- event.Parse: what it hands back at a text that begins with a day, and is of no kind. -/
import Derived.Test.YtjmeefmofbpbnaaGreatDoorJoined13
namespace Go.Proofs.YtjmeefmofbpbnaaGreatDoor
open Go.RowKit
theorem no_right (z : ByteArray) (d : Int) (hz : z.size ≤ 1000) (w : World) : Calls Tryz.prog 5 #[.agg #[.int .i64 0, .string z, .int .i64 0, .int .i64 0, .int .i64 0, .int .i64 0, .int .i64 d]] w (Gives (.bool false) w) := by
  have := right_any 0 z 0 0 0 0 d w (by omega)
  rw [show Ev.rightB z.data.toList 0 0 0 0 d = false from decide_eq_false (fun h => by obtain ⟨-, -, -, h⟩ := h; omega)] at this
  exact this
set_option maxHeartbeats 2000000 in
set_option maxRecDepth 100000 in
theorem parse_n1a (s z0 z2 z3 : ByteArray) (r : List ByteArray) (n : Nat) (d : Int) (w : World) (hw : VW w) (hs : s.size ≤ 1000) (hn : (z0 :: ⟨#[105, 110]⟩ :: z2 :: z3 :: r).length = n) (hn4 : (4 : Int) ≤ (n : Int)) (hL : (z0 :: ⟨#[105, 110]⟩ :: z2 :: z3 :: r).map (fun z => z.data.toList) = Sp.spl 32 s.data.toList) (d0 : 0 ≤ d) (d1 : d ≤ 99999) (hD : Dy.Text d z0.data.toList)
    (hN : Ev.ReadsNo s.data.toList) (h6 : ((n : Int) == 6) = false) :
    Calls Tryz.prog 14 #[.string s] w (EvParse s w) := by
  have hsz := spl_sizes hL
  have s2 : z2.size ≤ 1000 := Nat.le_trans (hsz z2 (by simp)) hs
  have HS := Lib.hid (fun w' (h' : VW w') => split_one 32 s (z0 :: ⟨#[105, 110]⟩ :: z2 :: z3 :: r) n hn hL w' h'.nw (by omega))
  have HD := Lib.hid (fun w' (h' : VW w') => day_parse_yes d z0 w' h'.dw d0 d1 hD)
  have HF := Lib.hid hN
  have HR := Lib.hid (no_right z2 d s2)
  have hb0 : Below w.heap.size w (w.alloc (.cells #[.int .i64 0, .string ⟨#[]⟩, .int .i64 0, .int .i64 0, .int .i64 0, .int .i64 0, .int .i64 0] 23)) := (Below.refl _ _).alloc (Nat.le_refl _) _
  clear hsz hL hD hN hn
  go_enter Tryz.func14, Tryz.ntmps14
  go_wp2_with fail
  refine (HS.out _ (hw.below hb0)).mono ?_
  rintro e w1 ⟨rfl, hr, hlt, hb⟩
  simp only [World.size_alloc] at hlt hr
  have p0 := hr.str0 0 z0 rfl
  have p1 := hr.str0 1 ⟨#[105, 110]⟩ rfl
  have p2 := hr.str0 2 z2 rfl
  have p3 := hr.str0 3 z3 rfl
  have hb1 : Below w.heap.size w w1 := hb0.step hb
  have hB1 := hb
  rw [World.size_alloc] at hB1
  have hc := (bcell hb).1
  have hf := (bcell hb).2
  simp only [World.size_alloc] at hc hf
  have hl : w.heap.size < w1.heap.size := by omega
  clear hr hb
  go_wp2_with fail
  refine (HD.out _ (hw.below hb1)).mono ?_
  rintro e w2 ⟨rfl, hb⟩
  have hb2 : Below w.heap.size w w2 := hb1.step hb
  have hB2 := hB1.trans (hb.mono (by omega))
  have hc2 := (bcell hb).1
  have hf2 := (bcell hb).2
  have hl2 : w.heap.size < w2.heap.size := Nat.lt_of_lt_of_le hl hb.size
  have hm2 : w.heap.size + 1 < w2.heap.size := Nat.lt_of_lt_of_le hlt hb.size
  clear hb
  go_wp2_with fail
  refine (HR.out _).mono ?_
  rintro e w3 ⟨rfl, hb⟩
  have hb3 : Below w.heap.size w w3 := (hb2.new _).step hb
  have hB3 := (hB2.alloc (by omega) _).trans (hb.mono (by rw [World.size_alloc]; omega))
  have hc3 := (bcell hb).1
  have hf3 := (bcell hb).2
  simp only [World.size_alloc] at hc3 hf3
  have hz3 := hb.size
  rw [World.size_alloc] at hz3
  have hl3 : w.heap.size < w3.heap.size := by omega
  clear hb hz3
  go_wp2_with fail
  have qs := cells7 hB3
  have q0 := qs 0 (by decide)
  have q1 := qs 1 (by decide)
  have q2 := qs 2 (by decide)
  have q3 := qs 3 (by decide)
  have q4 := qs 4 (by decide)
  have q5 := qs 5 (by decide)
  have q6 := qs 6 (by decide)
  clear qs
  exact bodyPost_ret (v := .tuple #[.agg #[.int .i64 0, .string ⟨#[]⟩, .int .i64 0, .int .i64 0, .int .i64 0, .int .i64 0, .int .i64 0], .iface 28 (.int .i64 3)]) (by simp [results, Tryz.results14, go_sem, q0, q1, q2, q3, q4, q5, q6]) rfl ⟨Or.inr ⟨HF.out, rfl⟩, below_set7 hb3 (Nat.le_refl _)⟩
set_option maxHeartbeats 2000000 in
set_option maxRecDepth 100000 in
theorem parse_n1b (s z0 z2 z3 z4 z5 : ByteArray) (d : Int) (w : World) (hw : VW w) (hs : s.size ≤ 1000) (hn : [z0, ⟨#[105, 110]⟩, z2, z3, z4, z5].length = 6) (hL : [z0, ⟨#[105, 110]⟩, z2, z3, z4, z5].map (fun z => z.data.toList) = Sp.spl 32 s.data.toList) (d0 : 0 ≤ d) (d1 : d ≤ 99999) (hD : Dy.Text d z0.data.toList)
    (hN : Ev.ReadsNo s.data.toList) (t4 : (z4.toList == [97, 116]) = false) :
    Calls Tryz.prog 14 #[.string s] w (EvParse s w) := by
  have hsz := spl_sizes hL
  have s2 : z2.size ≤ 1000 := Nat.le_trans (hsz z2 (by simp)) hs
  have HS := Lib.hid (fun w' (h' : VW w') => split_one 32 s [z0, ⟨#[105, 110]⟩, z2, z3, z4, z5] 6 hn hL w' h'.nw (by omega))
  have HD := Lib.hid (fun w' (h' : VW w') => day_parse_yes d z0 w' h'.dw d0 d1 hD)
  have HF := Lib.hid hN
  have HR := Lib.hid (no_right z2 d s2)
  have hb0 : Below w.heap.size w (w.alloc (.cells #[.int .i64 0, .string ⟨#[]⟩, .int .i64 0, .int .i64 0, .int .i64 0, .int .i64 0, .int .i64 0] 23)) := (Below.refl _ _).alloc (Nat.le_refl _) _
  clear hsz hL hD hN hn
  go_enter Tryz.func14, Tryz.ntmps14
  go_wp2_with fail
  refine (HS.out _ (hw.below hb0)).mono ?_
  rintro e w1 ⟨rfl, hr, hlt, hb⟩
  simp only [World.size_alloc] at hlt hr
  have p0 := hr.str0 0 z0 rfl
  have p1 := hr.str0 1 ⟨#[105, 110]⟩ rfl
  have p2 := hr.str0 2 z2 rfl
  have p3 := hr.str0 3 z3 rfl
  have p4 := hr.str0 4 z4 rfl
  have hb1 : Below w.heap.size w w1 := hb0.step hb
  have hB1 := hb
  rw [World.size_alloc] at hB1
  have hc := (bcell hb).1
  have hf := (bcell hb).2
  simp only [World.size_alloc] at hc hf
  have hl : w.heap.size < w1.heap.size := by omega
  clear hr hb
  go_wp2_with fail
  refine (HD.out _ (hw.below hb1)).mono ?_
  rintro e w2 ⟨rfl, hb⟩
  have hb2 : Below w.heap.size w w2 := hb1.step hb
  have hB2 := hB1.trans (hb.mono (by omega))
  have hc2 := (bcell hb).1
  have hf2 := (bcell hb).2
  have hl2 : w.heap.size < w2.heap.size := Nat.lt_of_lt_of_le hl hb.size
  have hm2 : w.heap.size + 1 < w2.heap.size := Nat.lt_of_lt_of_le hlt hb.size
  clear hb
  go_wp2_with fail
  refine (HR.out _).mono ?_
  rintro e w3 ⟨rfl, hb⟩
  have hb3 : Below w.heap.size w w3 := (hb2.new _).step hb
  have hB3 := (hB2.alloc (by omega) _).trans (hb.mono (by rw [World.size_alloc]; omega))
  have hc3 := (bcell hb).1
  have hf3 := (bcell hb).2
  simp only [World.size_alloc] at hc3 hf3
  have hz3 := hb.size
  rw [World.size_alloc] at hz3
  have hl3 : w.heap.size < w3.heap.size := by omega
  clear hb hz3
  go_wp2_with fail
  have qs := cells7 hB3
  have q0 := qs 0 (by decide)
  have q1 := qs 1 (by decide)
  have q2 := qs 2 (by decide)
  have q3 := qs 3 (by decide)
  have q4 := qs 4 (by decide)
  have q5 := qs 5 (by decide)
  have q6 := qs 6 (by decide)
  clear qs
  exact bodyPost_ret (v := .tuple #[.agg #[.int .i64 0, .string ⟨#[]⟩, .int .i64 0, .int .i64 0, .int .i64 0, .int .i64 0, .int .i64 0], .iface 28 (.int .i64 3)]) (by simp [results, Tryz.results14, go_sem, q0, q1, q2, q3, q4, q5, q6]) rfl ⟨Or.inr ⟨HF.out, rfl⟩, below_set7 hb3 (Nat.le_refl _)⟩
set_option maxHeartbeats 2000000 in
set_option maxRecDepth 100000 in
theorem parse_n2a (s z0 z2 z3 : ByteArray) (r : List ByteArray) (n : Nat) (d : Int) (w : World) (hw : VW w) (hs : s.size ≤ 1000) (hn : (z0 :: ⟨#[99, 104, 97, 114, 103, 101]⟩ :: z2 :: z3 :: r).length = n) (hn4 : (4 : Int) ≤ (n : Int)) (hL : (z0 :: ⟨#[99, 104, 97, 114, 103, 101]⟩ :: z2 :: z3 :: r).map (fun z => z.data.toList) = Sp.spl 32 s.data.toList) (d0 : 0 ≤ d) (d1 : d ≤ 99999) (hD : Dy.Text d z0.data.toList)
    (hN : Ev.ReadsNo s.data.toList) (h6 : ((n : Int) == 6) = false) :
    Calls Tryz.prog 14 #[.string s] w (EvParse s w) := by
  have hsz := spl_sizes hL
  have s2 : z2.size ≤ 1000 := Nat.le_trans (hsz z2 (by simp)) hs
  have HS := Lib.hid (fun w' (h' : VW w') => split_one 32 s (z0 :: ⟨#[99, 104, 97, 114, 103, 101]⟩ :: z2 :: z3 :: r) n hn hL w' h'.nw (by omega))
  have HD := Lib.hid (fun w' (h' : VW w') => day_parse_yes d z0 w' h'.dw d0 d1 hD)
  have HF := Lib.hid hN
  have HR := Lib.hid (no_right z2 d s2)
  have hb0 : Below w.heap.size w (w.alloc (.cells #[.int .i64 0, .string ⟨#[]⟩, .int .i64 0, .int .i64 0, .int .i64 0, .int .i64 0, .int .i64 0] 23)) := (Below.refl _ _).alloc (Nat.le_refl _) _
  clear hsz hL hD hN hn
  go_enter Tryz.func14, Tryz.ntmps14
  go_wp2_with fail
  refine (HS.out _ (hw.below hb0)).mono ?_
  rintro e w1 ⟨rfl, hr, hlt, hb⟩
  simp only [World.size_alloc] at hlt hr
  have p0 := hr.str0 0 z0 rfl
  have p1 := hr.str0 1 ⟨#[99, 104, 97, 114, 103, 101]⟩ rfl
  have p2 := hr.str0 2 z2 rfl
  have p3 := hr.str0 3 z3 rfl
  have hb1 : Below w.heap.size w w1 := hb0.step hb
  have hB1 := hb
  rw [World.size_alloc] at hB1
  have hc := (bcell hb).1
  have hf := (bcell hb).2
  simp only [World.size_alloc] at hc hf
  have hl : w.heap.size < w1.heap.size := by omega
  clear hr hb
  go_wp2_with fail
  refine (HD.out _ (hw.below hb1)).mono ?_
  rintro e w2 ⟨rfl, hb⟩
  have hb2 : Below w.heap.size w w2 := hb1.step hb
  have hB2 := hB1.trans (hb.mono (by omega))
  have hc2 := (bcell hb).1
  have hf2 := (bcell hb).2
  have hl2 : w.heap.size < w2.heap.size := Nat.lt_of_lt_of_le hl hb.size
  have hm2 : w.heap.size + 1 < w2.heap.size := Nat.lt_of_lt_of_le hlt hb.size
  clear hb
  go_wp2_with fail
  refine (HR.out _).mono ?_
  rintro e w3 ⟨rfl, hb⟩
  have hb3 : Below w.heap.size w w3 := (hb2.new _).step hb
  have hB3 := (hB2.alloc (by omega) _).trans (hb.mono (by rw [World.size_alloc]; omega))
  have hc3 := (bcell hb).1
  have hf3 := (bcell hb).2
  simp only [World.size_alloc] at hc3 hf3
  have hz3 := hb.size
  rw [World.size_alloc] at hz3
  have hl3 : w.heap.size < w3.heap.size := by omega
  clear hb hz3
  go_wp2_with fail
  have qs := cells7 hB3
  have q0 := qs 0 (by decide)
  have q1 := qs 1 (by decide)
  have q2 := qs 2 (by decide)
  have q3 := qs 3 (by decide)
  have q4 := qs 4 (by decide)
  have q5 := qs 5 (by decide)
  have q6 := qs 6 (by decide)
  clear qs
  exact bodyPost_ret (v := .tuple #[.agg #[.int .i64 0, .string ⟨#[]⟩, .int .i64 0, .int .i64 0, .int .i64 0, .int .i64 0, .int .i64 0], .iface 28 (.int .i64 3)]) (by simp [results, Tryz.results14, go_sem, q0, q1, q2, q3, q4, q5, q6]) rfl ⟨Or.inr ⟨HF.out, rfl⟩, below_set7 hb3 (Nat.le_refl _)⟩
set_option maxHeartbeats 2000000 in
set_option maxRecDepth 100000 in
theorem parse_n2b (s z0 z2 z3 z4 z5 : ByteArray) (d : Int) (w : World) (hw : VW w) (hs : s.size ≤ 1000) (hn : [z0, ⟨#[99, 104, 97, 114, 103, 101]⟩, z2, z3, z4, z5].length = 6) (hL : [z0, ⟨#[99, 104, 97, 114, 103, 101]⟩, z2, z3, z4, z5].map (fun z => z.data.toList) = Sp.spl 32 s.data.toList) (d0 : 0 ≤ d) (d1 : d ≤ 99999) (hD : Dy.Text d z0.data.toList)
    (hN : Ev.ReadsNo s.data.toList) (t4 : (z4.toList == [102, 111, 114]) = false) :
    Calls Tryz.prog 14 #[.string s] w (EvParse s w) := by
  have hsz := spl_sizes hL
  have s2 : z2.size ≤ 1000 := Nat.le_trans (hsz z2 (by simp)) hs
  have HS := Lib.hid (fun w' (h' : VW w') => split_one 32 s [z0, ⟨#[99, 104, 97, 114, 103, 101]⟩, z2, z3, z4, z5] 6 hn hL w' h'.nw (by omega))
  have HD := Lib.hid (fun w' (h' : VW w') => day_parse_yes d z0 w' h'.dw d0 d1 hD)
  have HF := Lib.hid hN
  have HR := Lib.hid (no_right z2 d s2)
  have hb0 : Below w.heap.size w (w.alloc (.cells #[.int .i64 0, .string ⟨#[]⟩, .int .i64 0, .int .i64 0, .int .i64 0, .int .i64 0, .int .i64 0] 23)) := (Below.refl _ _).alloc (Nat.le_refl _) _
  clear hsz hL hD hN hn
  go_enter Tryz.func14, Tryz.ntmps14
  go_wp2_with fail
  refine (HS.out _ (hw.below hb0)).mono ?_
  rintro e w1 ⟨rfl, hr, hlt, hb⟩
  simp only [World.size_alloc] at hlt hr
  have p0 := hr.str0 0 z0 rfl
  have p1 := hr.str0 1 ⟨#[99, 104, 97, 114, 103, 101]⟩ rfl
  have p2 := hr.str0 2 z2 rfl
  have p3 := hr.str0 3 z3 rfl
  have p4 := hr.str0 4 z4 rfl
  have hb1 : Below w.heap.size w w1 := hb0.step hb
  have hB1 := hb
  rw [World.size_alloc] at hB1
  have hc := (bcell hb).1
  have hf := (bcell hb).2
  simp only [World.size_alloc] at hc hf
  have hl : w.heap.size < w1.heap.size := by omega
  clear hr hb
  go_wp2_with fail
  refine (HD.out _ (hw.below hb1)).mono ?_
  rintro e w2 ⟨rfl, hb⟩
  have hb2 : Below w.heap.size w w2 := hb1.step hb
  have hB2 := hB1.trans (hb.mono (by omega))
  have hc2 := (bcell hb).1
  have hf2 := (bcell hb).2
  have hl2 : w.heap.size < w2.heap.size := Nat.lt_of_lt_of_le hl hb.size
  have hm2 : w.heap.size + 1 < w2.heap.size := Nat.lt_of_lt_of_le hlt hb.size
  clear hb
  go_wp2_with fail
  refine (HR.out _).mono ?_
  rintro e w3 ⟨rfl, hb⟩
  have hb3 : Below w.heap.size w w3 := (hb2.new _).step hb
  have hB3 := (hB2.alloc (by omega) _).trans (hb.mono (by rw [World.size_alloc]; omega))
  have hc3 := (bcell hb).1
  have hf3 := (bcell hb).2
  simp only [World.size_alloc] at hc3 hf3
  have hz3 := hb.size
  rw [World.size_alloc] at hz3
  have hl3 : w.heap.size < w3.heap.size := by omega
  clear hb hz3
  go_wp2_with fail
  have qs := cells7 hB3
  have q0 := qs 0 (by decide)
  have q1 := qs 1 (by decide)
  have q2 := qs 2 (by decide)
  have q3 := qs 3 (by decide)
  have q4 := qs 4 (by decide)
  have q5 := qs 5 (by decide)
  have q6 := qs 6 (by decide)
  clear qs
  exact bodyPost_ret (v := .tuple #[.agg #[.int .i64 0, .string ⟨#[]⟩, .int .i64 0, .int .i64 0, .int .i64 0, .int .i64 0, .int .i64 0], .iface 28 (.int .i64 3)]) (by simp [results, Tryz.results14, go_sem, q0, q1, q2, q3, q4, q5, q6]) rfl ⟨Or.inr ⟨HF.out, rfl⟩, below_set7 hb3 (Nat.le_refl _)⟩
set_option maxHeartbeats 2000000 in
set_option maxRecDepth 100000 in
theorem parse_n3 (s z0 z2 z3 : ByteArray) (r : List ByteArray) (n : Nat) (d : Int) (w : World) (hw : VW w) (hs : s.size ≤ 1000) (hn : (z0 :: ⟨#[111, 117, 116]⟩ :: z2 :: z3 :: r).length = n) (hn4 : (4 : Int) ≤ (n : Int)) (hL : (z0 :: ⟨#[111, 117, 116]⟩ :: z2 :: z3 :: r).map (fun z => z.data.toList) = Sp.spl 32 s.data.toList) (d0 : 0 ≤ d) (d1 : d ≤ 99999) (hD : Dy.Text d z0.data.toList)
    (hN : Ev.ReadsNo s.data.toList) (h4 : ((n : Int) == 4) = false) :
    Calls Tryz.prog 14 #[.string s] w (EvParse s w) := by
  have hsz := spl_sizes hL
  have s2 : z2.size ≤ 1000 := Nat.le_trans (hsz z2 (by simp)) hs
  have HS := Lib.hid (fun w' (h' : VW w') => split_one 32 s (z0 :: ⟨#[111, 117, 116]⟩ :: z2 :: z3 :: r) n hn hL w' h'.nw (by omega))
  have HD := Lib.hid (fun w' (h' : VW w') => day_parse_yes d z0 w' h'.dw d0 d1 hD)
  have HF := Lib.hid hN
  have HR := Lib.hid (no_right z2 d s2)
  have hb0 : Below w.heap.size w (w.alloc (.cells #[.int .i64 0, .string ⟨#[]⟩, .int .i64 0, .int .i64 0, .int .i64 0, .int .i64 0, .int .i64 0] 23)) := (Below.refl _ _).alloc (Nat.le_refl _) _
  clear hsz hL hD hN hn
  go_enter Tryz.func14, Tryz.ntmps14
  go_wp2_with fail
  refine (HS.out _ (hw.below hb0)).mono ?_
  rintro e w1 ⟨rfl, hr, hlt, hb⟩
  simp only [World.size_alloc] at hlt hr
  have p0 := hr.str0 0 z0 rfl
  have p1 := hr.str0 1 ⟨#[111, 117, 116]⟩ rfl
  have p2 := hr.str0 2 z2 rfl
  have p3 := hr.str0 3 z3 rfl
  have hb1 : Below w.heap.size w w1 := hb0.step hb
  have hB1 := hb
  rw [World.size_alloc] at hB1
  have hc := (bcell hb).1
  have hf := (bcell hb).2
  simp only [World.size_alloc] at hc hf
  have hl : w.heap.size < w1.heap.size := by omega
  clear hr hb
  go_wp2_with fail
  refine (HD.out _ (hw.below hb1)).mono ?_
  rintro e w2 ⟨rfl, hb⟩
  have hb2 : Below w.heap.size w w2 := hb1.step hb
  have hB2 := hB1.trans (hb.mono (by omega))
  have hc2 := (bcell hb).1
  have hf2 := (bcell hb).2
  have hl2 : w.heap.size < w2.heap.size := Nat.lt_of_lt_of_le hl hb.size
  have hm2 : w.heap.size + 1 < w2.heap.size := Nat.lt_of_lt_of_le hlt hb.size
  clear hb
  go_wp2_with fail
  refine (HR.out _).mono ?_
  rintro e w3 ⟨rfl, hb⟩
  have hb3 : Below w.heap.size w w3 := (hb2.new _).step hb
  have hB3 := (hB2.alloc (by omega) _).trans (hb.mono (by rw [World.size_alloc]; omega))
  have hc3 := (bcell hb).1
  have hf3 := (bcell hb).2
  simp only [World.size_alloc] at hc3 hf3
  have hz3 := hb.size
  rw [World.size_alloc] at hz3
  have hl3 : w.heap.size < w3.heap.size := by omega
  clear hb hz3
  go_wp2_with fail
  have qs := cells7 hB3
  have q0 := qs 0 (by decide)
  have q1 := qs 1 (by decide)
  have q2 := qs 2 (by decide)
  have q3 := qs 3 (by decide)
  have q4 := qs 4 (by decide)
  have q5 := qs 5 (by decide)
  have q6 := qs 6 (by decide)
  clear qs
  exact bodyPost_ret (v := .tuple #[.agg #[.int .i64 0, .string ⟨#[]⟩, .int .i64 0, .int .i64 0, .int .i64 0, .int .i64 0, .int .i64 0], .iface 28 (.int .i64 3)]) (by simp [results, Tryz.results14, go_sem, q0, q1, q2, q3, q4, q5, q6]) rfl ⟨Or.inr ⟨HF.out, rfl⟩, below_set7 hb3 (Nat.le_refl _)⟩
set_option maxHeartbeats 2000000 in
set_option maxRecDepth 100000 in
theorem parse_n4 (s z0 z2 z3 : ByteArray) (r : List ByteArray) (n : Nat) (d : Int) (w : World) (hw : VW w) (hs : s.size ≤ 1000) (hn : (z0 :: ⟨#[99, 111, 117, 110, 116]⟩ :: z2 :: z3 :: r).length = n) (hn4 : (4 : Int) ≤ (n : Int)) (hL : (z0 :: ⟨#[99, 111, 117, 110, 116]⟩ :: z2 :: z3 :: r).map (fun z => z.data.toList) = Sp.spl 32 s.data.toList) (d0 : 0 ≤ d) (d1 : d ≤ 99999) (hD : Dy.Text d z0.data.toList)
    (hN : Ev.ReadsNo s.data.toList) (h4 : ((n : Int) == 4) = false) :
    Calls Tryz.prog 14 #[.string s] w (EvParse s w) := by
  have hsz := spl_sizes hL
  have s2 : z2.size ≤ 1000 := Nat.le_trans (hsz z2 (by simp)) hs
  have HS := Lib.hid (fun w' (h' : VW w') => split_one 32 s (z0 :: ⟨#[99, 111, 117, 110, 116]⟩ :: z2 :: z3 :: r) n hn hL w' h'.nw (by omega))
  have HD := Lib.hid (fun w' (h' : VW w') => day_parse_yes d z0 w' h'.dw d0 d1 hD)
  have HF := Lib.hid hN
  have HR := Lib.hid (no_right z2 d s2)
  have hb0 : Below w.heap.size w (w.alloc (.cells #[.int .i64 0, .string ⟨#[]⟩, .int .i64 0, .int .i64 0, .int .i64 0, .int .i64 0, .int .i64 0] 23)) := (Below.refl _ _).alloc (Nat.le_refl _) _
  clear hsz hL hD hN hn
  go_enter Tryz.func14, Tryz.ntmps14
  go_wp2_with fail
  refine (HS.out _ (hw.below hb0)).mono ?_
  rintro e w1 ⟨rfl, hr, hlt, hb⟩
  simp only [World.size_alloc] at hlt hr
  have p0 := hr.str0 0 z0 rfl
  have p1 := hr.str0 1 ⟨#[99, 111, 117, 110, 116]⟩ rfl
  have p2 := hr.str0 2 z2 rfl
  have p3 := hr.str0 3 z3 rfl
  have hb1 : Below w.heap.size w w1 := hb0.step hb
  have hB1 := hb
  rw [World.size_alloc] at hB1
  have hc := (bcell hb).1
  have hf := (bcell hb).2
  simp only [World.size_alloc] at hc hf
  have hl : w.heap.size < w1.heap.size := by omega
  clear hr hb
  go_wp2_with fail
  refine (HD.out _ (hw.below hb1)).mono ?_
  rintro e w2 ⟨rfl, hb⟩
  have hb2 : Below w.heap.size w w2 := hb1.step hb
  have hB2 := hB1.trans (hb.mono (by omega))
  have hc2 := (bcell hb).1
  have hf2 := (bcell hb).2
  have hl2 : w.heap.size < w2.heap.size := Nat.lt_of_lt_of_le hl hb.size
  have hm2 : w.heap.size + 1 < w2.heap.size := Nat.lt_of_lt_of_le hlt hb.size
  clear hb
  go_wp2_with fail
  refine (HR.out _).mono ?_
  rintro e w3 ⟨rfl, hb⟩
  have hb3 : Below w.heap.size w w3 := (hb2.new _).step hb
  have hB3 := (hB2.alloc (by omega) _).trans (hb.mono (by rw [World.size_alloc]; omega))
  have hc3 := (bcell hb).1
  have hf3 := (bcell hb).2
  simp only [World.size_alloc] at hc3 hf3
  have hz3 := hb.size
  rw [World.size_alloc] at hz3
  have hl3 : w.heap.size < w3.heap.size := by omega
  clear hb hz3
  go_wp2_with fail
  have qs := cells7 hB3
  have q0 := qs 0 (by decide)
  have q1 := qs 1 (by decide)
  have q2 := qs 2 (by decide)
  have q3 := qs 3 (by decide)
  have q4 := qs 4 (by decide)
  have q5 := qs 5 (by decide)
  have q6 := qs 6 (by decide)
  clear qs
  exact bodyPost_ret (v := .tuple #[.agg #[.int .i64 0, .string ⟨#[]⟩, .int .i64 0, .int .i64 0, .int .i64 0, .int .i64 0, .int .i64 0], .iface 28 (.int .i64 3)]) (by simp [results, Tryz.results14, go_sem, q0, q1, q2, q3, q4, q5, q6]) rfl ⟨Or.inr ⟨HF.out, rfl⟩, below_set7 hb3 (Nat.le_refl _)⟩
set_option maxHeartbeats 2000000 in
set_option maxRecDepth 100000 in
theorem parse_n0 (s z0 z1 z2 z3 : ByteArray) (r : List ByteArray) (n : Nat) (d : Int) (w : World) (hw : VW w) (hs : s.size ≤ 1000) (hn : (z0 :: z1 :: z2 :: z3 :: r).length = n) (hn4 : (4 : Int) ≤ (n : Int)) (hL : (z0 :: z1 :: z2 :: z3 :: r).map (fun z => z.data.toList) = Sp.spl 32 s.data.toList) (d0 : 0 ≤ d) (d1 : d ≤ 99999) (hD : Dy.Text d z0.data.toList)
    (hN : Ev.ReadsNo s.data.toList) (t1 : (z1.toList == [105, 110]) = false) (t2 : (z1.toList == [99, 104, 97, 114, 103, 101]) = false) (t3 : (z1.toList == [111, 117, 116]) = false) (t4 : (z1.toList == [99, 111, 117, 110, 116]) = false) :
    Calls Tryz.prog 14 #[.string s] w (EvParse s w) := by
  have hsz := spl_sizes hL
  have s2 : z2.size ≤ 1000 := Nat.le_trans (hsz z2 (by simp)) hs
  have HS := Lib.hid (fun w' (h' : VW w') => split_one 32 s (z0 :: z1 :: z2 :: z3 :: r) n hn hL w' h'.nw (by omega))
  have HD := Lib.hid (fun w' (h' : VW w') => day_parse_yes d z0 w' h'.dw d0 d1 hD)
  have HF := Lib.hid hN
  have HR := Lib.hid (no_right z2 d s2)
  have hb0 : Below w.heap.size w (w.alloc (.cells #[.int .i64 0, .string ⟨#[]⟩, .int .i64 0, .int .i64 0, .int .i64 0, .int .i64 0, .int .i64 0] 23)) := (Below.refl _ _).alloc (Nat.le_refl _) _
  clear hsz hL hD hN hn
  go_enter Tryz.func14, Tryz.ntmps14
  go_wp2_with fail
  refine (HS.out _ (hw.below hb0)).mono ?_
  rintro e w1 ⟨rfl, hr, hlt, hb⟩
  simp only [World.size_alloc] at hlt hr
  have p0 := hr.str0 0 z0 rfl
  have p1 := hr.str0 1 z1 rfl
  have p2 := hr.str0 2 z2 rfl
  have p3 := hr.str0 3 z3 rfl
  have hb1 : Below w.heap.size w w1 := hb0.step hb
  have hB1 := hb
  rw [World.size_alloc] at hB1
  have hc := (bcell hb).1
  have hf := (bcell hb).2
  simp only [World.size_alloc] at hc hf
  have hl : w.heap.size < w1.heap.size := by omega
  clear hr hb
  go_wp2_with fail
  refine (HD.out _ (hw.below hb1)).mono ?_
  rintro e w2 ⟨rfl, hb⟩
  have hb2 : Below w.heap.size w w2 := hb1.step hb
  have hB2 := hB1.trans (hb.mono (by omega))
  have hc2 := (bcell hb).1
  have hf2 := (bcell hb).2
  have hl2 : w.heap.size < w2.heap.size := Nat.lt_of_lt_of_le hl hb.size
  have hm2 : w.heap.size + 1 < w2.heap.size := Nat.lt_of_lt_of_le hlt hb.size
  clear hb
  go_wp2_with fail
  refine (HR.out _).mono ?_
  rintro e w3 ⟨rfl, hb⟩
  have hb3 : Below w.heap.size w w3 := (hb2.new _).step hb
  have hB3 := (hB2.alloc (by omega) _).trans (hb.mono (by rw [World.size_alloc]; omega))
  have hc3 := (bcell hb).1
  have hf3 := (bcell hb).2
  simp only [World.size_alloc] at hc3 hf3
  have hz3 := hb.size
  rw [World.size_alloc] at hz3
  have hl3 : w.heap.size < w3.heap.size := by omega
  clear hb hz3
  go_wp2_with fail
  have qs := cells7 hB3
  have q0 := qs 0 (by decide)
  have q1 := qs 1 (by decide)
  have q2 := qs 2 (by decide)
  have q3 := qs 3 (by decide)
  have q4 := qs 4 (by decide)
  have q5 := qs 5 (by decide)
  have q6 := qs 6 (by decide)
  clear qs
  exact bodyPost_ret (v := .tuple #[.agg #[.int .i64 0, .string ⟨#[]⟩, .int .i64 0, .int .i64 0, .int .i64 0, .int .i64 0, .int .i64 0], .iface 28 (.int .i64 3)]) (by simp [results, Tryz.results14, go_sem, q0, q1, q2, q3, q4, q5, q6]) rfl ⟨Or.inr ⟨HF.out, rfl⟩, below_set7 hb3 (Nat.le_refl _)⟩
theorem ba_of {z : ByteArray} {l : List UInt8} (h : z.data.toList = l) : z = ⟨l.toArray⟩ := by
  subst h
  rfl
theorem ba_ne {z : ByteArray} {l : List UInt8} (h : ¬ z.data.toList = l) : (z.toList == l) = false := by
  rw [Go.ByteArray.toList_eq]
  simpa using h
end Go.Proofs.YtjmeefmofbpbnaaGreatDoor
