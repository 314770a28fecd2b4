/- tallymanref.ParseEvent at no kind's word. -/
import Derived.Test.YtjmeefmofbpbnaaGreatDoorRnP
namespace Go.Proofs.YtjmeefmofbpbnaaGreatDoor
open Go.RowKit
set_option linter.unusedVariables false

set_option maxHeartbeats 4000000 in
set_option maxRecDepth 100000 in
theorem refParse_0 (s z0 z1 z2 z3 z4 z5 : ByteArray) (zs r : List ByteArray) (n : Nat) (w : World) (hw : PW2 w) (hs : s.size ≤ 1000) (hn : zs.length = n) (hz : zs.map (fun z => z.data.toList) = Sp.spl 32 s.data.toList) (hZ : zs ++ six = z0 :: z1 :: z2 :: z3 :: z4 :: z5 :: r) (t1 : (([105, 110] : List UInt8) == z1.toList) = false) (t2 : (([99, 104, 97, 114, 103, 101] : List UInt8) == z1.toList) = false) (t3 : (([111, 117, 116] : List UInt8) == z1.toList) = false) (t4 : (([99, 111, 117, 110, 116] : List UInt8) == z1.toList) = false) (hk0 : z1.data.toList ≠ Ev.word 1 ∧ z1.data.toList ≠ Ev.word 2 ∧ z1.data.toList ≠ Ev.word 3 ∧ z1.data.toList ≠ Ev.word 4) :
    Calls Tryz.prog 13 #[.string s] w (RefEvParse s w) := by
  have hsz : ∀ z ∈ zs ++ six, z.size ≤ 1000 := fun z h => by
    rcases List.mem_append.1 h with h | h
    · exact Nat.le_trans (spl_sizes hz z h) hs
    · simp only [six, List.mem_cons, List.not_mem_nil, or_false] at h
      rcases h with rfl | rfl | rfl | rfl | rfl | rfl <;> decide
  rw [hZ] at hsz
  have s0 : z0.size ≤ 1000 := hsz z0 (by simp)
  have s2 : z2.size ≤ 1000 := hsz z2 (by simp)
  have s3 : z3.size ≤ 1000 := hsz z3 (by simp)
  have s5 : z5.size ≤ 1000 := hsz z5 (by simp)
  have hnl : n + 6 = r.length + 6 := by
    have := congrArg List.length hZ
    simp only [List.length_append, hn, six, List.length_cons, List.length_nil] at this
    omega
  have hnb : n ≤ 1001 := by
    have := Sp.spl_len 32 s.data.toList
    rw [← hz, List.length_map, hn] at this
    have h2 := List.count_le_length (a := (32 : UInt8)) (l := s.data.toList)
    have h3 : s.data.toList.length = s.size := by simp
    omega
  have HP : Hid (∀ it k q p o d, Ev.Reads s.data.toList it k q p o d → Dy.Text d z0.data.toList ∧ (z1 : ByteArray).data.toList = Ev.word k ∧ z2.data.toList = it ∧ ((k = 1 ∧ Nm.Is z3.data.toList q ∧ Mn.parse z5.data.toList = some p ∧ o = 0) ∨ (k = 2 ∧ Nm.Is z5.data.toList o ∧ Mn.parse z3.data.toList = some p ∧ q = 0) ∨ ((k = 3 ∨ k = 4) ∧ Nm.Is z3.data.toList q ∧ p = 0 ∧ o = 0))) := Lib.hid (fun it k q p o d h => by
    have e : Sp.spl 32 s.data.toList ++ six.map (fun z => z.data.toList) = (z0 :: z1 :: z2 :: z3 :: z4 :: z5 :: r).map (fun z => z.data.toList) := by rw [← hz, ← List.map_append, hZ]
    exact Ev.reads_pieces h e)
  have HS := Lib.hid (fun w' (h' : NW w') b hb => split_own 32 s zs n hn hz w' b hb h' (by omega))
  have HD := Lib.hid (fun w' (h' : DR w') => date_val z0 w' h' s0)
  have HA3 := Lib.hid (fun w' (h' : NW w') => atoi_val z3 w' h' s3)
  have HA5 := Lib.hid (fun w' (h' : NW w') => atoi_val z5 w' h' s5)
  have hb0 : Below w.heap.size w (w.alloc (.cells #[.int .i64 0, .string ⟨#[]⟩, .int .i64 0, .int .i64 0, .int .i64 0, .int .i64 0, .int .i64 0] 23)) := (Below.refl _ _).alloc (Nat.le_refl _) _
  obtain ⟨i0, hi, hiz, his, hib⟩ := info_parts info_st
  have hxs : zs.map Value.string ++ [Value.string ⟨#[]⟩, .string ⟨#[]⟩, .string ⟨#[]⟩, .string ⟨#[]⟩, .string ⟨#[]⟩, .string ⟨#[]⟩] = (z0 :: z1 :: z2 :: z3 :: z4 :: z5 :: r).map Value.string := by
    rw [← hZ, List.map_append]
    rfl
  have HX := Lib.hid hxs
  have HI := Lib.hid hi
  clear hsz hz hZ hn hxs
  have HK0 := Lib.hid hk0
  clear hk0
  go_enter Tryz.func13, Tryz.ntmps13
  go_wp2_with fail
  refine (HS.out _ (hw.nw.below hb0) (w.heap.size + 1) (by simp)).mono ?_
  rintro e w1 ⟨rfl, hown, hlt, hb⟩
  simp only [World.size_alloc] at hlt hown
  have hB1 := hb
  rw [World.size_alloc] at hB1
  clear hb
  go_wp2_with (first
    | (at_builtin; refine app_many (w := w1) rfl (.tmp 11) (.tmp 12) 55 rfl (w.heap.size + 1) 9 i0 (.string ⟨#[]⟩) 1 16 Tryz.underlying55 HI.out hiz his hib rfl (by decide) _ _ _ hown rfl 6 [.string ⟨#[]⟩, .string ⟨#[]⟩, .string ⟨#[]⟩, .string ⟨#[]⟩, .string ⟨#[]⟩, .string ⟨#[]⟩] rfl rfl six_one (by unfold maxLen; omega) (by omega) (by omega) ?_; intro v2 w2 hown2 hg2; obtain ⟨g, cap, rfl, hgb, hgl, hgc, hgm, hcell⟩ := own_form hown2 (by omega); rw [HX.out] at hcell; have p0 : w2.cell? ⟨g, 0, none⟩ = some (.string z0) := hcell 0 (by simp); have p1 : w2.cell? ⟨g, 1, none⟩ = some (.string z1) := hcell 1 (by simp); have p2 : w2.cell? ⟨g, 2, none⟩ = some (.string z2) := hcell 2 (by simp); have p3 : w2.cell? ⟨g, 3, none⟩ = some (.string z3) := hcell 3 (by simp); have p5 : w2.cell? ⟨g, 5, none⟩ = some (.string z5) := hcell 5 (by simp); have hB2 : Below (w.heap.size + 1) (w.alloc (.cells #[.int .i64 0, .string ⟨#[]⟩, .int .i64 0, .int .i64 0, .int .i64 0, .int .i64 0, .int .i64 0] 23)) w2 := hB1.owngrown hown hg2 (by simp); have hn6 : (6 : Int) ≤ ((r.length + 6 : Nat) : Int) := by omega))
  have hb2 : Below w.heap.size w w2 := hb0.trans (hB2.mono (by omega))
  refine (HD.out _ (hw.dr.below (hb2.new _))).mono ?_
  rintro e w3 ⟨dv, er, rfl, dv0, dv1, hdv, hb⟩
  have HDV := Lib.hid hdv
  clear hdv
  clear hown
  have hm2 : w.heap.size + 1 ≤ w2.heap.size := by have := hB2.size; simp at this; omega
  have hp2 : w.heap.size ≤ w2.heap.size := by omega
  have hl2 : w.heap.size < w2.heap.size := by omega
  have hx2 : ∀ j, w2.cell? ⟨w.heap.size, j, none⟩ = (w.alloc (.cells #[.int .i64 0, .string ⟨#[]⟩, .int .i64 0, .int .i64 0, .int .i64 0, .int .i64 0, .int .i64 0] 23)).cell? ⟨w.heap.size, j, none⟩ := fun j => hB2.cell (p := ⟨w.heap.size, j, none⟩) (by simp)
  have hy2 : ∀ j, w2.frozen? ⟨w.heap.size, j, none⟩ = (w.alloc (.cells #[.int .i64 0, .string ⟨#[]⟩, .int .i64 0, .int .i64 0, .int .i64 0, .int .i64 0, .int .i64 0] 23)).frozen? ⟨w.heap.size, j, none⟩ := fun j => hB2.frozen (p := ⟨w.heap.size, j, none⟩) (by simp)
  have hB3 : Below (w.heap.size + 1) (w.alloc (.cells #[.int .i64 0, .string ⟨#[]⟩, .int .i64 0, .int .i64 0, .int .i64 0, .int .i64 0, .int .i64 0] 23)) w3 := by
    refine Below.trans ?_ (hb.mono ?_)
    · repeat (first | (with_reducible exact hB2) | (with_reducible refine Below.setCell ?_ hm2 _) | (with_reducible refine Below.alloc ?_ (by first | omega | (simp only [World.size_setCell]; omega)) _))
    · simp only [World.size_alloc]; omega
  have hb3 : Below w.heap.size w w3 := hb0.trans (hB3.mono (by omega))
  have hc3 := (bcell hb).1
  have hf3 := (bcell hb).2
  have hz3 := hb.size
  simp only [World.size_alloc] at hc3 hf3 hz3
  have hl3 : w.heap.size < w3.heap.size := by omega
  have hE3 : w2.heap.size < w3.heap.size := by omega
  have hg3 : g < w3.heap.size := by omega
  have x3 := cells7 (w := w2) (hb.mono (by simp))
  clear hb
  go_wp2_with fail
  refine wp_loop_rounds 5 ?_
  rw [rounds_succ]
  go_wp2
  rw [rounds_succ]
  go_wp2
  rw [rounds_succ]
  go_wp2
  rw [rounds_succ]
  go_wp2
  rw [rounds_succ]
  go_wp2_with fail
  refine (HA3.out _ (hw.nw.below ?_)).mono ?_
  · repeat (first | (with_reducible exact hb3) | (with_reducible refine Below.setCell ?_ hp2 _) | (with_reducible refine Below.new ?_ _))
  rintro e w4 ⟨v, er4, rfl, v0, v1, hv, hb⟩
  have Hv := Lib.hid hv
  clear hv
  have hB4 : Below (w.heap.size + 1) (w.alloc (.cells #[.int .i64 0, .string ⟨#[]⟩, .int .i64 0, .int .i64 0, .int .i64 0, .int .i64 0, .int .i64 0] 23)) w4 := by
    refine Below.trans ?_ (hb.mono ?_)
    · repeat (first | (with_reducible exact hB3) | (with_reducible refine Below.setCell ?_ hm2 _) | (with_reducible refine Below.alloc ?_ (by first | omega | (simp only [World.size_setCell]; omega)) _))
    · simp only [World.size_setCell, World.size_alloc]; omega
  have hb4 : Below w.heap.size w w4 := hb0.trans (hB4.mono (by omega))
  have hc4 := (bcell hb).1
  have hf4 := (bcell hb).2
  have hz4 := hb.size
  simp only [World.size_setCell, World.size_alloc] at hc4 hf4 hz4
  have hl4 : w.heap.size < w4.heap.size := by omega
  have hE4 : w2.heap.size < w4.heap.size := by omega
  have hg4 : g < w4.heap.size := by omega
  have x4 : ∀ j, j < 7 → (w4.cell? ⟨w2.heap.size, j, none⟩).isSome = true := fun j hj => by
    rw [hc4 _ _ (by omega)]
    repeat (first | (with_reducible exact x3 j hj) | (with_reducible refine some_set ?_) | with_reducible refine some_new ?_ (by first | omega | (simp only [World.size_setCell]; omega)))
  clear hb
  go_wp2_with fail
  have HNo : Hid (Ev.ReadsNo s.data.toList) := Lib.hid (fun it' k' q' p' o' d' hR => by
    obtain ⟨-, h2, -, -⟩ := HP.out _ _ _ _ _ _ hR
    rcases Ev.right_kind hR.1 with e | e | e | e
    all_goals rw [e] at h2
    · exact HK0.out.1 h2
    · exact HK0.out.2.1 h2
    · exact HK0.out.2.2.1 h2
    · exact HK0.out.2.2.2 h2)
  refine (text_event 0 z2 0 v 0 0 dv _ (hw.dr.dw.below ?_) (hw.nw.below ?_) (by omega) (by omega)).mono ?_
  · repeat (first | (with_reducible exact hb4) | (with_reducible refine Below.setCell ?_ hp2 _) | (with_reducible refine Below.new ?_ _))
  · repeat (first | (with_reducible exact hb4) | (with_reducible refine Below.setCell ?_ hp2 _) | (with_reducible refine Below.new ?_ _))
  rintro e w5 ⟨h, hb⟩
  have hB5 : Below (w.heap.size + 1) (w.alloc (.cells #[.int .i64 0, .string ⟨#[]⟩, .int .i64 0, .int .i64 0, .int .i64 0, .int .i64 0, .int .i64 0] 23)) w5 := by
    refine Below.trans ?_ (hb.mono ?_)
    · repeat (first | (with_reducible exact hB4) | (with_reducible refine Below.setCell ?_ hm2 _) | (with_reducible refine Below.alloc ?_ (by first | omega | (simp only [World.size_setCell]; omega)) _))
    · simp only [World.size_setCell]; omega
  have hb5 : Below w.heap.size w w5 := hb0.trans (hB5.mono (by omega))
  have hc5 := (bcell hb).1
  have hf5 := (bcell hb).2
  have hz5 := hb.size
  simp only [World.size_setCell] at hc5 hf5 hz5
  have hl5 : w.heap.size < w5.heap.size := by omega
  have hE5 : w2.heap.size < w5.heap.size := by omega
  have hg5 : g < w5.heap.size := by omega
  have x5 : ∀ j, j < 7 → (w5.cell? ⟨w2.heap.size, j, none⟩).isSome = true := fun j hj => by
    rw [hc5 _ _ (by omega)]
    repeat (first | (with_reducible exact x4 j hj) | (with_reducible refine some_set ?_) | with_reducible refine some_new ?_ (by first | omega | (simp only [World.size_setCell]; omega)))
  clear hb
  rcases h with ⟨l, hr, ht, rfl⟩ | ⟨hr, rfl⟩
  · exact absurd (Ev.right_kind hr) (by decide)
  · clear hr
    go_wp2_with fail
    have qs := cells7 hB5
    have q0 := qs 0 (by decide)
    have q1 := qs 1 (by decide)
    have q2 := qs 2 (by decide)
    have q3 := qs 3 (by decide)
    have q4 := qs 4 (by decide)
    have q5 := qs 5 (by decide)
    have q6 := qs 6 (by decide)
    clear qs
    exact bodyPost_ret (v := .tuple #[.agg #[.int .i64 0, .string ⟨#[]⟩, .int .i64 0, .int .i64 0, .int .i64 0, .int .i64 0, .int .i64 0], .int .i64 3]) (by simp [results, Tryz.results13, go_sem, q0, q1, q2, q3, q4, q5, q6]) rfl ⟨Or.inr ⟨HNo.out, rfl⟩, below_set7 hb5 (Nat.le_refl _)⟩

end Go.Proofs.YtjmeefmofbpbnaaGreatDoor
