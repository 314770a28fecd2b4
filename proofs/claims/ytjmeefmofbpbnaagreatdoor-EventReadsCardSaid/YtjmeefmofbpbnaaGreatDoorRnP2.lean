/- tallymanref.ParseEvent at the word of kind 2. -/
import Derived.Test.YtjmeefmofbpbnaaGreatDoorRnP
namespace Go.Proofs.YtjmeefmofbpbnaaGreatDoor
open Go.RowKit
set_option linter.unusedVariables false

set_option maxHeartbeats 4000000 in
set_option maxRecDepth 100000 in
theorem refParse_2 (s z0 z2 z3 z4 z5 : ByteArray) (zs r : List ByteArray) (n : Nat) (w : World) (hw : PW2 w) (hs : s.size ≤ 1000) (hn : zs.length = n) (hz : zs.map (fun z => z.data.toList) = Sp.spl 32 s.data.toList) (hZ : zs ++ six = z0 :: ⟨#[99, 104, 97, 114, 103, 101]⟩ :: z2 :: z3 :: z4 :: z5 :: r) :
    Calls Tryz.prog 13 #[.string s] w (RefEvParse s w) := by
  have hsz : ∀ z ∈ zs ++ six, z.size ≤ 1000 := fun z h => by
    rcases List.mem_append.1 h with h | h
    · exact Nat.le_trans (spl_sizes hz z h) hs
    · simp only [six, List.mem_cons, List.not_mem_nil, or_false] at h
      rcases h with rfl | rfl | rfl | rfl | rfl | rfl <;> decide
  rw [hZ] at hsz
  have s0 : z0.size ≤ 1000 := hsz z0 (by simp)
  have s2 : z2.size ≤ 1000 := hsz z2 (by simp)
  have s3 : z3.size ≤ 1000 := hsz z3 (by simp)
  have s5 : z5.size ≤ 1000 := hsz z5 (by simp)
  have hnl : n + 6 = r.length + 6 := by
    have := congrArg List.length hZ
    simp only [List.length_append, hn, six, List.length_cons, List.length_nil] at this
    omega
  have hnb : n ≤ 1001 := by
    have := Sp.spl_len 32 s.data.toList
    rw [← hz, List.length_map, hn] at this
    have h2 := List.count_le_length (a := (32 : UInt8)) (l := s.data.toList)
    have h3 : s.data.toList.length = s.size := by simp
    omega
  have HP : Hid (∀ it k q p o d, Ev.Reads s.data.toList it k q p o d → Dy.Text d z0.data.toList ∧ (⟨#[99, 104, 97, 114, 103, 101]⟩ : ByteArray).data.toList = Ev.word k ∧ z2.data.toList = it ∧ ((k = 1 ∧ Nm.Is z3.data.toList q ∧ Mn.parse z5.data.toList = some p ∧ o = 0) ∨ (k = 2 ∧ Nm.Is z5.data.toList o ∧ Mn.parse z3.data.toList = some p ∧ q = 0) ∨ ((k = 3 ∨ k = 4) ∧ Nm.Is z3.data.toList q ∧ p = 0 ∧ o = 0))) := Lib.hid (fun it k q p o d h => by
    have e : Sp.spl 32 s.data.toList ++ six.map (fun z => z.data.toList) = (z0 :: ⟨#[99, 104, 97, 114, 103, 101]⟩ :: z2 :: z3 :: z4 :: z5 :: r).map (fun z => z.data.toList) := by rw [← hz, ← List.map_append, hZ]
    exact Ev.reads_pieces h e)
  have HS := Lib.hid (fun w' (h' : NW w') b hb => split_own 32 s zs n hn hz w' b hb h' (by omega))
  have HD := Lib.hid (fun w' (h' : DR w') => date_val z0 w' h' s0)
  have HA3 := Lib.hid (fun w' (h' : NW w') => amount_val z3 w' h' s3)
  have HA5 := Lib.hid (fun w' (h' : NW w') => atoi_val z5 w' h' s5)
  have hb0 : Below w.heap.size w (w.alloc (.cells #[.int .i64 0, .string ⟨#[]⟩, .int .i64 0, .int .i64 0, .int .i64 0, .int .i64 0, .int .i64 0] 23)) := (Below.refl _ _).alloc (Nat.le_refl _) _
  obtain ⟨i0, hi, hiz, his, hib⟩ := info_parts info_st
  have hxs : zs.map Value.string ++ [Value.string ⟨#[]⟩, .string ⟨#[]⟩, .string ⟨#[]⟩, .string ⟨#[]⟩, .string ⟨#[]⟩, .string ⟨#[]⟩] = (z0 :: ⟨#[99, 104, 97, 114, 103, 101]⟩ :: z2 :: z3 :: z4 :: z5 :: r).map Value.string := by
    rw [← hZ, List.map_append]
    rfl
  have HX := Lib.hid hxs
  have HI := Lib.hid hi
  clear hsz hz hZ hn hxs
  go_enter Tryz.func13, Tryz.ntmps13
  go_wp2_with fail
  refine (HS.out _ (hw.nw.below hb0) (w.heap.size + 1) (by simp)).mono ?_
  rintro e w1 ⟨rfl, hown, hlt, hb⟩
  simp only [World.size_alloc] at hlt hown
  have hB1 := hb
  rw [World.size_alloc] at hB1
  clear hb
  go_wp2_with (first
    | (at_builtin; refine app_many (w := w1) rfl (.tmp 11) (.tmp 12) 55 rfl (w.heap.size + 1) 9 i0 (.string ⟨#[]⟩) 1 16 Tryz.underlying55 HI.out hiz his hib rfl (by decide) _ _ _ hown rfl 6 [.string ⟨#[]⟩, .string ⟨#[]⟩, .string ⟨#[]⟩, .string ⟨#[]⟩, .string ⟨#[]⟩, .string ⟨#[]⟩] rfl rfl six_one (by unfold maxLen; omega) (by omega) (by omega) ?_; intro v2 w2 hown2 hg2; obtain ⟨g, cap, rfl, hgb, hgl, hgc, hgm, hcell⟩ := own_form hown2 (by omega); rw [HX.out] at hcell; have p0 : w2.cell? ⟨g, 0, none⟩ = some (.string z0) := hcell 0 (by simp); have p1 : w2.cell? ⟨g, 1, none⟩ = some (.string ⟨#[99, 104, 97, 114, 103, 101]⟩) := hcell 1 (by simp); have p2 : w2.cell? ⟨g, 2, none⟩ = some (.string z2) := hcell 2 (by simp); have p3 : w2.cell? ⟨g, 3, none⟩ = some (.string z3) := hcell 3 (by simp); have p5 : w2.cell? ⟨g, 5, none⟩ = some (.string z5) := hcell 5 (by simp); have hB2 : Below (w.heap.size + 1) (w.alloc (.cells #[.int .i64 0, .string ⟨#[]⟩, .int .i64 0, .int .i64 0, .int .i64 0, .int .i64 0, .int .i64 0] 23)) w2 := hB1.owngrown hown hg2 (by simp); have hn6 : (6 : Int) ≤ ((r.length + 6 : Nat) : Int) := by omega))
  have hb2 : Below w.heap.size w w2 := hb0.trans (hB2.mono (by omega))
  refine (HD.out _ (hw.dr.below (hb2.new _))).mono ?_
  rintro e w3 ⟨dv, er, rfl, dv0, dv1, hdv, hb⟩
  have HDV := Lib.hid hdv
  clear hdv
  clear hown
  have hm2 : w.heap.size + 1 ≤ w2.heap.size := by have := hB2.size; simp at this; omega
  have hp2 : w.heap.size ≤ w2.heap.size := by omega
  have hl2 : w.heap.size < w2.heap.size := by omega
  have hx2 : ∀ j, w2.cell? ⟨w.heap.size, j, none⟩ = (w.alloc (.cells #[.int .i64 0, .string ⟨#[]⟩, .int .i64 0, .int .i64 0, .int .i64 0, .int .i64 0, .int .i64 0] 23)).cell? ⟨w.heap.size, j, none⟩ := fun j => hB2.cell (p := ⟨w.heap.size, j, none⟩) (by simp)
  have hy2 : ∀ j, w2.frozen? ⟨w.heap.size, j, none⟩ = (w.alloc (.cells #[.int .i64 0, .string ⟨#[]⟩, .int .i64 0, .int .i64 0, .int .i64 0, .int .i64 0, .int .i64 0] 23)).frozen? ⟨w.heap.size, j, none⟩ := fun j => hB2.frozen (p := ⟨w.heap.size, j, none⟩) (by simp)
  have hB3 : Below (w.heap.size + 1) (w.alloc (.cells #[.int .i64 0, .string ⟨#[]⟩, .int .i64 0, .int .i64 0, .int .i64 0, .int .i64 0, .int .i64 0] 23)) w3 := by
    refine Below.trans ?_ (hb.mono ?_)
    · repeat (first | exact hB2 | refine Below.setCell ?_ hm2 _ | refine Below.alloc ?_ (by first | omega | (simp only [World.size_setCell]; omega)) _)
    · simp only [World.size_alloc]; omega
  have hb3 : Below w.heap.size w w3 := hb0.trans (hB3.mono (by omega))
  have hc3 := (bcell hb).1
  have hf3 := (bcell hb).2
  have hz3 := hb.size
  simp only [World.size_alloc] at hc3 hf3 hz3
  have hl3 : w.heap.size < w3.heap.size := by omega
  have hE3 : w2.heap.size < w3.heap.size := by omega
  have hg3 : g < w3.heap.size := by omega
  have x3 := cells7 (w := w2) (hb.mono (by simp))
  clear hb
  go_wp2_with fail
  refine wp_loop_rounds 5 ?_
  rw [rounds_succ]
  go_wp2
  rw [rounds_succ]
  go_wp2
  rw [rounds_succ]
  go_wp2
  rw [rounds_succ]
  go_wp2
  rw [rounds_succ]
  go_wp2_with fail
  refine (HA3.out _ (hw.nw.below ?_)).mono ?_
  · repeat (first | exact hb3 | refine Below.setCell ?_ hp2 _ | refine Below.new ?_ _)
  rintro e w4 ⟨p, er4, rfl, p0, p1, hp, hb⟩
  have Hp := Lib.hid hp
  clear hp
  have hB4 : Below (w.heap.size + 1) (w.alloc (.cells #[.int .i64 0, .string ⟨#[]⟩, .int .i64 0, .int .i64 0, .int .i64 0, .int .i64 0, .int .i64 0] 23)) w4 := by
    refine Below.trans ?_ (hb.mono ?_)
    · repeat (first | exact hB3 | refine Below.setCell ?_ hm2 _ | refine Below.alloc ?_ (by first | omega | (simp only [World.size_setCell]; omega)) _)
    · simp only [World.size_setCell, World.size_alloc]; omega
  have hb4 : Below w.heap.size w w4 := hb0.trans (hB4.mono (by omega))
  have hc4 := (bcell hb).1
  have hf4 := (bcell hb).2
  have hz4 := hb.size
  simp only [World.size_setCell, World.size_alloc] at hc4 hf4 hz4
  have hl4 : w.heap.size < w4.heap.size := by omega
  have hE4 : w2.heap.size < w4.heap.size := by omega
  have hg4 : g < w4.heap.size := by omega
  have x4 : ∀ j, j < 7 → (w4.cell? ⟨w2.heap.size, j, none⟩).isSome = true := fun j hj => by
    rw [hc4 _ _ (by omega)]
    repeat (first | (with_reducible exact x3 j hj) | (with_reducible refine some_set ?_) | with_reducible refine some_new ?_ (by first | omega | (simp only [World.size_setCell]; omega)))
  clear hb
  go_wp2_with fail
  refine (HA5.out _ (hw.nw.below ?_)).mono ?_
  · repeat (first | exact hb4 | refine Below.setCell ?_ hp2 _ | refine Below.new ?_ _)
  rintro e w5 ⟨v, er5, rfl, v0, v1, hv, hb⟩
  have Hv := Lib.hid hv
  clear hv
  have hB5 : Below (w.heap.size + 1) (w.alloc (.cells #[.int .i64 0, .string ⟨#[]⟩, .int .i64 0, .int .i64 0, .int .i64 0, .int .i64 0, .int .i64 0] 23)) w5 := by
    refine Below.trans ?_ (hb.mono ?_)
    · repeat (first | exact hB4 | refine Below.setCell ?_ hm2 _ | refine Below.alloc ?_ (by first | omega | (simp only [World.size_setCell]; omega)) _)
    · simp only [World.size_setCell]; omega
  have hb5 : Below w.heap.size w w5 := hb0.trans (hB5.mono (by omega))
  have hc5 := (bcell hb).1
  have hf5 := (bcell hb).2
  have hz5 := hb.size
  simp only [World.size_setCell] at hc5 hf5 hz5
  have hl5 : w.heap.size < w5.heap.size := by omega
  have hE5 : w2.heap.size < w5.heap.size := by omega
  have hg5 : g < w5.heap.size := by omega
  have x5 : ∀ j, j < 7 → (w5.cell? ⟨w2.heap.size, j, none⟩).isSome = true := fun j hj => by
    rw [hc5 _ _ (by omega)]
    repeat (first | (with_reducible exact x4 j hj) | (with_reducible refine some_set ?_) | with_reducible refine some_new ?_ (by first | omega | (simp only [World.size_setCell]; omega)))
  clear hb
  go_wp2_with fail
  have HUq : Hid (∀ it' k' q' p' o' d', Ev.Reads s.data.toList it' k' q' p' o' d' → z2.data.toList = it' ∧ k' = 2 ∧ 0 = q' ∧ p = p' ∧ v = o' ∧ dv = d') := Lib.hid (fun it' k' q' p' o' d' hR => by
    obtain ⟨h1, h2, h3, h4⟩ := HP.out _ _ _ _ _ _ hR
    have hk := Ev.word_kind (Ev.right_kind hR.1)
    have hkk : k' = 2 := hk.2.1 h2.symm
    subst hkk
    have hd := HDV.out d' hR.1.2.1 hR.1.2.2.1 h1
    rcases h4 with ⟨e, h5, h6, h7⟩ | ⟨e, h5, h6, h7⟩ | ⟨e, h5, h6, h7⟩
    · exact absurd e (by decide)
    · exact ⟨h3, rfl, h7.symm, Hp.out _ h6, Hv.out _ h5, hd⟩
    · exact absurd e (by decide))
  refine (text_event 0 z2 2 0 p v dv _ (hw.dr.dw.below ?_) (hw.nw.below ?_) (by omega) (by omega)).mono ?_
  · repeat (first | exact hb5 | refine Below.setCell ?_ hp2 _ | refine Below.new ?_ _)
  · repeat (first | exact hb5 | refine Below.setCell ?_ hp2 _ | refine Below.new ?_ _)
  rintro e w6 ⟨h, hb⟩
  have hB6 : Below (w.heap.size + 1) (w.alloc (.cells #[.int .i64 0, .string ⟨#[]⟩, .int .i64 0, .int .i64 0, .int .i64 0, .int .i64 0, .int .i64 0] 23)) w6 := by
    refine Below.trans ?_ (hb.mono ?_)
    · repeat (first | exact hB5 | refine Below.setCell ?_ hm2 _ | refine Below.alloc ?_ (by first | omega | (simp only [World.size_setCell]; omega)) _)
    · simp only [World.size_setCell]; omega
  have hb6 : Below w.heap.size w w6 := hb0.trans (hB6.mono (by omega))
  have hc6 := (bcell hb).1
  have hf6 := (bcell hb).2
  have hz6 := hb.size
  simp only [World.size_setCell] at hc6 hf6 hz6
  have hl6 : w.heap.size < w6.heap.size := by omega
  have hE6 : w2.heap.size < w6.heap.size := by omega
  have hg6 : g < w6.heap.size := by omega
  have x6 : ∀ j, j < 7 → (w6.cell? ⟨w2.heap.size, j, none⟩).isSome = true := fun j hj => by
    rw [hc6 _ _ (by omega)]
    repeat (first | (with_reducible exact x5 j hj) | (with_reducible refine some_set ?_) | with_reducible refine some_new ?_ (by first | omega | (simp only [World.size_setCell]; omega)))
  clear hb
  rcases h with ⟨l, hr, ht, rfl⟩ | ⟨hr, rfl⟩
  · by_cases hls : l = s.data.toList
    · have HRd : Hid (Ev.Reads s.data.toList z2.data.toList 2 0 p v dv) := Lib.hid ⟨hr, by omega, hls ▸ ht⟩
      have hq : ((⟨l.toArray⟩ : ByteArray).toList == s.toList) = true := by
        rw [Go.ByteArray.toList_eq, Go.ByteArray.toList_eq, hls]; simp
      obtain ⟨L, hL⟩ : ∃ L : ByteArray, L = ⟨l.toArray⟩ := ⟨_, rfl⟩
      rw [← hL] at hq
      rw [← hL]
      clear hL hls ht hr
      go_wp2_with fail
      have qs := cells7 hB6
      have q0 := qs 0 (by decide)
      have q1 := qs 1 (by decide)
      have q2 := qs 2 (by decide)
      have q3 := qs 3 (by decide)
      have q4 := qs 4 (by decide)
      have q5 := qs 5 (by decide)
      have q6 := qs 6 (by decide)
      clear qs
      exact bodyPost_ret (v := .tuple #[.agg #[.int .i64 0, .string z2, .int .i64 2, .int .i64 0, .int .i64 p, .int .i64 v, .int .i64 dv], .int .i64 0]) (by simp [results, Tryz.results13, go_sem, q0, q1, q2, q3, q4, q5, q6]) rfl ⟨Or.inl ⟨_, _, _, _, _, _, HRd.out, rfl⟩, below_set7 hb6 (Nat.le_refl _)⟩
    · have HNo : Hid (Ev.ReadsNo s.data.toList) := Lib.hid (fun it' k' q' p' o' d' hR => by
        obtain ⟨rfl, rfl, rfl, rfl, rfl, rfl⟩ := HUq.out _ _ _ _ _ _ hR
        exact hls (Ev.text_uniq ht hR.2.2))
      have hq : ((⟨l.toArray⟩ : ByteArray).toList == s.toList) = false := by
        rw [Go.ByteArray.toList_eq, Go.ByteArray.toList_eq]; simpa using hls
      obtain ⟨L, hL⟩ : ∃ L : ByteArray, L = ⟨l.toArray⟩ := ⟨_, rfl⟩
      rw [← hL] at hq
      rw [← hL]
      clear hL hls ht hr
      go_wp2_with fail
      have qs := cells7 hB6
      have q0 := qs 0 (by decide)
      have q1 := qs 1 (by decide)
      have q2 := qs 2 (by decide)
      have q3 := qs 3 (by decide)
      have q4 := qs 4 (by decide)
      have q5 := qs 5 (by decide)
      have q6 := qs 6 (by decide)
      clear qs
      exact bodyPost_ret (v := .tuple #[.agg #[.int .i64 0, .string ⟨#[]⟩, .int .i64 0, .int .i64 0, .int .i64 0, .int .i64 0, .int .i64 0], .int .i64 3]) (by simp [results, Tryz.results13, go_sem, q0, q1, q2, q3, q4, q5, q6]) rfl ⟨Or.inr ⟨HNo.out, rfl⟩, below_set7 hb6 (Nat.le_refl _)⟩
  · have HNo : Hid (Ev.ReadsNo s.data.toList) := Lib.hid (fun it' k' q' p' o' d' hR => by
      obtain ⟨rfl, rfl, rfl, rfl, rfl, rfl⟩ := HUq.out _ _ _ _ _ _ hR
      exact hr hR.1)
    clear hr
    go_wp2_with fail
    have qs := cells7 hB6
    have q0 := qs 0 (by decide)
    have q1 := qs 1 (by decide)
    have q2 := qs 2 (by decide)
    have q3 := qs 3 (by decide)
    have q4 := qs 4 (by decide)
    have q5 := qs 5 (by decide)
    have q6 := qs 6 (by decide)
    clear qs
    exact bodyPost_ret (v := .tuple #[.agg #[.int .i64 0, .string ⟨#[]⟩, .int .i64 0, .int .i64 0, .int .i64 0, .int .i64 0, .int .i64 0], .int .i64 3]) (by simp [results, Tryz.results13, go_sem, q0, q1, q2, q3, q4, q5, q6]) rfl ⟨Or.inr ⟨HNo.out, rfl⟩, below_set7 hb6 (Nat.le_refl _)⟩

end Go.Proofs.YtjmeefmofbpbnaaGreatDoor
