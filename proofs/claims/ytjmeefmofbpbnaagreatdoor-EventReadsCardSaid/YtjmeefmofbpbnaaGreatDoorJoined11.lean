/- Joined: DayPr, Split, EvR. -/
import Derived.Deep.QuietTactic
import Derived.BigQuiet
import Derived.BigRegion
import Derived.Test.YtjmeefmofbpbnaaGreatDoorJoined3
import Derived.Test.YtjmeefmofbpbnaaGreatDoorSpl
import Derived.Test.YtjmeefmofbpbnaaGreatDoorEvRa
import Derived.Test.YtjmeefmofbpbnaaGreatDoorJoined10
import Derived.Test.YtjmeefmofbpbnaaGreatDoorEvRc

section
/- day.Print: what it hands back. -/
namespace Go.Proofs.YtjmeefmofbpbnaaGreatDoor
open Go.RowKit

/-- A day's text, handed back. -/
def PrintPost (n : Int) (w : World) (e : Ending) (w' : World) : Prop :=
  ∃ l, Dy.Text n l ∧ e = .returned (.tuple #[.string ⟨l.toArray⟩, .nilIface]) ∧ Below w.heap.size w w'

set_option maxHeartbeats 400000 in
theorem day_print_bad (n : Int) (w : World) (h : n < 0 ∨ 99999 < n) :
    Calls Tryz.prog 24 #[.int .i64 n] w (Gives (.tuple #[.string ⟨#[]⟩, .iface 28 (.int .i64 1)]) w) := by
  have H := Lib.hid h
  clear h
  go_enter Tryz.func24, Tryz.ntmps24
  go_wp2_with (go_at_call 47; refine (parts_bad n _ H.out).mono ?_; rintro e w1 ⟨rfl, q, rfl⟩)
  go_ret2
  exact ⟨rfl, below_drewN (Below.refl _ _) q⟩

set_option maxHeartbeats 800000 in
theorem day_print_ok (n : Int) (w : World) (hw : DW w) (h0 : 0 ≤ n) (h1 : n ≤ 99999) :
    Calls Tryz.prog 24 #[.int .i64 n] w (PrintPost n w) := by
  go_enter Tryz.func24, Tryz.ntmps24
  go_wp2_with fail
  refine (parts_ok n _ hw h0 h1).mono ?_
  rintro e w1 ⟨y, d, m, hi, rfl, q, rfl⟩
  obtain ⟨Y, rfl⟩ : ∃ Y : Nat, y = Y := ⟨y.toNat, by have := hi.1.1; omega⟩
  obtain ⟨D, rfl⟩ : ∃ D : Nat, d = D := ⟨d.toNat, by have := hi.1.2.2.2.2.1; omega⟩
  have hlen : ((D : Int)) ≤ 31 := by
    have a1 := hi.1.2.2.2.2.2
    have a2 := Dy.len_pos Y m (by have := hi.1.2.2.1; omega) (by have := hi.1.2.2.2.1; omega)
    simp at a1
    omega
  obtain ⟨b1, b2, b3, b4, b5, -⟩ := hi.1
  have HI := Lib.hid hi
  clear hi h0 h1
  have hb1 : Below w.heap.size w (w.drewN q) := below_drewN (Below.refl _ _) q
  have hw1 : DW (w.drewN q) := hw.drew q
  generalize w.drewN q = w1 at hb1 hw1 ⊢
  obtain ⟨sy, hsy⟩ : ∃ s : ByteArray, s = ⟨(Dy.four4 Y).toArray⟩ := ⟨_, rfl⟩
  obtain ⟨sm, hsm⟩ : ∃ s : ByteArray, s = ⟨(Dy.two2 m).toArray⟩ := ⟨_, rfl⟩
  obtain ⟨sd, hsd⟩ : ∃ s : ByteArray, s = ⟨(Dy.two2 D).toArray⟩ := ⟨_, rfl⟩
  have H4 : Hid (∀ w2, DW w2 → Calls Tryz.prog 48 #[.int .i64 Y, .int .i64 4] w2 (Gives (.string sy) w2)) := Lib.hid (fun w2 hw2 => by rw [hsy]; exact two_4 Y w2 hw2 (by omega) (by omega))
  have HM : Hid (∀ w2, Calls Tryz.prog 48 #[.int .i64 m, .int .i64 2] w2 (Gives (.string sm) w2)) := Lib.hid (fun w2 => by rw [hsm]; exact two_2 m w2 (by omega))
  have HD : Hid (∀ w2, Calls Tryz.prog 48 #[.int .i64 D, .int .i64 2] w2 (Gives (.string sd) w2)) := Lib.hid (fun w2 => by rw [hsd]; exact two_2 D w2 (by omega))
  have HT : Hid ((⟨(Dy.txt Y m D).toArray⟩ : ByteArray) = sy ++ ⟨#[45]⟩ ++ sm ++ ⟨#[45]⟩ ++ sd) := Lib.hid (by rw [hsy, hsm, hsd]; rfl)
  have z1 : sy.size = 4 := by rw [hsy]; rfl
  have z2 : sm.size = 2 := by rw [hsm]; rfl
  have z3 : sd.size = 2 := by rw [hsd]; rfl
  clear hsy hsm hsd
  go_wp2_with fail
  refine (H4.out _ hw1).mono ?_
  rintro e w2 ⟨rfl, hb2⟩
  go_wp2_with fail
  refine (HM.out _).mono ?_
  rintro e w3 ⟨rfl, hb3⟩
  go_wp2_with fail
  refine (HD.out _).mono ?_
  rintro e w4 ⟨rfl, hb4⟩
  go_wp2_with fail
  go_ret2
  refine ⟨_, ⟨Y, D, m, HI.out, rfl⟩, ?_, ((hb1.step hb2).step hb3).step hb4⟩
  rw [Int.toNat_natCast, Int.toNat_natCast, HT.out]
  rfl
end Go.Proofs.YtjmeefmofbpbnaaGreatDoor
end

section
/- strings.Split at one byte; how a call's world is read behind it. -/
namespace Go.Proofs.YtjmeefmofbpbnaaGreatDoor
open Go.RowKit

theorem Rd.str0 {w : World} {b : Nat} {zs : List ByteArray} (h : Rd w (some ⟨b, 0, none⟩) (zs.map Value.string)) (j : Nat) (z : ByteArray) (hj : zs[j]? = some z) : w.cell? ⟨b, j, none⟩ = some (.string z) := by
  have hl : j < zs.length := by
    apply Classical.byContradiction
    intro hn
    rw [List.getElem?_eq_none (by omega)] at hj
    cases hj
  obtain ⟨b', off, ha, hc⟩ := h j (by simpa using hl)
  injection ha with ha
  injection ha with h1 h2
  subst h1 h2
  rw [Nat.zero_add] at hc
  rw [hc]
  simp [List.getD, hj]
/-- All that lay ahead of a call reads behind it as it read. -/
theorem bcell {W w1 : World} (hb : Below W.heap.size W w1) : (∀ b o, b < W.heap.size → w1.cell? ⟨b, o, none⟩ = W.cell? ⟨b, o, none⟩) ∧ (∀ b o, b < W.heap.size → w1.frozen? ⟨b, o, none⟩ = W.frozen? ⟨b, o, none⟩) :=
  ⟨fun b o h => hb.cell (p := ⟨b, o, none⟩) h, fun b o h => hb.frozen (p := ⟨b, o, none⟩) h⟩
theorem NW.mx {w : World} (h : NW w) : ∃ m, w.cell? ⟨1, 0, none⟩ = some (.int .i64 m) := h.most

theorem rd_new (w : World) (vs : List Value) (t : TypeId) : Rd (w.alloc (.cells vs.toArray t)) (some ⟨w.heap.size, 0, none⟩) vs := fun j hj => by
  refine ⟨_, _, rfl, ?_⟩
  simp only [World.cell?, show (w.alloc (.cells vs.toArray t)).heap[w.heap.size]? = some (.cells vs.toArray t) from by show (w.heap.push _)[w.heap.size]? = _; simp]
  simp [List.getD, hj]
theorem split_one (c : UInt8) (s : ByteArray) (zs : List ByteArray) (n : Nat) (hn : zs.length = n) (hz : zs.map (fun z => z.data.toList) = Sp.spl c s.data.toList) (w : World) (hw : NW w) (hs : s.size ≤ 1000000) :
    Calls Tryz.prog 28 #[.string s, .string ⟨#[c]⟩] w (fun e w' => e = .returned (.slice (some ⟨w.heap.size, 0, none⟩) n n) ∧ Rd w' (some ⟨w.heap.size, 0, none⟩) (zs.map Value.string) ∧ w.heap.size < w'.heap.size ∧ Below w.heap.size w w') := by
  obtain ⟨m, hm⟩ := hw.most
  refine (Tryz.strings_Split s ⟨#[c]⟩ m w (by omega) hm (by simp [ByteArray.size])).mono ?_
  rintro e w' ⟨rfl, rfl⟩
  have hB := Sp.splitB_spl c s
  rw [← hz, List.map_map] at hB
  have he : ((fun x : List UInt8 => (⟨x.toArray⟩ : ByteArray)) ∘ fun x : ByteArray => x.data.toList) = id := by
    funext x
    rfl
  rw [he, List.map_id] at hB
  have hl : Lib.countB s ⟨#[c]⟩ + 1 = n := by
    have := Sp.spl_len c s.data.toList
    rw [← hz, List.length_map, hn] at this
    rw [this]
    show Lib.count s.data.toList [c] + 1 = _
    rw [Lib.count_one]
  rw [hB, hl]
  exact ⟨rfl, rd_new _ _ _, by simp, (Below.refl _ _).alloc (Nat.le_refl _) _⟩
theorem spl_sizes {c : UInt8} {s : ByteArray} {zs : List ByteArray} (hz : zs.map (fun z => z.data.toList) = Sp.spl c s.data.toList) : ∀ z ∈ zs, z.size ≤ s.size := fun z h => by
  have h1 : z.data.toList ∈ Sp.spl c s.data.toList := by rw [← hz]; exact List.mem_map.2 ⟨z, h, rfl⟩
  have := Sp.spl_size _ _ h1
  simpa using this
end Go.Proofs.YtjmeefmofbpbnaaGreatDoor
end

section
/- event.Right, a part: joined. -/
namespace Go.Proofs.YtjmeefmofbpbnaaGreatDoor
open Go.RowKit

set_option maxHeartbeats 4000000 in
set_option maxRecDepth 100000 in
theorem right_0 (i : Int) (s : ByteArray) (k q p o d : Int) (w : World) (hs : s.size ≤ 1000000) (hN : Ev.nameB s.data.toList = true) (c_d : ¬ d < 0) (g_d : ¬ 99999 < d) (c_k1 : ¬ k = 1) (c_k2 : ¬ k = 2) (c_k3 : ¬ k = 3) (c_k4 : ¬ k = 4) :
    Calls Tryz.prog 5 #[.agg #[.int .i64 i, .string s, .int .i64 k, .int .i64 q, .int .i64 p, .int .i64 o, .int .i64 d]] w (Gives (.bool (Ev.rightB s.data.toList k q p o d)) w) := by
  have n_k_1 : (k == (1 : Int)) = false := by simpa using c_k1
  have n_k_2 : (k == (2 : Int)) = false := by simpa using c_k2
  have n_k_3 : (k == (3 : Int)) = false := by simpa using c_k3
  have n_k_4 : (k == (4 : Int)) = false := by simpa using c_k4
  have hB : Ev.rightB s.data.toList (k) (q) (p) (o) (d) = false := decide_eq_false (fun h => by obtain ⟨-, h1, h2, h⟩ := h; omega)
  have HB := Lib.hid hB
  have HN : Hid (∀ w, Calls Tryz.prog 7 #[.string s] w (Gives (.bool true) w)) := Lib.hid (fun w => by rw [← hN]; exact name_any s w hs)
  clear hB hN
  rw [HB.out]
  go_enter Tryz.func5, Tryz.ntmps5
  go_wp2_with fail
  refine (HN.out _).mono ?_
  rintro e w1 ⟨rfl, hb⟩
  have c1 := hb.cell (p := ⟨w.heap.size, 1, none⟩) (by simp)
  have c2 := hb.cell (p := ⟨w.heap.size, 2, none⟩) (by simp)
  have c3 := hb.cell (p := ⟨w.heap.size, 3, none⟩) (by simp)
  have c4 := hb.cell (p := ⟨w.heap.size, 4, none⟩) (by simp)
  have c5 := hb.cell (p := ⟨w.heap.size, 5, none⟩) (by simp)
  have c6 := hb.cell (p := ⟨w.heap.size, 6, none⟩) (by simp)
  simp at c1 c2 c3 c4 c5 c6
  have hb1 : Below w.heap.size w w1 := ((Below.refl _ _).alloc (Nat.le_refl _) _).step hb
  clear hb
  go_wp2
  go_ret
  exact ⟨rfl, hb1⟩
set_option maxHeartbeats 4000000 in
set_option maxRecDepth 100000 in
theorem right_any (i : Int) (s : ByteArray) (k q p o d : Int) (w : World) (hs : s.size ≤ 1000000) :
    Calls Tryz.prog 5 #[.agg #[.int .i64 i, .string s, .int .i64 k, .int .i64 q, .int .i64 p, .int .i64 o, .int .i64 d]] w (Gives (.bool (Ev.rightB s.data.toList k q p o d)) w) := by
  by_cases hN0 : Ev.nameB s.data.toList = true
  · have hN : Ev.nameB s.data.toList = true := hN0
    clear hN0
    by_cases c_d : d < 0
    · have hB : Ev.rightB s.data.toList (k) (q) (p) (o) (d) = false := decide_eq_false (fun h => by obtain ⟨-, h1, h2, h⟩ := h; omega)
      have HB := Lib.hid hB
      have HN : Hid (∀ w, Calls Tryz.prog 7 #[.string s] w (Gives (.bool true) w)) := Lib.hid (fun w => by rw [← hN]; exact name_any s w hs)
      clear hB hN
      rw [HB.out]
      go_enter Tryz.func5, Tryz.ntmps5
      go_wp2_with fail
      refine (HN.out _).mono ?_
      rintro e w1 ⟨rfl, hb⟩
      have c1 := hb.cell (p := ⟨w.heap.size, 1, none⟩) (by simp)
      have c2 := hb.cell (p := ⟨w.heap.size, 2, none⟩) (by simp)
      have c3 := hb.cell (p := ⟨w.heap.size, 3, none⟩) (by simp)
      have c4 := hb.cell (p := ⟨w.heap.size, 4, none⟩) (by simp)
      have c5 := hb.cell (p := ⟨w.heap.size, 5, none⟩) (by simp)
      have c6 := hb.cell (p := ⟨w.heap.size, 6, none⟩) (by simp)
      simp at c1 c2 c3 c4 c5 c6
      have hb1 : Below w.heap.size w w1 := ((Below.refl _ _).alloc (Nat.le_refl _) _).step hb
      clear hb
      go_wp2
      go_ret
      exact ⟨rfl, hb1⟩
    · by_cases g_d : 99999 < d
      · have hB : Ev.rightB s.data.toList (k) (q) (p) (o) (d) = false := decide_eq_false (fun h => by obtain ⟨-, h1, h2, h⟩ := h; omega)
        have HB := Lib.hid hB
        have HN : Hid (∀ w, Calls Tryz.prog 7 #[.string s] w (Gives (.bool true) w)) := Lib.hid (fun w => by rw [← hN]; exact name_any s w hs)
        clear hB hN
        rw [HB.out]
        go_enter Tryz.func5, Tryz.ntmps5
        go_wp2_with fail
        refine (HN.out _).mono ?_
        rintro e w1 ⟨rfl, hb⟩
        have c1 := hb.cell (p := ⟨w.heap.size, 1, none⟩) (by simp)
        have c2 := hb.cell (p := ⟨w.heap.size, 2, none⟩) (by simp)
        have c3 := hb.cell (p := ⟨w.heap.size, 3, none⟩) (by simp)
        have c4 := hb.cell (p := ⟨w.heap.size, 4, none⟩) (by simp)
        have c5 := hb.cell (p := ⟨w.heap.size, 5, none⟩) (by simp)
        have c6 := hb.cell (p := ⟨w.heap.size, 6, none⟩) (by simp)
        simp at c1 c2 c3 c4 c5 c6
        have hb1 : Below w.heap.size w w1 := ((Below.refl _ _).alloc (Nat.le_refl _) _).step hb
        clear hb
        go_wp2
        go_ret
        exact ⟨rfl, hb1⟩
      · by_cases c_k1 : k = 1
        · subst c_k1
          exact right_1 i s q p o d w hs hN c_d g_d
        by_cases c_k2 : k = 2
        · subst c_k2
          exact right_2 i s q p o d w hs hN c_d g_d
        by_cases c_k3 : k = 3
        · subst c_k3
          exact right_3 i s q p o d w hs hN c_d g_d
        by_cases c_k4 : k = 4
        · subst c_k4
          exact right_4 i s q p o d w hs hN c_d g_d
        exact right_0 i s k q p o d w hs hN c_d g_d c_k1 c_k2 c_k3 c_k4
  · have hN : Ev.nameB s.data.toList = false := by simpa using hN0
    clear hN0
    have hB : Ev.rightB s.data.toList (k) (q) (p) (o) (d) = false := decide_eq_false (fun h => absurd h.1 (of_decide_eq_false hN))
    have HB := Lib.hid hB
    have HN : Hid (∀ w, Calls Tryz.prog 7 #[.string s] w (Gives (.bool false) w)) := Lib.hid (fun w => by rw [← hN]; exact name_any s w hs)
    clear hB hN
    rw [HB.out]
    go_enter Tryz.func5, Tryz.ntmps5
    go_wp2_with fail
    refine (HN.out _).mono ?_
    rintro e w1 ⟨rfl, hb⟩
    have c1 := hb.cell (p := ⟨w.heap.size, 1, none⟩) (by simp)
    have c2 := hb.cell (p := ⟨w.heap.size, 2, none⟩) (by simp)
    have c3 := hb.cell (p := ⟨w.heap.size, 3, none⟩) (by simp)
    have c4 := hb.cell (p := ⟨w.heap.size, 4, none⟩) (by simp)
    have c5 := hb.cell (p := ⟨w.heap.size, 5, none⟩) (by simp)
    have c6 := hb.cell (p := ⟨w.heap.size, 6, none⟩) (by simp)
    simp at c1 c2 c3 c4 c5 c6
    have hb1 : Below w.heap.size w w1 := ((Below.refl _ _).alloc (Nat.le_refl _) _).step hb
    clear hb
    go_wp2
    go_ret
    exact ⟨rfl, hb1⟩
end Go.Proofs.YtjmeefmofbpbnaaGreatDoor
end
