/- journal.one: what it hands back. -/
import Derived.Test.YtmkkoccnnehkeaaDoorCrcW
import Derived.Test.YtmkkoccnnehkeaaDoorCrcF
import Derived.Lib.Strings
import Derived.Lib.IndexBytes
namespace Go.Proofs.YtmkkoccnnehkeaaDoor
open Go.RowKit

theorem take_drop_size (s : ByteArray) (a : Nat) : (s.data.toList.drop a).take (s.size - a) = s.data.toList.drop a := List.take_of_length_le (by simp)
theorem take_size (s : ByteArray) : s.data.toList.take s.size = s.data.toList := List.take_of_length_le (by simp)

def OnePost (s : ByteArray) (n : Nat) (w : World) (e : Ending) (w' : World) : Prop :=
  (match Cr.one s.data.toList n with
   | some (t, m) => e = .returned (.tuple #[.string ⟨t.toArray⟩, .int .i64 m, .bool true])
   | none => e = .returned (.tuple #[.string ⟨#[]⟩, .int .i64 0, .bool false])) ∧ ∃ q, w' = w.drewN q
theorem one_none {s : ByteArray} {n : Nat} {w : World} (h : Cr.one s.data.toList n = none) (q : Nat) : OnePost s n w (.returned (.tuple #[.string ⟨#[]⟩, .int .i64 0, .bool false])) (w.drewN q) := by
  unfold OnePost; rw [h]; exact ⟨rfl, q, rfl⟩
theorem one_some {s : ByteArray} {n : Nat} {w : World} {t : List UInt8} {m : Nat} (h : Cr.one s.data.toList n = some (t, m)) (q : Nat) (r : ByteArray) (z : Int) (hr : r.data.toList = t) (hz : z = m) :
    OnePost s n w (.returned (.tuple #[.string r, .int .i64 z, .bool true])) (w.drewN q) := by
  unfold OnePost; rw [h]; subst hr; subst hz; exact ⟨rfl, q, rfl⟩

theorem sum_at (s : ByteArray) (hs : s.size ≤ maxLen) (x : Nat) (hx : x = Cr.crc s.data.toList) (w : World) :
    Calls Tryd.prog 16 #[.string s] w fun e w' => e = .returned (.int .u32 (x : Int)) ∧ w' = w := by
  subst hx
  exact (sum_any s w hs).mono fun e w' h => ⟨h.1, h.2.symm⟩
theorem get_at (s : ByteArray) (hs : 4 ≤ s.size) (x : Nat) (hx : x = Cr.get s.data.toList) (w : World) :
    Calls Tryd.prog 59 #[.string s] w fun e w' => e = .returned (.int .u32 (x : Int)) ∧ ∃ q, w' = w.drewN q := by
  subst hx
  exact get_any s w hs

set_option maxHeartbeats 4000000 in
set_option maxRecDepth 100000 in
theorem one_any (s : ByteArray) (n : Nat) (w : World) (hs : s.size ≤ maxLen) (_hn : n ≤ 4294967295) :
    Calls Tryd.prog 43 #[.string s, .int .i64 n] w (OnePost s n w) := by
  have hm := hs
  unfold maxLen at hm
  have hl : s.data.toList.length = s.size := by simp
  by_cases h16 : s.size < 16
  · have hn1 : Cr.one s.data.toList n = none := by unfold Cr.one; rw [if_pos (by omega)]
    have HN := Lib.hid hn1
    clear hn1 hl
    go_enter Tryd.func43, Tryd.ntmps43
    go_wp2
    go_ret3
    exact one_none HN.out 0
  · obtain ⟨k, hk⟩ : ∃ k, k = Cr.get s.data.toList := ⟨_, rfl⟩
    obtain ⟨x, hx⟩ : ∃ x, x = Cr.crc (s.extract 0 8).data.toList := ⟨_, rfl⟩
    obtain ⟨y, hy⟩ : ∃ y, y = Cr.get (s.extract 8 s.size).data.toList := ⟨_, rfl⟩
    obtain ⟨z, hz⟩ : ∃ z, z = Cr.get (s.extract 4 s.size).data.toList := ⟨_, rfl⟩
    have hk2 := Cr.get_lt s.data.toList
    rw [← hk] at hk2
    have z8 : (s.extract 8 s.size).size = s.size - 8 := by simp
    have z4 : (s.extract 4 s.size).size = s.size - 4 := by simp
    have z0 : (s.extract 0 8).size = 8 := by simp; omega
    have C0 := get_at s (by omega) k hk
    have C1 := sum_at (s.extract 0 8) (by unfold maxLen; omega) x hx
    have C2 := get_at (s.extract 8 s.size) (by omega) y hy
    have C3 := get_at (s.extract 4 s.size) (by omega) z hz
    have l8 := slice_to (P := Tryd.prog) 9 Tryd.underlying9 s 8 8 rfl (by omega)
    have m8 := slice_from (P := Tryd.prog) 9 Tryd.underlying9 s 8 8 rfl (by omega)
    have m4 := slice_from (P := Tryd.prog) 9 Tryd.underlying9 s 4 4 rfl (by omega)
    have z2 : z < 4294967296 := by rw [hz]; exact Cr.get_lt _
    have hwz : IntKind.i64.wrap (z : Int) = z := IntWalk.i64_in _ ⟨by omega, by omega⟩
    have hwk : IntKind.i64.wrap (16 + (k : Int)) = 16 + k := IntWalk.i64_in _ ⟨by omega, by omega⟩
    have HC0 := Lib.hid C0
    have HC1 := Lib.hid C1
    have HC2 := Lib.hid C2
    have HC3 := Lib.hid C3
    clear C0 C1 C2 C3 z8 z4 z0
    have HK := Lib.hid hk
    have HX := Lib.hid hx
    have HY := Lib.hid hy
    have HZ := Lib.hid hz
    have HL := Lib.hid hl
    have hone : Cr.one s.data.toList n = if x ≠ y then none else if z ≠ n then none else if 200 < k then none else if s.size < 16 + k then none else if Cr.crc (s.data.toList.take (12 + k)) ≠ Cr.get (s.data.toList.drop (12 + k)) then none else some ((s.data.toList.take (12 + k)).drop 12, 16 + k) := by
      unfold Cr.one
      rw [if_neg (by omega), hx, hy, hz, hk, hl]
      simp only [Lib.extract_data, List.drop_zero, Nat.sub_zero, take_drop_size s]
    have HONE := Lib.hid hone
    clear hone hk hx hy hz hl
    by_cases c1 : x = y
    · by_cases c2 : z = n
      · by_cases c3 : 200 < k
        · have hn1 : Cr.one s.data.toList n = none := by rw [HONE.out, if_neg (by omega), if_neg (by omega), if_pos c3]
          have HN := Lib.hid hn1
          have c1' : ((x : Int) != (y : Int)) = false := by rw [bne_eq_false_iff_eq]; omega
          have c2' : ((z : Int) != (n : Int)) = false := by rw [bne_eq_false_iff_eq]; omega
          have c3' : decide (200 < (k : Int)) = true := by rw [decide_eq_true_eq]; omega
          clear hn1 c1 c2
          go_enter Tryd.func43, Tryd.ntmps43
          go_wp2_with fail
          refine (HC0.out _).mono ?_
          rintro e w1 ⟨rfl, hq1⟩
          have HQ1 := Lib.hid hq1
          clear hq1
          go_wp2_with fail
          go_quiet ((first | (go_at_call 16; with_reducible exact Calls.quiet_of_same (HC1.out _)) | (go_at_call 59; with_reducible exact Calls.quiet_of (HC2.out _)) | (go_at_call 59; with_reducible exact Calls.quiet_of (HC3.out _))))
          go_wp2_with fail
          go_ret3
          obtain ⟨q1, rfl⟩ := HQ1.out
          simp only [World.drewN_drewN]
          exact one_none HN.out _
        · by_cases c4 : s.size < 16 + k
          · have hn1 : Cr.one s.data.toList n = none := by rw [HONE.out, if_neg (by omega), if_neg (by omega), if_neg (by omega), if_pos c4]
            have HN := Lib.hid hn1
            have c1' : ((x : Int) != (y : Int)) = false := by rw [bne_eq_false_iff_eq]; omega
            have c2' : ((z : Int) != (n : Int)) = false := by rw [bne_eq_false_iff_eq]; omega
            have c3' : decide (200 < (k : Int)) = false := by rw [decide_eq_false_iff_not]; omega
            have c4' : decide ((s.size : Int) < 16 + (k : Int)) = true := by rw [decide_eq_true_eq]; omega
            clear hn1 c1 c2
            go_enter Tryd.func43, Tryd.ntmps43
            go_wp2_with fail
            refine (HC0.out _).mono ?_
            rintro e w1 ⟨rfl, hq1⟩
            have HQ1 := Lib.hid hq1
            clear hq1
            go_wp2_with fail
            go_quiet ((first | (go_at_call 16; with_reducible exact Calls.quiet_of_same (HC1.out _)) | (go_at_call 59; with_reducible exact Calls.quiet_of (HC2.out _)) | (go_at_call 59; with_reducible exact Calls.quiet_of (HC3.out _))))
            go_wp2_with fail
            go_ret3
            obtain ⟨q1, rfl⟩ := HQ1.out
            simp only [World.drewN_drewN]
            exact one_none HN.out _
          · have u0 : (s.extract 0 (12 + k)).size = 12 + k := by simp; omega
            have v0 : (s.extract (12 + k) s.size).size = s.size - (12 + k) := by simp
            obtain ⟨u, hu⟩ : ∃ u, u = Cr.crc (s.extract 0 (12 + k)).data.toList := ⟨_, rfl⟩
            obtain ⟨v, hv⟩ : ∃ v, v = Cr.get (s.extract (12 + k) s.size).data.toList := ⟨_, rfl⟩
            have hkn : 12 + k ≤ s.size := by omega
            have lk := slice_to (P := Tryd.prog) 9 Tryd.underlying9 s (12 + k) (12 + (k : Int)) (by omega) hkn
            have mk := slice_from (P := Tryd.prog) 9 Tryd.underlying9 s (12 + k) (12 + (k : Int)) (by omega) hkn
            have nk := slice_mid (P := Tryd.prog) 9 Tryd.underlying9 s 12 (12 + k) 12 (12 + (k : Int)) rfl (by omega) (by omega) hkn
            have hwk2 : IntKind.i64.wrap (12 + (k : Int)) = 12 + k := IntWalk.i64_in _ ⟨by omega, by omega⟩
            have C5 := sum_at (s.extract 0 (12 + k)) (by unfold maxLen; omega) u hu
            have C6 := get_at (s.extract (12 + k) s.size) (by omega) v hv
            have HC5 := Lib.hid C5
            have HC6 := Lib.hid C6
            have c1' : ((x : Int) != (y : Int)) = false := by rw [bne_eq_false_iff_eq]; omega
            have c2' : ((z : Int) != (n : Int)) = false := by rw [bne_eq_false_iff_eq]; omega
            have c3' : decide (200 < (k : Int)) = false := by rw [decide_eq_false_iff_not]; omega
            have c4' : decide ((s.size : Int) < 16 + (k : Int)) = false := by rw [decide_eq_false_iff_not]; omega
            have hn2 : Cr.one s.data.toList n = if u ≠ v then none else some ((s.data.toList.take (12 + k)).drop 12, 16 + k) := by
              rw [HONE.out, if_neg (by omega), if_neg (by omega), if_neg (by omega), if_neg (by omega), hu, hv]
              simp only [Lib.extract_data, List.drop_zero, Nat.sub_zero, take_drop_size s]
            have HN2 := Lib.hid hn2
            have hres : (s.extract 12 (12 + k)).data.toList = (s.data.toList.take (12 + k)).drop 12 := by
              rw [Lib.extract_data, List.drop_take]
            have HRES := Lib.hid hres
            clear C5 C6 u0 v0 hu hv c1 c2 hn2 hres
            by_cases c5 : u = v
            · have c5' : ((u : Int) != (v : Int)) = false := by rw [bne_eq_false_iff_eq]; omega
              go_enter Tryd.func43, Tryd.ntmps43
              go_wp2_with fail
              refine (HC0.out _).mono ?_
              rintro e w1 ⟨rfl, hq1⟩
              have HQ1 := Lib.hid hq1
              clear hq1
              go_wp2_with fail
              go_quiet ((first | (go_at_call 16; with_reducible exact Calls.quiet_of_same (HC1.out _)) | (go_at_call 59; with_reducible exact Calls.quiet_of (HC2.out _)) | (go_at_call 59; with_reducible exact Calls.quiet_of (HC3.out _))))
              go_wp2_with fail
              generalize hw2 : World.drewN w1 _ = w2
              have hwx : Hid (∃ q, w2 = w1.drewN q) := ⟨_, hw2.symm⟩
              clear hw2
              go_quiet ((first | (go_at_call 16; with_reducible exact Calls.quiet_of_same (HC5.out _)) | (go_at_call 59; with_reducible exact Calls.quiet_of (HC6.out _))))
              go_wp2_with fail
              go_ret3
              obtain ⟨q1, rfl⟩ := HQ1.out
              obtain ⟨q2, rfl⟩ := hwx.out
              simp only [World.drewN_drewN]
              have hfin := HN2.out
              rw [if_neg (by omega)] at hfin
              exact one_some hfin _ _ _ HRES.out (by omega)
            · have c5' : ((u : Int) != (v : Int)) = true := by rw [bne_iff_ne]; omega
              go_enter Tryd.func43, Tryd.ntmps43
              go_wp2_with fail
              refine (HC0.out _).mono ?_
              rintro e w1 ⟨rfl, hq1⟩
              have HQ1 := Lib.hid hq1
              clear hq1
              go_wp2_with fail
              go_quiet ((first | (go_at_call 16; with_reducible exact Calls.quiet_of_same (HC1.out _)) | (go_at_call 59; with_reducible exact Calls.quiet_of (HC2.out _)) | (go_at_call 59; with_reducible exact Calls.quiet_of (HC3.out _))))
              go_wp2_with fail
              generalize hw2 : World.drewN w1 _ = w2
              have hwx : Hid (∃ q, w2 = w1.drewN q) := ⟨_, hw2.symm⟩
              clear hw2
              go_quiet ((first | (go_at_call 16; with_reducible exact Calls.quiet_of_same (HC5.out _)) | (go_at_call 59; with_reducible exact Calls.quiet_of (HC6.out _))))
              go_wp2_with fail
              go_ret3
              obtain ⟨q1, rfl⟩ := HQ1.out
              obtain ⟨q2, rfl⟩ := hwx.out
              simp only [World.drewN_drewN]
              have hfin := HN2.out
              rw [if_pos c5] at hfin
              exact one_none hfin _
      · have hn1 : Cr.one s.data.toList n = none := by rw [HONE.out, if_neg (by omega), if_pos c2]
        have HN := Lib.hid hn1
        have c1' : ((x : Int) != (y : Int)) = false := by rw [bne_eq_false_iff_eq]; omega
        have c2' : ((z : Int) != (n : Int)) = true := by rw [bne_iff_ne]; omega
        clear hn1 c1 c2
        go_enter Tryd.func43, Tryd.ntmps43
        go_wp2_with fail
        refine (HC0.out _).mono ?_
        rintro e w1 ⟨rfl, hq1⟩
        have HQ1 := Lib.hid hq1
        clear hq1
        go_wp2_with fail
        go_quiet ((first | (go_at_call 16; with_reducible exact Calls.quiet_of_same (HC1.out _)) | (go_at_call 59; with_reducible exact Calls.quiet_of (HC2.out _)) | (go_at_call 59; with_reducible exact Calls.quiet_of (HC3.out _))))
        go_wp2_with fail
        go_ret3
        obtain ⟨q1, rfl⟩ := HQ1.out
        simp only [World.drewN_drewN]
        exact one_none HN.out _
    · have hn1 : Cr.one s.data.toList n = none := by rw [HONE.out, if_pos c1]
      have HN := Lib.hid hn1
      have c1' : ((x : Int) != (y : Int)) = true := by rw [bne_iff_ne]; omega
      clear hn1 c1
      go_enter Tryd.func43, Tryd.ntmps43
      go_wp2_with fail
      refine (HC0.out _).mono ?_
      rintro e w1 ⟨rfl, hq1⟩
      have HQ1 := Lib.hid hq1
      clear hq1
      go_wp2_with fail
      go_quiet ((first | (go_at_call 16; with_reducible exact Calls.quiet_of_same (HC1.out _)) | (go_at_call 59; with_reducible exact Calls.quiet_of (HC2.out _)) | (go_at_call 59; with_reducible exact Calls.quiet_of (HC3.out _))))
      go_wp2_with fail
      go_ret3
      obtain ⟨q1, rfl⟩ := HQ1.out
      simp only [World.drewN_drewN]
      exact one_none HN.out _
end Go.Proofs.YtmkkoccnnehkeaaDoor
