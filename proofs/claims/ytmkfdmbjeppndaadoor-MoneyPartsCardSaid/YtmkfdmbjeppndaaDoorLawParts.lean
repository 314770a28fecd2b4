/- tallymanlaw.MoneyParts: the walk. -/
import Derived.Test.YtmkfdmbjeppndaaDoorRpS
import Derived.Test.YtmkfdmbjeppndaaDoorRpP
import Derived.Test.YtmkfdmbjeppndaaDoorSameI
import Derived.Test.YtmkfdmbjeppndaaDoorMoneyB
import Derived.Test.YtmkfdmbjeppndaaDoorTell
namespace Go.Proofs.YtmkfdmbjeppndaaDoor
open Go.RowKit

/-- What the walk asks of the world. -/
structure PW (w : World) : Prop where
  nw : NW w
  ew : EW w
theorem PW.below {w w' : World} (h : PW w) (hb : Below w.heap.size w w') : PW w' := ⟨h.nw.below hb, h.ew.below hb⟩

theorem parts_alike (t s m : Int) : ∃ (x c : Int) (er : Value), Hid (∀ w, PW w → Calls Tryd.prog 5 #[.int .i64 t, .int .i64 s, .int .i64 m] w (Gives (.tuple #[.int .i64 x, .int .i64 c]) w)) ∧
    Hid (∀ w, PW w → Calls Tryd.prog 6 #[.int .i64 t, .int .i64 s, .int .i64 m] w (Gives (.tuple #[.int .i64 x, er]) w)) ∧ Hid (∀ w, PW w → Calls Tryd.prog 7 #[er, .int .i64 c] w (Gives (.bool true) w)) := by
  by_cases h : PartOk t s m
  · obtain ⟨h1, h2, h3, h4, h5, h6⟩ := h
    refine ⟨t * s / m, 0, .nilIface, Lib.hid (fun w hw => refPart_ok t s m w hw.nw h1 h2 h3 h4 h5 h6), Lib.hid (fun w hw => ?_), Lib.hid (fun w hw => bare_any none w hw.ew)⟩
    refine (part_ok t s m w h1 h2 h3 h4 h5 h6).mono ?_
    rintro e w' ⟨rfl, n, rfl⟩
    exact ⟨rfl, below_drewN (Below.refl _ _) n⟩
  · exact ⟨0, 1, _, Lib.hid (fun w _ => refPart_bad t s m w h), Lib.hid (fun w _ => part_bad t s m w h), Lib.hid (fun w hw => bare_any (some 1) w hw.ew)⟩
theorem amounts_alike (s : ByteArray) (hs : s.size ≤ 100) : ∃ (x c : Int) (er : Value), Hid (∀ w, PW w → Calls Tryd.prog 13 #[.string s] w (Gives (.tuple #[.int .i64 x, .int .i64 c]) w)) ∧
    Hid (∀ w, PW w → Calls Tryd.prog 14 #[.string s] w (Gives (.tuple #[.int .i64 x, er]) w)) ∧ Hid (∀ w, PW w → Calls Tryd.prog 7 #[er, .int .i64 c] w (Gives (.bool true) w)) := by
  rcases h : Mn.parse s.data.toList with _ | v
  · refine ⟨0, 3, _, Lib.hid (fun w hw => ?_), Lib.hid (fun w hw => ?_), Lib.hid (fun w hw => bare_any (some 3) w hw.ew)⟩
    · refine (refParse_any s w hw.nw (by omega)).mono ?_
      intro e w' hp
      unfold RefParsePost at hp
      rw [h] at hp
      exact hp
    · refine (parse_any s w (by unfold maxLen; omega)).mono ?_
      intro e w' hp
      unfold ParsePost at hp
      rw [h] at hp
      exact hp
  · refine ⟨v, 0, _, Lib.hid (fun w hw => ?_), Lib.hid (fun w hw => ?_), Lib.hid (fun w hw => bare_any none w hw.ew)⟩
    · refine (refParse_any s w hw.nw (by omega)).mono ?_
      intro e w' hp
      unfold RefParsePost at hp
      rw [h] at hp
      exact hp
    · refine (parse_any s w (by unfold maxLen; omega)).mono ?_
      intro e w' hp
      unfold ParsePost at hp
      rw [h] at hp
      exact hp
/-- Both hand back slices that hold the same, and the error is told. -/
theorem spreads_alike (t : Int) (a : Option Addr) (cap : Nat) (zs : List Int) (hl : zs.length ≤ 1000) (w0 : World) (hr : Rd w0 a (zs.map (Value.int .i64))) : ∃ (xs : List Int) (c : Int) (er : Value), xs.length ≤ 1000 ∧
    Hid (∀ w, PW w → Below w0.heap.size w0 w → Calls Tryd.prog 8 #[.int .i64 t, .slice a zs.length cap] w fun e w' => ∃ b n d, e = .returned (.tuple #[.slice b n d, .int .i64 c]) ∧ Hid (n = xs.length) ∧ Rd w' b (xs.map (Value.int .i64)) ∧ Below w.heap.size w w') ∧
    Hid (∀ w, PW w → Below w0.heap.size w0 w → Calls Tryd.prog 9 #[.int .i64 t, .slice a zs.length cap] w fun e w' => ∃ b n d, e = .returned (.tuple #[.slice b n d, er]) ∧ Hid (n = xs.length) ∧ Rd w' b (xs.map (Value.int .i64)) ∧ Below w.heap.size w w') ∧
    Hid (∀ w, PW w → Calls Tryd.prog 7 #[er, .int .i64 c] w (Gives (.bool true) w)) := by
  by_cases h : SpreadOk t zs
  · refine ⟨sprs t zs zs.length, 0, _, by rw [sprs_len]; exact hl, Lib.hid (fun w hw hb => ?_), Lib.hid (fun w hw hb => ?_), Lib.hid (fun w hw => bare_any none w hw.ew)⟩
    · refine (refSpread_any t a cap zs w hw.nw (hr.below hb) hl).mono ?_
      rintro e w' (⟨_, v, rfl, ho, hb2⟩ | ⟨hno, _⟩)
      · obtain ⟨b, d, rfl, hr2, -, -⟩ := rd_of_own ho
        exact ⟨b, _, d, rfl, Lib.hid (by rw [sprs_len]), hr2, hb2⟩
      · exact absurd h hno
    · refine (spread_any t a cap zs w (hr.below hb) hl).mono ?_
      rintro e w' (⟨_, v, rfl, ho, hb2⟩ | ⟨hno, _⟩)
      · obtain ⟨b, d, rfl, hr2, -, -⟩ := rd_of_own ho
        exact ⟨b, _, d, rfl, Lib.hid (by rw [sprs_len]), hr2, hb2⟩
      · exact absurd h hno
  · refine ⟨[], 1, _, by simp, Lib.hid (fun w hw hb => ?_), Lib.hid (fun w hw hb => ?_), Lib.hid (fun w hw => bare_any (some 1) w hw.ew)⟩
    · refine (refSpread_any t a cap zs w hw.nw (hr.below hb) hl).mono ?_
      rintro e w' (⟨hok, _⟩ | ⟨_, rfl, rfl⟩)
      · exact absurd hok h
      · exact ⟨none, 0, 0, rfl, Lib.hid rfl, Rd.nil _ _, Below.refl _ _⟩
    · refine (spread_any t a cap zs w (hr.below hb) hl).mono ?_
      rintro e w' (⟨hok, _⟩ | ⟨_, rfl, rfl⟩)
      · exact absurd hok h
      · exact ⟨none, 0, 0, rfl, Lib.hid rfl, Rd.nil _ _, Below.refl _ _⟩

set_option maxHeartbeats 2000000 in
set_option maxRecDepth 100000 in
theorem parts_walk (t s m : Int) (a : Option Addr) (cap : Nat) (zs : List Int) (x : ByteArray) (w : World) (hw : PW w) (ht : (Lit.int .i64 t).wf = true) (hr : Rd w a (zs.map (Value.int .i64))) (_ : ∀ n ∈ zs, (Lit.int .i64 n).wf = true) (hm : zs.length ≤ maxLen) (hs : x.size ≤ maxLen) :
    Calls Tryd.prog 3 #[.int .i64 t, .int .i64 s, .int .i64 m, .slice a zs.length cap, .string x] w (Gives (.bool true) w) := by
  unfold maxLen at hs hm
  have HR := Lib.hid hr
  clear hr
  by_cases c1 : 60 < zs.length
  · go_enter Tryd.func3, Tryd.ntmps3
    go_wp2
    go_ret
    exact ⟨rfl, Below.refl _ _⟩
  · by_cases c2 : 100 < x.size
    · go_enter Tryd.func3, Tryd.ntmps3
      go_wp2
      go_ret
      exact ⟨rfl, Below.refl _ _⟩
    · obtain ⟨t0, t1⟩ : -9223372036854775808 ≤ t ∧ t ≤ 9223372036854775807 := by
        have := ht
        simp [Lit.wf] at this
        exact this
      obtain ⟨p, cp, ep, f1, g1, b1⟩ := parts_alike t s m
      obtain ⟨xs, cx, ex, hxs, f2, g2, b2⟩ := spreads_alike t a cap zs (by omega) w HR.out
      obtain ⟨v, cv, ev, f3, g3, b3⟩ := amounts_alike x (by omega)
      have HP : Hid (∀ w, Calls Tryd.prog 11 #[.int .i64 t] w (Gives (.string ⟨(Mn.prt t).toArray⟩) w)) := Lib.hid (fun w => print_any t w t0 t1)
      have HA : Hid (∀ w, PW w → Calls Tryd.prog 12 #[.int .i64 t] w (Gives (.string ⟨(Mn.prt t).toArray⟩) w)) := Lib.hid (fun w hw => amount_any t w hw.nw t0 t1)
      generalize (⟨(Mn.prt t).toArray⟩ : ByteArray) = y at HP HA
      have hyy : (y.toList == y.toList) = true := by simp
      clear ht t0 t1
      go_enter Tryd.func3, Tryd.ntmps3
      go_wp2_with fail
      refine (f1.out _ hw).mono ?_
      rintro e w1 ⟨rfl, hb⟩
      have hw1 := hw.below hb
      go_wp2_with fail
      refine (g1.out _ hw1).mono ?_
      rintro e w2 ⟨rfl, hb2⟩
      replace hb := hb.step hb2
      have hw2 := hw1.below hb2
      go_wp2_with fail
      refine (b1.out _ hw2).mono ?_
      rintro e w3 ⟨rfl, hb3⟩
      replace hb := hb.step hb3
      have hw3 := hw2.below hb3
      clear hw1 hw2 hb2 hb3
      go_wp2_with fail
      refine (f2.out _ hw3 hb).mono ?_
      rintro e w4 ⟨bA, nA, dA, rfl, hnA, hrA, hb4⟩
      replace hb := hb.step hb4
      have hw4 := hw3.below hb4
      go_wp2_with fail
      refine (g2.out _ hw4 hb).mono ?_
      rintro e w5 ⟨bB, nB, dB, rfl, hnB, hrB, hb5⟩
      replace hb := hb.step hb5
      have hw5 := hw4.below hb5
      go_wp2_with fail
      refine (b2.out _ hw5).mono ?_
      rintro e w6 ⟨rfl, hb6⟩
      replace hb := hb.step hb6
      have hw6 := hw5.below hb6
      have HRA := Lib.hid ((hrA.below hb5).below hb6)
      have HRB := Lib.hid (hrB.below hb6)
      clear hw3 hw4 hw5 hb4 hb5 hb6 hrA hrB
      go_wp2_with fail
      refine (sameInts_yes _ _ _ _ _ _ xs _ hnB.out hnA.out (by omega) HRB.out HRA.out).mono ?_
      rintro e w7 ⟨rfl, hb7⟩
      replace hb := hb.step hb7
      have hw7 := hw6.below hb7
      go_wp2_with fail
      refine (HP.out _).mono ?_
      rintro e w8 ⟨rfl, hb8⟩
      replace hb := hb.step hb8
      have hw8 := hw7.below hb8
      go_wp2_with fail
      refine (HA.out _ hw8).mono ?_
      rintro e w9 ⟨rfl, hb9⟩
      replace hb := hb.step hb9
      have hw9 := hw8.below hb9
      clear hw6 hw7 hw8 hb7 hb8 hb9
      go_wp2_with fail
      refine (f3.out _ hw9).mono ?_
      rintro e w10 ⟨rfl, hb10⟩
      replace hb := hb.step hb10
      have hw10 := hw9.below hb10
      go_wp2_with fail
      refine (g3.out _ hw10).mono ?_
      rintro e w11 ⟨rfl, hb11⟩
      replace hb := hb.step hb11
      have hw11 := hw10.below hb11
      go_wp2_with fail
      refine (b3.out _ hw11).mono ?_
      rintro e w12 ⟨rfl, hb12⟩
      replace hb := hb.step hb12
      go_wp2_with fail
      go_ret
      exact ⟨rfl, hb⟩
end Go.Proofs.YtmkfdmbjeppndaaDoor
