/- tallymanref.Part, Spread: what they hand back. -/
import Derived.Test.YtmkfdmbjeppndaaDoorMdv
import Derived.Test.YtmkfdmbjeppndaaDoorMoneyS
import Derived.Test.YtmkfdmbjeppndaaDoorRefM
namespace Go.Proofs.YtmkfdmbjeppndaaDoor
open Go.RowKit

set_option maxHeartbeats 400000 in
theorem refPart_ok (t s m : Int) (w : World) (hw : NW w) (h1 : 0 ≤ t) (h2 : t ≤ 20000000000000) (h3 : 1 ≤ m) (h4 : m ≤ 100000) (h5 : 0 ≤ s) (h6 : s ≤ m) :
    Calls Tryd.prog 5 #[.int .i64 t, .int .i64 s, .int .i64 m] w (Gives (.tuple #[.int .i64 (t * s / m), .int .i64 0]) w) := by
  obtain ⟨b, rfl⟩ : ∃ b : Nat, s = b := ⟨s.toNat, by omega⟩
  have HM := Lib.hid (mulDiv_any t m b w hw h1 h2 h3 (by omega) h6)
  generalize t * (b : Int) / m = r at HM ⊢
  go_enter Tryd.func5, Tryd.ntmps5
  go_wp2_with fail
  refine (in_yes t _ _ _ (by omega) (by omega)).mono ?_
  rintro e w1 ⟨rfl, rfl⟩
  go_wp2_with fail
  refine (in_yes m _ _ _ (by omega) (by omega)).mono ?_
  rintro e w1 ⟨rfl, rfl⟩
  go_wp2_with fail
  refine (in_yes _ _ _ _ (by omega) (by omega)).mono ?_
  rintro e w1 ⟨rfl, rfl⟩
  go_wp2_with fail
  refine HM.out.mono ?_
  rintro e w1 ⟨rfl, hb⟩
  go_wp2_with fail
  go_ret2
  exact ⟨rfl, hb⟩

def PartOk (t s m : Int) : Prop := 0 ≤ t ∧ t ≤ 20000000000000 ∧ 1 ≤ m ∧ m ≤ 100000 ∧ 0 ≤ s ∧ s ≤ m
set_option maxHeartbeats 400000 in
theorem refPart_bad (t s m : Int) (w : World) (h : ¬ PartOk t s m) :
    Calls Tryd.prog 5 #[.int .i64 t, .int .i64 s, .int .i64 m] w (Gives (.tuple #[.int .i64 0, .int .i64 1]) w) := by
  by_cases c1 : 0 ≤ t ∧ t ≤ 20000000000000
  · by_cases c2 : 1 ≤ m ∧ m ≤ 100000
    · have c3 : Hid (s < 0 ∨ m < s) := Lib.hid (by
        apply Classical.byContradiction
        intro hc
        exact h ⟨c1.1, c1.2, c2.1, c2.2, by omega, by omega⟩)
      have C1 := Lib.hid c1
      have C2 := Lib.hid c2
      clear h c1 c2
      go_enter Tryd.func5, Tryd.ntmps5
      go_wp2_with fail
      refine (in_yes t _ _ _ C1.out.1 C1.out.2).mono ?_
      rintro e w1 ⟨rfl, rfl⟩
      go_wp2_with fail
      refine (in_yes m _ _ _ C2.out.1 C2.out.2).mono ?_
      rintro e w1 ⟨rfl, rfl⟩
      go_wp2_with fail
      refine (in_no s _ _ _ c3.out).mono ?_
      rintro e w1 ⟨rfl, rfl⟩
      go_wp2_with fail
      go_ret2
      exact ⟨rfl, Below.refl _ _⟩
    · have C1 := Lib.hid c1
      have C2 : Hid (m < 1 ∨ 100000 < m) := Lib.hid (by omega)
      clear h c1 c2
      go_enter Tryd.func5, Tryd.ntmps5
      go_wp2_with fail
      refine (in_yes t _ _ _ C1.out.1 C1.out.2).mono ?_
      rintro e w1 ⟨rfl, rfl⟩
      go_wp2_with fail
      refine (in_no m _ _ _ C2.out).mono ?_
      rintro e w1 ⟨rfl, rfl⟩
      go_wp2_with fail
      go_ret2
      exact ⟨rfl, Below.refl _ _⟩
  · have C1 : Hid (t < 0 ∨ 20000000000000 < t) := Lib.hid (by omega)
    clear h c1
    go_enter Tryd.func5, Tryd.ntmps5
    go_wp2_with fail
    refine (in_no t _ _ _ C1.out).mono ?_
    rintro e w1 ⟨rfl, rfl⟩
    go_wp2_with fail
    go_ret2
    exact ⟨rfl, Below.refl _ _⟩

set_option maxHeartbeats 400000 in
theorem part_bad (t s m : Int) (w : World) (h : ¬ PartOk t s m) :
    Calls Tryd.prog 6 #[.int .i64 t, .int .i64 s, .int .i64 m] w (Gives (.tuple #[.int .i64 0, .iface 23 (.int .i64 1)]) w) := by
  unfold PartOk at h
  by_cases c1 : t < 0
  · clear h
    go_enter Tryd.func6, Tryd.ntmps6
    go_wp2
    go_ret2
    exact ⟨rfl, Below.refl _ _⟩
  · by_cases c2 : 20000000000000 < t
    · clear h
      go_enter Tryd.func6, Tryd.ntmps6
      go_wp2
      go_ret2
      exact ⟨rfl, Below.refl _ _⟩
    · by_cases c3 : m < 1
      · clear h
        go_enter Tryd.func6, Tryd.ntmps6
        go_wp2
        go_ret2
        exact ⟨rfl, Below.refl _ _⟩
      · by_cases c4 : 100000 < m
        · clear h
          go_enter Tryd.func6, Tryd.ntmps6
          go_wp2
          go_ret2
          exact ⟨rfl, Below.refl _ _⟩
        · by_cases c5 : s < 0
          · clear h
            go_enter Tryd.func6, Tryd.ntmps6
            go_wp2
            go_ret2
            exact ⟨rfl, Below.refl _ _⟩
          · have c6 : m < s := by omega
            clear h
            go_enter Tryd.func6, Tryd.ntmps6
            go_wp2
            go_ret2
            exact ⟨rfl, Below.refl _ _⟩

theorem own_last {w : World} {base e : Nat} {v : Value} {n : Nat} {xs : List Value} {x : Value} (h : w.ownsRow base e 1 v (n + 1) (xs ++ [x])) (hn : xs.length = n) :
    ∃ b off c, v = .slice (some ⟨b, off, none⟩) (n + 1) c ∧ w.cell? ⟨b, off + n, none⟩ = some x := by
  obtain ⟨a, c, rfl, hr, -, -⟩ := rd_of_own h
  obtain ⟨b, off, rfl, hc⟩ := hr.at n (by simp; omega)
  refine ⟨b, off, c, rfl, ?_⟩
  rw [hc]
  subst hn
  simp [List.getD]

def RefSpreadPost (t : Int) (zs : List Int) (w : World) (e : Ending) (w' : World) : Prop :=
  (SpreadOk t zs ∧ ∃ v, e = .returned (.tuple #[v, .int .i64 0]) ∧ w'.ownsRow w.heap.size 3 1 v zs.length ((sprs t zs zs.length).map (Value.int .i64)) ∧ Below w.heap.size w w') ∨
  (¬ SpreadOk t zs ∧ e = .returned (.tuple #[.slice none 0 0, .int .i64 1]) ∧ w' = w)

set_option maxHeartbeats 800000 in
set_option maxRecDepth 100000 in
theorem refSpread_any (t : Int) (a : Option Addr) (cap : Nat) (zs : List Int) (w : World) (hw : NW w) (hr : Rd w a (zs.map (Value.int .i64))) (hl : zs.length ≤ 1000) :
    Calls Tryd.prog 8 #[.int .i64 t, .slice a zs.length cap] w (RefSpreadPost t zs w) := by
  obtain ⟨i0, hi, hiz, his, hib⟩ := info_parts info_int
  have HR := Lib.hid hr
  clear hr
  go_enter Tryd.func8, Tryd.ntmps8
  go_wp2
  go_loop [6, 16] (fun all i => ∃ k : Nat, k ≤ zs.length ∧ i = .int .i64 k ∧ all = .int .i64 (upto zs k) ∧ okz zs k) (fun _ i => zs.length - (intOf i).toNat)
  case atStart => exact ⟨0, by omega, rfl, by rw [upto_zero], fun j hj => absurd hj (by omega)⟩
  case round =>
    obtain ⟨k, hk, rfl, rfl, hz⟩ := hrel
    have hu := upto_bd zs k hk hz
    have HZ := Lib.hid hz
    clear hz
    by_cases hlt : k < zs.length
    · obtain ⟨b, off, rfl, hc⟩ := HR.out.ints k hlt
      obtain ⟨z, hz⟩ : ∃ z, z = zs.getD k 0 := ⟨_, rfl⟩
      rw [← hz] at hc
      have Hz := Lib.hid hz
      clear hz
      by_cases hbad : z < 0 ∨ 100000 < z
      · have hno : ¬ SpreadOk t zs := fun h => by have := h.2.2.1 k hlt; rw [← Hz.out] at this; omega
        have HNO := Lib.hid hno
        have HB := Lib.hid hbad
        clear hno hbad
        go_wp2_with fail
        refine (in_no z _ _ _ HB.out).mono ?_
        rintro e w1 ⟨rfl, rfl⟩
        go_wp2_with fail
        go_ret2
        exact Or.inr ⟨HNO.out, rfl, rfl⟩
      · obtain ⟨hz1, hz2⟩ : 0 ≤ z ∧ z ≤ 100000 := by omega
        clear hbad
        go_wp2_with fail
        refine (in_yes z _ _ _ hz1 hz2).mono ?_
        rintro e w1 ⟨rfl, rfl⟩
        go_wp2_with fail
        go_round
        case rel =>
          refine ⟨k + 1, by omega, by go_num, by rw [upto_succ zs k hlt, ← Hz.out], ?_⟩
          intro j hj
          by_cases h : j = k
          · subst h; rw [← Hz.out]; exact ⟨hz1, hz2⟩
          · exact HZ.out j (by omega)
        case measure => simp [intOf]; omega
    · obtain rfl : k = zs.length := by omega
      obtain ⟨S, hS⟩ : ∃ S, S = zs.sum := ⟨_, rfl⟩
      rw [upto_all, ← hS] at hu ⊢
      have HS := Lib.hid hS
      clear hS hlt hk
      by_cases hOk : 0 ≤ t ∧ t ≤ 1000000000000 ∧ 1 ≤ S ∧ S ≤ 100000000
      · obtain ⟨ht1, ht2, hs1, hs2⟩ := hOk
        have hok : SpreadOk t zs := ⟨ht1, ht2, HZ.out, by rw [← HS.out]; exact hs1, by rw [← HS.out]; exact hs2⟩
        have HOK := Lib.hid hok
        clear hok
        go_wp2_with fail
        refine (in_yes t _ _ _ ht1 ht2).mono ?_
        rintro e w1 ⟨rfl, rfl⟩
        go_wp2_with fail
        refine (in_yes S _ _ _ hs1 hs2).mono ?_
        rintro e w1 ⟨rfl, rfl⟩
        go_wp2_with fail
        go_loopw [9, 10, 11, 37] (fun v up done i wr => ∃ k : Nat, k ≤ zs.length ∧ i = .int .i64 k ∧ up = .int .i64 (upto zs k) ∧ done = .int .i64 (t * upto zs k / S) ∧ wr.ownsRow w.heap.size 3 1 v k ((sprs t zs k).map (Value.int .i64)) ∧ Below w.heap.size w wr) (fun _ _ _ i _ => zs.length - (intOf i).toNat)
        case atStart => exact ⟨0, by omega, rfl, by rw [upto_zero], by rw [upto_zero]; simp, World.ownsRow_nil _ _ _ _, Below.refl _ _⟩
        case round =>
          obtain ⟨k, hk, rfl, rfl, rfl, hown, hb⟩ := hrel
          have hu1 := upto_bd zs k hk (fun j hj => HZ.out j (by omega))
          have hu2 := upto_mono zs zs.length (Nat.le_refl _) k hk HZ.out
          rw [upto_all, ← HS.out] at hu2
          obtain ⟨p, hp⟩ : ∃ p, p = upto zs k := ⟨_, rfl⟩
          rw [← hp] at hu1 hu2 ⊢
          have Hp := Lib.hid hp
          clear hp
          have hd := part_le t p S ht1 hs1 hu1.1 hu2
          obtain ⟨d, hd0⟩ : ∃ d, d = t * p / S := ⟨_, rfl⟩
          rw [← hd0] at hd ⊢
          have Hd := Lib.hid hd0
          clear hd0
          by_cases hlt : k < zs.length
          · obtain ⟨b, off, rfl, hc⟩ := HR.out.ints k hlt
            obtain ⟨z, hz⟩ : ∃ z, z = zs.getD k 0 := ⟨_, rfl⟩
            rw [← hz] at hc
            have hz1 : 0 ≤ z ∧ z ≤ 100000 := by rw [hz]; exact HZ.out k hlt
            have hup : p + z = upto zs (k + 1) := by rw [upto_succ zs k hlt, ← Hp.out, hz]
            have hup2 : p + z ≤ S := by rw [hup, HS.out, ← upto_all]; exact upto_mono zs zs.length (Nat.le_refl _) (k + 1) (by omega) HZ.out
            have Hup := Lib.hid hup
            clear hz hup
            have hc' : wr.cell? ⟨b, off + k, none⟩ = some (.int .i64 z) := by
              rw [hb.cell (p := ⟨b, off + k, none⟩) (cell_lt hc), hc]
            clear hc
            have hd2 := part_le t (p + z) S ht1 hs1 (by omega) hup2
            obtain ⟨P, hP⟩ : ∃ P : Nat, (P : Int) = p + z := ⟨(p + z).toNat, by omega⟩
            have HM : Hid (Calls Tryd.prog 28 #[.int .i64 t, .int .i64 (p + z), .int .i64 S] wr (Gives (.int .i64 (t * (p + z) / S)) wr)) := Lib.hid (by
              have := mulDiv_any t S P wr (hw.below hb) ht1 (by omega) hs1 hs2 (by omega)
              rw [hP] at this
              exact this)
            obtain ⟨e, he⟩ : ∃ e, e = t * (p + z) / S := ⟨_, rfl⟩
            rw [← he] at HM hd2
            have He := Lib.hid he
            clear he hP
            have hbs := hb.size
            go_wp2_with fail
            refine HM.out.mono ?_
            rintro e0 w1 ⟨rfl, hb1⟩
            have hown1 : w1.ownsRow w.heap.size 3 1 _ k ((sprs t zs k).map (Value.int .i64)) := own_below hown hb1
            have hb2 : Below w.heap.size w w1 := hb.step hb1
            have hbs2 := hb2.size
            clear hown hc' hbs
            go_wp2_with (first
              | (at_builtin; refine app_one (w := w1) rfl (.tmp 44) (.tmp 51) 22 rfl w.heap.size 3 i0 (.int .i64 0) 1 8 Tryd.underlying22 hi hiz his hib rfl (by decide) _ _ _ hown1 rfl [.int .i64 (e - d)] rfl rfl (one_int _ _) (by unfold maxLen; omega) (by omega) (by omega) ?_; intro v2 w2 hown2 hg2; obtain ⟨b2, o2, c2, rfl, hce⟩ := own_last hown2 (by simp [sprs_len])))
            go_roundw
            case rel =>
              refine ⟨k + 1, by omega, by go_num, by rw [← Hup.out], ?_, ?_, hb2.owngrown hown1 hg2⟩
              · rw [← Hup.out, ← He.out]
                exact congrArg (Value.int .i64) (by omega)
              · rw [sprs_succ, List.map_append, List.map_cons, List.map_nil]
                have e1 : spr t zs k = e - d := by unfold spr; rw [← Hup.out, ← Hp.out, ← HS.out, ← He.out, ← Hd.out]
                rw [e1]
                exact hown2
            case measure => simp [intOf]; omega
          · obtain rfl : k = zs.length := by omega
            go_wp2
            go_ret2
            exact Or.inl ⟨HOK.out, _, rfl, hown, hb⟩
      · have hno : ¬ SpreadOk t zs := fun h => hOk ⟨h.1, h.2.1, by rw [HS.out]; exact h.2.2.2.1, by rw [HS.out]; exact h.2.2.2.2⟩
        have HNO := Lib.hid hno
        clear hno
        by_cases c1 : 0 ≤ t ∧ t ≤ 1000000000000
        · have C1 := Lib.hid c1
          have C2 : Hid (S < 1 ∨ 100000000 < S) := Lib.hid (by omega)
          clear c1 hOk
          go_wp2_with fail
          refine (in_yes t _ _ _ C1.out.1 C1.out.2).mono ?_
          rintro e w1 ⟨rfl, rfl⟩
          go_wp2_with fail
          refine (in_no S _ _ _ C2.out).mono ?_
          rintro e w1 ⟨rfl, rfl⟩
          go_wp2_with fail
          go_ret2
          exact Or.inr ⟨HNO.out, rfl, rfl⟩
        · have C1 : Hid (t < 0 ∨ 1000000000000 < t) := Lib.hid (by omega)
          clear c1 hOk
          go_wp2_with fail
          refine (in_no t _ _ _ C1.out).mono ?_
          rintro e w1 ⟨rfl, rfl⟩
          go_wp2_with fail
          go_ret2
          exact Or.inr ⟨HNO.out, rfl, rfl⟩
end Go.Proofs.YtmkfdmbjeppndaaDoor
