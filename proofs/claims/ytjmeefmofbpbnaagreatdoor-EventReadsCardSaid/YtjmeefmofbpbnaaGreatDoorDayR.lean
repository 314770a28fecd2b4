/- day.Parse: what it hands back. -/
import Derived.Test.YtjmeefmofbpbnaaGreatDoorJoined11
namespace Go.Proofs.YtjmeefmofbpbnaaGreatDoor
open Go.RowKit

/-- strconv.Atoi of a short text. -/
def AtoiPost (s : ByteArray) (w : World) (e : Ending) (w' : World) : Prop :=
  ∃ (v : Int) (er : Value), e = .returned (.tuple #[.int .i64 v, er]) ∧ ((Lib.atoi s.data.toList = some v ∧ er = .nilIface) ∨ (Lib.atoi s.data.toList = none ∧ v = 0 ∧ ∃ N, er = .iface 107 (.pointer (some ⟨N, 0, none⟩)))) ∧ Below w.heap.size w w'

theorem atoi_any (s : ByteArray) (w : World) (hw : DW w) (hl : s.size ≤ 18) : Calls Tryz.prog 31 #[.string s] w (AtoiPost s w) := by
  rcases h : Lib.atoi s.data.toList with _ | v
  · obtain ⟨tp, p, hv⟩ := hw.syn
    refine (Tryz.strconv_Atoi_err_var s hl h tp p w hv).mono ?_
    rintro e w' ⟨N, rfl, -, -, hb⟩
    exact ⟨0, _, rfl, Or.inr ⟨h, rfl, N, rfl⟩, hb⟩
  · refine (Tryz.strconv_Atoi s v hl h w).mono ?_
    rintro e w' ⟨rfl, t, rfl⟩
    exact ⟨v, _, rfl, Or.inl ⟨h, rfl⟩, Lib.bytesWorld_below _ _ _⟩

theorem atoi_is (s : ByteArray) (v : Int) (w : World) (hl : s.size ≤ 18) (h : Lib.atoi s.data.toList = some v) : Calls Tryz.prog 31 #[.string s] w (Gives (.tuple #[.int .i64 v, .nilIface]) w) := by
  refine (Tryz.strconv_Atoi s v hl h w).mono ?_
  rintro e w' ⟨rfl, t, rfl⟩
  exact ⟨rfl, Lib.bytesWorld_below _ _ _⟩

set_option maxHeartbeats 800000 in
theorem day_parse_yes (n : Int) (s : ByteArray) (w : World) (hw : DW w) (h0 : 0 ≤ n) (h1 : n ≤ 99999) (hT : Dy.Text n s.data.toList) :
    Calls Tryz.prog 32 #[.string s] w (Gives (.tuple #[.int .i64 n, .nilIface]) w) := by
  have HT := Lib.hid hT
  obtain ⟨y, d, m, hi, hs⟩ := hT
  obtain ⟨Y, rfl⟩ : ∃ Y : Nat, y = Y := ⟨y.toNat, by have := hi.1.1; omega⟩
  obtain ⟨D, rfl⟩ : ∃ D : Nat, d = D := ⟨d.toNat, by have := hi.1.2.2.2.2.1; omega⟩
  have hlen : ((D : Int)) ≤ 31 := by
    have a1 := hi.1.2.2.2.2.2
    have a2 := Dy.len_pos Y m (by have := hi.1.2.2.1; omega) (by have := hi.1.2.2.2.1; omega)
    simp at a1
    omega
  obtain ⟨b1, b2, b3, b4, b5, -⟩ := hi.1
  have hof := Dy.ofN_is hi h1
  obtain ⟨o, ho⟩ : ∃ o, o = okVal (Dy.ofN Y m D) := ⟨_, rfl⟩
  have ho2 : o = .tuple #[.int .i64 n, .nilIface] := by rw [ho, hof]; rfl
  have HO : Hid (∀ w1, DW w1 → Calls Tryz.prog 55 #[.int .i64 Y, .int .i64 m, .int .i64 D] w1 (Draws (.tuple #[.int .i64 n, .nilIface]) w1)) := Lib.hid (fun w1 hw1 => by have := of_any Y m D w1 hw1; rw [← ho, ho2] at this; exact this)
  clear ho ho2 hof o
  have es : s = ⟨(Dy.txt Y m D).toArray⟩ := by
    apply ByteArray.ext
    apply Array.ext'
    rw [hs]
    simp
  have hsz : s.size = 10 := by rw [es]; rfl
  have c4 : ((s[4].toNat : Nat) : Int) = 45 := by subst es; rfl
  have c7 : ((s[7].toNat : Nat) : Int) = 45 := by subst es; rfl
  have ea : s.extract 0 4 = ⟨(Dy.four4 Y).toArray⟩ := by rw [es]; rfl
  have eb : s.extract 5 7 = ⟨(Dy.two2 m).toArray⟩ := by rw [es]; rfl
  have ec : s.extract 8 s.size = ⟨(Dy.two2 D).toArray⟩ := by rw [hsz, es]; rfl
  have f1 := slice_to (P := Tryz.prog) 9 Tryz.underlying9 s 4 4 rfl (by omega)
  have f2 := slice_mid (P := Tryz.prog) 9 Tryz.underlying9 s 5 7 5 7 rfl rfl (by omega) (by omega)
  have f3 := slice_from (P := Tryz.prog) 9 Tryz.underlying9 s 8 8 rfl (by omega)
  obtain ⟨a, ha⟩ : ∃ a, a = s.extract 0 4 := ⟨_, rfl⟩
  obtain ⟨b, hb⟩ : ∃ b, b = s.extract 5 7 := ⟨_, rfl⟩
  obtain ⟨c, hc⟩ : ∃ c, c = s.extract 8 s.size := ⟨_, rfl⟩
  rw [← ha] at f1 ea
  rw [← hb] at f2 eb
  rw [← hc] at f3 ec
  have HA : Hid (∀ w1, Calls Tryz.prog 31 #[.string a] w1 (Gives (.tuple #[.int .i64 Y, .nilIface]) w1)) := Lib.hid (fun w1 => atoi_is a Y w1 (by rw [ea]; show 4 ≤ 18; omega) (by rw [ea]; exact Dy.atoi_four4 Y (by omega)))
  have HB : Hid (∀ w1, Calls Tryz.prog 31 #[.string b] w1 (Gives (.tuple #[.int .i64 m, .nilIface]) w1)) := Lib.hid (fun w1 => atoi_is b m w1 (by rw [eb]; show 2 ≤ 18; omega) (by rw [eb]; exact Dy.atoi_two2 m (by omega)))
  have HC : Hid (∀ w1, Calls Tryz.prog 31 #[.string c] w1 (Gives (.tuple #[.int .i64 D, .nilIface]) w1)) := Lib.hid (fun w1 => atoi_is c D w1 (by rw [ec]; show 2 ≤ 18; omega) (by rw [ec]; exact Dy.atoi_two2 D (by omega)))
  clear es ea eb ec ha hb hc hs hi
  have H0 := Lib.hid h0
  have H1 := Lib.hid h1
  clear h0 h1
  go_enter Tryz.func32, Tryz.ntmps32
  go_wp2_with fail
  refine (HA.out _).mono ?_
  rintro e w1 ⟨rfl, hb1⟩
  go_wp2_with fail
  refine (HB.out _).mono ?_
  rintro e w2 ⟨rfl, hb2⟩
  go_wp2_with fail
  refine (HC.out _).mono ?_
  rintro e w3 ⟨rfl, hb3⟩
  have hb13 : Below w.heap.size w w3 := (hb1.step hb2).step hb3
  go_wp2_with fail
  refine (HO.out _ (hw.below hb13)).mono ?_
  rintro e w4 ⟨rfl, q, rfl⟩
  have hb14 : Below w.heap.size w (w3.drewN q) := below_drewN hb13 q
  have hw4 : DW (w3.drewN q) := hw.below hb14
  generalize w3.drewN q = w4 at hb14 hw4 ⊢
  go_wp2_with fail
  refine (day_print_ok n _ hw4 H0.out H1.out).mono ?_
  rintro e w5 ⟨l, hl, rfl, hb5⟩
  have hq' : (l == s.toList) = true := by rw [Go.ByteArray.toList_eq, Dy.text_uniq hl HT.out]; simp
  go_wp2_with fail
  go_ret2
  exact ⟨rfl, hb14.step hb5⟩

def DayNo (w : World) (e : Ending) (w' : World) : Prop := e = .returned (.tuple #[.int .i64 0, .iface 28 (.int .i64 3)]) ∧ Below w.heap.size w w'

set_option maxHeartbeats 800000 in
theorem day_parse_no (s : ByteArray) (w : World) (hw : DW w) (hT : ∀ n, 0 ≤ n → n ≤ 99999 → ¬ Dy.Text n s.data.toList) :
    Calls Tryz.prog 32 #[.string s] w (DayNo w) := by
  have HT := Lib.hid hT
  clear hT
  by_cases hsz : s.size = 10
  · by_cases c4 : ((s[4].toNat : Nat) : Int) = 45
    · by_cases c7 : ((s[7].toNat : Nat) : Int) = 45
      · have f1 := slice_to (P := Tryz.prog) 9 Tryz.underlying9 s 4 4 rfl (by omega)
        have f2 := slice_mid (P := Tryz.prog) 9 Tryz.underlying9 s 5 7 5 7 rfl rfl (by omega) (by omega)
        have f3 := slice_from (P := Tryz.prog) 9 Tryz.underlying9 s 8 8 rfl (by omega)
        have za : (s.extract 0 4).size ≤ 18 := by simp [hsz]
        have zb : (s.extract 5 7).size ≤ 18 := by simp [hsz]
        have zc : (s.extract 8 s.size).size ≤ 18 := by simp [hsz]
        generalize s.extract 0 4 = a at f1 za
        generalize s.extract 5 7 = b at f2 zb
        generalize s.extract 8 s.size = c at f3 zc
        go_enter Tryz.func32, Tryz.ntmps32
        go_wp2_with fail
        refine (atoi_any a _ hw za).mono ?_
        rintro e w1 ⟨v1, er1, rfl, h1, hb1⟩
        have hw1 := hw.below hb1
        rcases h1 with ⟨-, rfl⟩ | ⟨-, rfl, N1, rfl⟩
        all_goals
          go_wp2_with fail
          refine (atoi_any b _ hw1 zb).mono ?_
          rintro e w2 ⟨v2, er2, rfl, h2, hb2⟩
          have hw2 := hw1.below hb2
          rcases h2 with ⟨-, rfl⟩ | ⟨-, rfl, N2, rfl⟩
        all_goals
          go_wp2_with fail
          refine (atoi_any c _ hw2 zc).mono ?_
          rintro e w3 ⟨v3, er3, rfl, h3, hb3⟩
          have hw3 := hw2.below hb3
          have hb13 : Below w.heap.size w w3 := (hb1.step hb2).step hb3
          rcases h3 with ⟨-, rfl⟩ | ⟨-, rfl, N3, rfl⟩
        all_goals go_wp2_with fail
        all_goals try (go_ret2; exact ⟨rfl, hb13⟩)
        rcases ho : Dy.ofN v1 v2 v3 with _ | n
        · have HO : Hid (Calls Tryz.prog 55 #[.int .i64 v1, .int .i64 v2, .int .i64 v3] w3 (Draws (.tuple #[.int .i64 0, .iface 28 (.int .i64 1)]) w3)) := Lib.hid (by have := of_any v1 v2 v3 w3 hw3; rw [ho] at this; exact this)
          clear ho
          refine HO.out.mono ?_
          rintro e w4 ⟨rfl, q, rfl⟩
          go_wp2_with fail
          go_ret2
          exact ⟨rfl, below_drewN hb13 q⟩
        · have HO : Hid (Calls Tryz.prog 55 #[.int .i64 v1, .int .i64 v2, .int .i64 v3] w3 (Draws (.tuple #[.int .i64 n, .nilIface]) w3)) := Lib.hid (by have := of_any v1 v2 v3 w3 hw3; rw [ho] at this; exact this)
          obtain ⟨-, n0, n1⟩ := Dy.ofN_some ho
          have H0 := Lib.hid n0
          have H1 := Lib.hid n1
          clear ho n0 n1
          refine HO.out.mono ?_
          rintro e w4 ⟨rfl, q, rfl⟩
          have hb14 : Below w.heap.size w (w3.drewN q) := below_drewN hb13 q
          have hw4 : DW (w3.drewN q) := hw.below hb14
          generalize w3.drewN q = w4 at hb14 hw4 ⊢
          go_wp2_with fail
          refine (day_print_ok n _ hw4 H0.out H1.out).mono ?_
          rintro e w5 ⟨l, hl, rfl, hb5⟩
          have hq' : (l == s.toList) = false := by
            rw [Go.ByteArray.toList_eq]
            apply Classical.byContradiction
            intro hc
            simp at hc
            exact HT.out n H0.out H1.out (hc ▸ hl)
          go_wp2_with fail
          go_ret2
          exact ⟨rfl, hb14.step hb5⟩
      · go_enter Tryz.func32, Tryz.ntmps32
        have c7' : (((s[7].toNat : Nat) : Int) == 45) = false := by simpa using c7
        go_wp2_with fail
        go_ret2
        exact ⟨rfl, Below.refl _ _⟩
    · go_enter Tryz.func32, Tryz.ntmps32
      have c4' : (((s[4].toNat : Nat) : Int) == 45) = false := by simpa using c4
      go_wp2_with fail
      go_ret2
      exact ⟨rfl, Below.refl _ _⟩
  · go_enter Tryz.func32, Tryz.ntmps32
    have c0 : (((s.size : Nat) : Int) == 10) = false := by simp; omega
    go_wp2_with fail
    go_ret2
    exact ⟨rfl, Below.refl _ _⟩
end Go.Proofs.YtjmeefmofbpbnaaGreatDoor
