/- tallymanref.ParseDate at a text that is no day's: what it hands back. -/
import Derived.Test.YtmkfdmbjeppndaaDoorAtoiX
import Derived.Test.YtmkfdmbjeppndaaDoorRefD
import Derived.Lib.SplitLaws
namespace Go.Proofs.YtmkfdmbjeppndaaDoor
open Go.RowKit

theorem split_sizes (sep : ByteArray) : ∀ (k : Nat) (s x : ByteArray), x ∈ Lib.splitB sep 0 k s → x.size ≤ s.size := by
  intro k
  induction k with
  | zero => intro s x hx; rw [Lib.splitB_zero] at hx; simp at hx; subst hx; omega
  | succ k ih =>
    intro s x hx
    unfold Lib.splitB at hx
    split at hx
    · simp at hx; subst hx; omega
    · simp only [List.mem_cons] at hx
      rcases hx with rfl | hx
      · simp; omega
      · have := ih _ _ hx
        simp at this
        omega

set_option maxHeartbeats 800000 in
theorem refParse_no (s : ByteArray) (w : World) (hw : DR w) (hs : s.size ≤ 100) (hT : ∀ n, 0 ≤ n → n ≤ 99999 → ¬ Dy.Text n s.data.toList) :
    Calls Tryd.prog 25 #[.string s] w (Gives (.tuple #[.int .i64 0, .int .i64 3]) w) := by
  have HT := Lib.hid hT
  clear hT
  obtain ⟨mx, hmx⟩ := hw.most
  have HS := Lib.hid (Tryd.strings_Split s ⟨#[45]⟩ mx w (by omega) hmx (by decide))
  clear hmx
  by_cases hc : Lib.countB s ⟨#[45]⟩ = 2
  · have hlen := Lib.splitB_all ⟨#[45]⟩ (by decide) 0 2 s hc
    have hsz := split_sizes ⟨#[45]⟩ 2 s
    rw [hc] at HS
    generalize Lib.splitB ⟨#[45]⟩ 0 2 s = L at hlen hsz HS
    match L, hlen with
    | [a, b, c], _ =>
      have za : a.size ≤ 100 := Nat.le_trans (hsz a (by simp)) hs
      have zb : b.size ≤ 100 := Nat.le_trans (hsz b (by simp)) hs
      have zc : c.size ≤ 100 := Nat.le_trans (hsz c (by simp)) hs
      clear hsz hc
      go_enter Tryd.func25, Tryd.ntmps25
      go_wp2_with fail
      refine HS.out.mono ?_
      rintro e w1 ⟨rfl, hw1⟩
      have hb1 : Below w.heap.size w w1 := by rw [hw1]; exact (Below.refl _ _).alloc (Nat.le_refl _) _
      have hlt : w.heap.size < w1.heap.size := by rw [hw1]; simp
      have c0 : w1.cell? ⟨w.heap.size, 0, none⟩ = some (.string a) := by rw [hw1]; simp
      have c1 : w1.cell? ⟨w.heap.size, 1, none⟩ = some (.string b) := by rw [hw1]; simp
      have c2 : w1.cell? ⟨w.heap.size, 2, none⟩ = some (.string c) := by rw [hw1]; simp
      have hwr1 := hw.below hb1
      clear hw1
      go_wp2_with fail
      refine (atoi_x a _ hwr1 za).mono ?_
      rintro e w2 ⟨v1, er1, rfl, h1, hb2⟩
      have d1 : w2.cell? ⟨w.heap.size, 1, none⟩ = some (.string b) := by rw [hb2.cell (p := ⟨w.heap.size, 1, none⟩) hlt, c1]
      have d2 : w2.cell? ⟨w.heap.size, 2, none⟩ = some (.string c) := by rw [hb2.cell (p := ⟨w.heap.size, 2, none⟩) hlt, c2]
      have hlt2 : w.heap.size < w2.heap.size := Nat.lt_of_lt_of_le hlt hb2.size
      have hwr2 := hwr1.below hb2
      rcases h1 with rfl | ⟨N1, rfl⟩
      all_goals
        go_wp2_with fail
        refine (atoi_x b _ hwr2 zb).mono ?_
        rintro e w3 ⟨v2, er2, rfl, h2, hb3⟩
        have e2 : w3.cell? ⟨w.heap.size, 2, none⟩ = some (.string c) := by rw [hb3.cell (p := ⟨w.heap.size, 2, none⟩) hlt2, d2]
        have hwr3 := hwr2.below hb3
        rcases h2 with rfl | ⟨N2, rfl⟩
      all_goals
        go_wp2_with fail
        refine (atoi_x c _ hwr3 zc).mono ?_
        rintro e w4 ⟨v3, er3, rfl, h3, hb4⟩
        have hwr4 := hwr3.below hb4
        have hb14 : Below w.heap.size w w4 := ((hb1.step hb2).step hb3).step hb4
        rcases h3 with rfl | ⟨N3, rfl⟩
      all_goals
        go_wp2_with fail
        rcases ho : Dy.ofN v1 v2 v3 with _ | n
        · have HO : Hid (Calls Tryd.prog 15 #[.int .i64 v1, .int .i64 v2, .int .i64 v3] w4 (Same (.tuple #[.int .i64 0, .int .i64 1]) w4)) := Lib.hid (by have := refDay_any v1 v2 v3 w4; rw [ho] at this; exact this)
          clear ho
          refine HO.out.mono ?_
          rintro e w5 ⟨rfl, rfl⟩
          go_wp2_with fail
          go_ret2
          exact ⟨rfl, hb14⟩
        · have HO : Hid (Calls Tryd.prog 15 #[.int .i64 v1, .int .i64 v2, .int .i64 v3] w4 (Same (.tuple #[.int .i64 n, .int .i64 0]) w4)) := Lib.hid (by have := refDay_any v1 v2 v3 w4; rw [ho] at this; exact this)
          obtain ⟨-, n0, n1⟩ := Dy.ofN_some ho
          have H0 := Lib.hid n0
          have H1 := Lib.hid n1
          clear ho n0 n1
          refine HO.out.mono ?_
          rintro e w5 ⟨rfl, rfl⟩
          go_wp2_with fail
          first
            | (go_ret2; exact ⟨rfl, hb14⟩)
            | (refine (refDate_ok n _ hwr4.dw H0.out H1.out).mono ?_
               rintro e w6 ⟨l, hl, rfl, hb6⟩
               have hq' : (l == s.toList) = false := by
                 rw [Go.ByteArray.toList_eq]
                 apply Classical.byContradiction
                 intro hc
                 simp at hc
                 exact HT.out n H0.out H1.out (hc ▸ hl)
               go_wp2_with fail
               go_ret2
               exact ⟨rfl, hb14.step hb6⟩)
  · generalize Lib.splitB ⟨#[45]⟩ 0 (Lib.countB s ⟨#[45]⟩) s = L at HS
    generalize Lib.countB s ⟨#[45]⟩ = k at hc HS
    have hc' : (((k + 1 : Nat) : Int) == 3) = false := by simp; omega
    go_enter Tryd.func25, Tryd.ntmps25
    go_wp2_with fail
    refine HS.out.mono ?_
    rintro e w1 ⟨rfl, hw1⟩
    have hb1 : Below w.heap.size w w1 := by rw [hw1]; exact (Below.refl _ _).alloc (Nat.le_refl _) _
    clear hw1
    go_wp2_with fail
    go_ret2
    exact ⟨rfl, hb1⟩
end Go.Proofs.YtmkfdmbjeppndaaDoor
