/- money.Spread: what it hands back. -/
import Derived.Test.YtmkfdmbjeppndaaDoorRows
import Derived.Test.YtmkfdmbjeppndaaDoorMoneyA
import Derived.Test.YtmkfdmbjeppndaaDoorBase
import Derived.WalkKit
import Derived.WalkSpells
import Derived.WalkLawsBesides
import Derived.Deep.QuietTactic
import Derived.BigQuiet
import Derived.Deep.LoopGhost
import Derived.Handy
import Derived.Lib.Hide
namespace Go.Proofs.YtmkfdmbjeppndaaDoor
open Go.RowKit

/-- the first k weights together. -/
def upto (zs : List Int) (k : Nat) : Int := (zs.take k).sum
theorem upto_succ (zs : List Int) (k : Nat) (h : k < zs.length) : upto zs (k + 1) = upto zs k + zs.getD k 0 := by
  unfold upto
  rw [List.take_succ_eq_append_getElem h, List.sum_append]; simp [List.getD, h]
theorem upto_zero (zs : List Int) : upto zs 0 = 0 := by simp [upto]
theorem upto_all (zs : List Int) : upto zs zs.length = zs.sum := by simp [upto]
def okz (zs : List Int) (k : Nat) : Prop := ∀ j, j < k → 0 ≤ zs.getD j 0 ∧ zs.getD j 0 ≤ 100000
theorem upto_bd (zs : List Int) : ∀ k, k ≤ zs.length → okz zs k → 0 ≤ upto zs k ∧ upto zs k ≤ k * 100000
  | 0, _, _ => by simp [upto_zero]
  | k + 1, h, hz => by
    have h1 := upto_bd zs k (by omega) (fun j hj => hz j (by omega))
    have h2 := hz k (by omega)
    rw [upto_succ zs k (by omega)]
    omega
theorem upto_mono (zs : List Int) (k : Nat) (hk : k ≤ zs.length) : ∀ j, j ≤ k → okz zs k → upto zs j ≤ upto zs k := by
  induction k with
  | zero => intro j hj _; obtain rfl : j = 0 := by omega
            exact Int.le_refl _
  | succ k ih =>
    intro j hj hz
    by_cases h : j = k + 1
    · subst h; exact Int.le_refl _
    · have h1 := ih (by omega) j (by omega) (fun i hi => hz i (by omega))
      have h2 := hz k (by omega)
      rw [upto_succ zs k (by omega)]; omega

/-- the part that goes to the weight at k. -/
def spr (t : Int) (zs : List Int) (k : Nat) : Int := t * upto zs (k + 1) / zs.sum - t * upto zs k / zs.sum
def sprs (t : Int) (zs : List Int) (k : Nat) : List Int := (List.range k).map (spr t zs)
theorem sprs_succ (t : Int) (zs : List Int) (k : Nat) : sprs t zs (k + 1) = sprs t zs k ++ [spr t zs k] := by simp [sprs, List.range_succ]
theorem sprs_len (t : Int) (zs : List Int) (k : Nat) : (sprs t zs k).length = k := by simp [sprs]

def SpreadOk (t : Int) (zs : List Int) : Prop := 0 ≤ t ∧ t ≤ 1000000000000 ∧ okz zs zs.length ∧ 1 ≤ zs.sum ∧ zs.sum ≤ 100000000
def SpreadPost (t : Int) (zs : List Int) (w : World) (e : Ending) (w' : World) : Prop :=
  (SpreadOk t zs ∧ ∃ v, e = .returned (.tuple #[v, .nilIface]) ∧ w'.ownsRow w.heap.size 3 1 v zs.length ((sprs t zs zs.length).map (Value.int .i64)) ∧ Below w.heap.size w w') ∨
  (¬ SpreadOk t zs ∧ e = .returned (.tuple #[.slice none 0 0, .iface 23 (.int .i64 1)]) ∧ w' = w)

theorem info_int : (Tryd.prog.info? 3).map (fun i => (i.zero, i.size, i.bytes)) = some (some (.int .i64 0), 1, 8) := by kernel_rfl

set_option maxHeartbeats 400000 in
set_option maxRecDepth 100000 in
theorem spread_any (t : Int) (a : Option Addr) (cap : Nat) (zs : List Int) (w : World) (hr : Rd w a (zs.map (Value.int .i64))) (hl : zs.length ≤ 1000) :
    Calls Tryd.prog 9 #[.int .i64 t, .slice a zs.length cap] w (SpreadPost t zs w) := by
  obtain ⟨i0, hi, hiz, his, hib⟩ := info_parts info_int
  have HR := Lib.hid hr
  clear hr
  go_enter Tryd.func9, Tryd.ntmps9
  go_wp2
  go_loop [6, 17] (fun all i => ∃ k : Nat, k ≤ zs.length ∧ i = .int .i64 k ∧ all = .int .i64 (upto zs k) ∧ okz zs k) (fun _ i => zs.length - (intOf i).toNat)
  case atStart => exact ⟨0, by omega, rfl, by rw [upto_zero], fun j hj => absurd hj (by omega)⟩
  case round =>
    obtain ⟨k, hk, rfl, rfl, hz⟩ := hrel
    have hu := upto_bd zs k hk hz
    have HZ := Lib.hid hz
    clear hz
    by_cases hlt : k < zs.length
    · obtain ⟨b, off, rfl, hc⟩ := HR.out.ints k hlt
      obtain ⟨z, hz⟩ : ∃ z, z = zs.getD k 0 := ⟨_, rfl⟩
      rw [← hz] at hc
      have Hz := Lib.hid hz
      clear hz
      by_cases hbad : z < 0 ∨ 100000 < z
      · have hno : ¬ SpreadOk t zs := fun h => by have := h.2.2.1 k hlt; rw [← Hz.out] at this; omega
        have HNO := Lib.hid hno
        clear hno
        by_cases hb1 : z < 0
        all_goals
          go_wp2
          go_ret2
          exact Or.inr ⟨HNO.out, rfl, rfl⟩
      · obtain ⟨hz1, hz2⟩ : 0 ≤ z ∧ z ≤ 100000 := by omega
        go_wp2
        go_round
        case rel => 
          refine ⟨k + 1, by omega, by go_num, by rw [upto_succ zs k hlt, ← Hz.out], ?_⟩
          intro j hj
          by_cases h : j = k
          · subst h; rw [← Hz.out]; exact ⟨hz1, hz2⟩
          · exact HZ.out j (by omega)
        case measure => simp [intOf]; omega
    · obtain rfl : k = zs.length := by omega
      obtain ⟨S, hS⟩ : ∃ S, S = zs.sum := ⟨_, rfl⟩
      rw [upto_all, ← hS] at hu ⊢
      have HS := Lib.hid hS
      clear hS hlt hk
      by_cases hOk : 0 ≤ t ∧ t ≤ 1000000000000 ∧ 1 ≤ S ∧ S ≤ 100000000
      · obtain ⟨ht1, ht2, hs1, hs2⟩ := hOk
        have hok : SpreadOk t zs := ⟨ht1, ht2, HZ.out, by rw [← HS.out]; exact hs1, by rw [← HS.out]; exact hs2⟩
        have HOK := Lib.hid hok
        clear hok
        have hs0 : (S == 0) = false := by simp; omega
        go_wp2
        go_loopw [9, 10, 11, 49] (fun v up done i wr => ∃ k : Nat, k ≤ zs.length ∧ i = .int .i64 k ∧ up = .int .i64 (upto zs k) ∧ done = .int .i64 (t * upto zs k / S) ∧ wr.ownsRow w.heap.size 3 1 v k ((sprs t zs k).map (Value.int .i64)) ∧ Below w.heap.size w wr) (fun _ _ _ i _ => zs.length - (intOf i).toNat)
        case atStart => exact ⟨0, by omega, rfl, by rw [upto_zero], by rw [upto_zero]; simp, World.ownsRow_nil _ _ _ _, Below.refl _ _⟩
        case round =>
          obtain ⟨k, hk, rfl, rfl, rfl, hown, hb⟩ := hrel
          have hu1 := upto_bd zs k hk (fun j hj => HZ.out j (by omega))
          have hu2 := upto_mono zs zs.length (Nat.le_refl _) k hk HZ.out
          rw [upto_all, ← HS.out] at hu2
          obtain ⟨p, hp⟩ : ∃ p, p = upto zs k := ⟨_, rfl⟩
          rw [← hp] at hu1 hu2 ⊢
          have Hp := Lib.hid hp
          clear hp
          have hd := part_le t p S ht1 hs1 hu1.1 hu2
          obtain ⟨d, hd0⟩ : ∃ d, d = t * p / S := ⟨_, rfl⟩
          rw [← hd0] at hd ⊢
          have Hd := Lib.hid hd0
          clear hd0
          by_cases hlt : k < zs.length
          · obtain ⟨b, off, rfl, hc⟩ := HR.out.ints k hlt
            obtain ⟨z, hz⟩ : ∃ z, z = zs.getD k 0 := ⟨_, rfl⟩
            rw [← hz] at hc
            have hz1 : 0 ≤ z ∧ z ≤ 100000 := by rw [hz]; exact HZ.out k hlt
            have hup : p + z = upto zs (k + 1) := by rw [upto_succ zs k hlt, ← Hp.out, hz]
            have hup2 : p + z ≤ S := by rw [hup, HS.out, ← upto_all]; exact upto_mono zs zs.length (Nat.le_refl _) (k + 1) (by omega) HZ.out
            have Hup := Lib.hid hup
            clear hz hup
            have hc' : wr.cell? ⟨b, off + k, none⟩ = some (.int .i64 z) := by
              rw [hb.cell (p := ⟨b, off + k, none⟩) (cell_lt hc), hc]
            clear hc
            have hE := part_wrap t (p + z) S 100000000 ht1 (by omega) hs1 hs2 (by omega) (by omega) hup2
            have hd2 := part_le t (p + z) S ht1 hs1 (by omega) hup2
            obtain ⟨e, he⟩ : ∃ e, e = t * (p + z) / S := ⟨_, rfl⟩
            rw [← he] at hE hd2
            have He := Lib.hid he
            have HE := Lib.hid hE
            clear he hE
            have hbs := hb.size
            go_wp2
            go_quiet (fail)
            have hE := HE.out
            go_wp2_with (first
              | (at_builtin; refine app_one (w := wr.drewN _) rfl (.tmp 69) (.tmp 73) 22 rfl w.heap.size 3 i0 (.int .i64 0) 1 8 Tryd.underlying22 hi hiz his hib rfl (by decide) _ _ _ hown rfl [.int .i64 (e - d)] rfl rfl (one_int _ _) (by unfold maxLen; omega) (by omega) (by simp; omega) ?_; intro v1 w1 hown1 hg1))
            go_roundw
            case rel =>
              refine ⟨k + 1, by omega, by go_num, by rw [← Hup.out], by rw [← Hup.out, ← He.out], ?_, (below_drewN hb _).owngrown hown hg1⟩
              rw [sprs_succ, List.map_append, List.map_cons, List.map_nil]
              have e1 : spr t zs k = e - d := by unfold spr; rw [← Hup.out, ← Hp.out, ← HS.out, ← He.out, ← Hd.out]
              rw [e1]
              exact hown1
            case measure => simp [intOf]; omega
          · obtain rfl : k = zs.length := by omega
            go_wp2
            go_ret2
            exact Or.inl ⟨HOK.out, _, rfl, hown, hb⟩
      · have hno : ¬ SpreadOk t zs := fun h => hOk ⟨h.1, h.2.1, by rw [HS.out]; exact h.2.2.2.1, by rw [HS.out]; exact h.2.2.2.2⟩
        have HNO := Lib.hid hno
        clear hno
        by_cases c1 : t < 0
        · go_wp2
          go_ret2
          exact Or.inr ⟨HNO.out, rfl, rfl⟩
        · by_cases c2 : 1000000000000 < t
          · go_wp2
            go_ret2
            exact Or.inr ⟨HNO.out, rfl, rfl⟩
          · by_cases c3 : S = 0
            · subst c3
              clear hOk
              go_wp2
              go_ret2
              exact Or.inr ⟨HNO.out, rfl, rfl⟩
            · have hs0 : (S == 0) = false := by simp; omega
              have c4 : 100000000 < S := by omega
              clear hOk
              go_wp2
              go_ret2
              exact Or.inr ⟨HNO.out, rfl, rfl⟩
end Go.Proofs.YtmkfdmbjeppndaaDoor
