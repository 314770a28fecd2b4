/- tallymanref.Name: what it hands back. -/
import Derived.Test.YtpbbbiifeihkaaaGreatDoorEvL
import Derived.Test.YtpbbbiifeihkaaaGreatDoorRefIn
namespace Go.Proofs.YtpbbbiifeihkaaaGreatDoor
open Go.RowKit
set_option linter.unusedVariables false

namespace Ev
theorem letters_iff (c : UInt8) : letters.contains c = decide (97 ≤ c.toNat ∧ c.toNat ≤ 122) := by
  have h : ∀ n : Fin 256, letters.contains (UInt8.ofNat n.1) = decide (97 ≤ n.1 ∧ n.1 ≤ 122) := by decide +kernel
  have := h ⟨c.toNat, c.toNat_lt⟩
  simpa using this
theorem alnum_iff (c : UInt8) : alnum.contains c = decide ((97 ≤ c.toNat ∧ c.toNat ≤ 122) ∨ (48 ≤ c.toNat ∧ c.toNat ≤ 57)) := by
  have h : ∀ n : Fin 256, alnum.contains (UInt8.ofNat n.1) = decide ((97 ≤ n.1 ∧ n.1 ≤ 122) ∨ (48 ≤ n.1 ∧ n.1 ≤ 57)) := by decide +kernel
  have := h ⟨c.toNat, c.toNat_lt⟩
  simpa using this
/-- The byte may stand there. -/
def OkAt (i : Nat) (c : UInt8) : Prop := (97 ≤ c.toNat ∧ c.toNat ≤ 122) ∨ (i ≠ 0 ∧ 48 ≤ c.toNat ∧ c.toNat ≤ 57)
theorem name_ok {s : ByteArray} (h0 : 1 ≤ s.size) (h1 : s.size ≤ 10) (h : ∀ i (hi : i < s.size), OkAt i s[i]) : NameP s.data.toList := by
  have hl : s.data.toList.length = s.size := by simp
  refine ⟨fun e => by rw [e] at hl; simp at hl; omega, by omega, ?_, ?_⟩
  · have := h 0 (by omega)
    have hd : s.data.toList.headD 0 = s[0] := by
      have e : s.data.toList[0]? = some s[0] := by
        rw [List.getElem?_eq_getElem (by omega)]
        rfl
      cases hs : s.data.toList with
      | nil => rw [hs] at e; cases e
      | cons a l => rw [hs] at e; injection e
    rw [hd, letters_iff]
    simp only [OkAt] at this
    exact decide_eq_true (by omega)
  · intro b hb
    obtain ⟨i, hi, rfl⟩ := List.getElem_of_mem hb
    have := h i (by omega)
    rw [alnum_iff]
    simp only [OkAt] at this
    have e : s.data.toList[i] = s[i] := rfl
    rw [e]
    exact decide_eq_true (by omega)
theorem name_bad {s : ByteArray} (i : Nat) (hi : i < s.size) (h : ¬ OkAt i s[i]) : ¬ NameP s.data.toList := fun hn => by
  apply h
  have hl : s.data.toList.length = s.size := by simp
  have hm : s.data.toList[i] ∈ s.data.toList := List.getElem_mem (by omega)
  have ha := hn.2.2.2 _ hm
  have e : s.data.toList[i] = s[i] := rfl
  rw [e, alnum_iff] at ha
  have ha := of_decide_eq_true ha
  unfold OkAt
  by_cases h0 : i = 0
  · subst h0
    have hd : s.data.toList.headD 0 = s[0] := by
      have e : s.data.toList[0]? = some s[0] := by
        rw [List.getElem?_eq_getElem (by omega)]
        rfl
      cases hs : s.data.toList with
      | nil => rw [hs] at e; cases e
      | cons a l => rw [hs] at e; injection e
    have hh := hn.2.2.1
    rw [hd, letters_iff] at hh
    exact Or.inl (of_decide_eq_true hh)
  · rcases ha with h1 | h1
    · exact Or.inl h1
    · exact Or.inr ⟨h0, h1⟩
end Ev

set_option maxHeartbeats 1000000 in
set_option maxRecDepth 100000 in
theorem refName_any (s : ByteArray) (w : World) (hs : s.size ≤ 1000000) :
    Calls Tryz.prog 68 #[.string s] w (Gives (.bool (Ev.nameB s.data.toList)) w) := by
  have hl : s.data.toList.length = s.size := by simp
  have HN : Hid (∀ i (hi : i < s.size), ¬ Ev.OkAt i s[i] → Ev.nameB s.data.toList = false) := Lib.hid (fun i hi h => decide_eq_false (Ev.name_bad i hi h))
  have HY : Hid (1 ≤ s.size → s.size ≤ 10 → (∀ i (hi : i < s.size), Ev.OkAt i s[i]) → Ev.nameB s.data.toList = true) := Lib.hid (fun a b h => decide_eq_true (Ev.name_ok a b h))
  have HZ : Hid (s.size = 0 ∨ 10 < s.size → Ev.nameB s.data.toList = false) := Lib.hid (fun h => decide_eq_false (fun hn => by
    have h2 := hn.2.1
    have h1 := hn.1
    rcases h with h | h
    · exact h1 (List.eq_nil_of_length_eq_zero (by omega))
    · omega))
  clear hl
  generalize Ev.nameB s.data.toList = B at *
  go_enter Tryz.func68, Tryz.ntmps68
  go_wp2
  go_loop [3, 4, 7] (fun _ _ i => ∃ k : Nat, k ≤ s.size ∧ i = .int .i64 k ∧ ∀ j (hj : j < s.size), j < k → Ev.OkAt j s[j]) (fun _ _ i => s.size - (intOf i).toNat)
  case atStart => exact ⟨0, by omega, rfl, fun j hj h => absurd h (by omega)⟩
  case round =>
    obtain ⟨k, hk, rfl, hok⟩ := hrel
    have HK := Lib.hid hok
    clear hok
    by_cases hlt : k < s.size
    · have hnext : Ev.OkAt k s[k] → ∀ j (hj : j < s.size), j < k + 1 → Ev.OkAt j s[j] := fun h j hj hjk => by
        by_cases e : j = k
        · subst e; exact h
        · exact HK.out j hj (by omega)
      have HX := Lib.hid hnext
      have HB : Hid (¬ Ev.OkAt k s[k] → B = false) := Lib.hid (HN.out k hlt)
      clear hnext
      by_cases c1 : 97 ≤ ((s[k].toNat : Nat) : Int) ∧ ((s[k].toNat : Nat) : Int) ≤ 122
      · obtain ⟨c1a, c1b⟩ := c1
        go_wp2
        go_round
        case rel => exact ⟨k + 1, by omega, by go_num, HX.out (Or.inl (by omega))⟩
        case measure => simp [intOf]; omega
      · by_cases c0 : k = 0
        · subst c0
          have hb := HB.out (fun h => by simp only [Ev.OkAt] at h; omega)
          subst hb
          by_cases c2 : 97 ≤ ((s[0].toNat : Nat) : Int)
          · have c6 : ¬ ((s[0].toNat : Nat) : Int) ≤ 122 := by omega
            clear c1
            go_wp2
            go_ret
            exact ⟨rfl, Below.refl _ _⟩
          · clear c1
            go_wp2
            go_ret
            exact ⟨rfl, Below.refl _ _⟩
        · have e0 : ((k : Int) == 0) = false := by rw [beq_eq_false_iff_ne]; omega
          by_cases c3 : 48 ≤ ((s[k].toNat : Nat) : Int) ∧ ((s[k].toNat : Nat) : Int) ≤ 57
          · obtain ⟨c3a, c3b⟩ := c3
            have c4 : ¬ 97 ≤ ((s[k].toNat : Nat) : Int) := by omega
            clear c1
            go_wp2
            go_round
            case rel => exact ⟨k + 1, by omega, by go_num, HX.out (Or.inr ⟨c0, by omega, by omega⟩)⟩
            case measure => simp [intOf]; omega
          · have hb := HB.out (fun h => by simp only [Ev.OkAt] at h; omega)
            subst hb
            by_cases c2 : 97 ≤ ((s[k].toNat : Nat) : Int)
            · have c6 : ¬ ((s[k].toNat : Nat) : Int) ≤ 122 := by omega
              by_cases c5 : 48 ≤ ((s[k].toNat : Nat) : Int)
              · have c7 : ¬ ((s[k].toNat : Nat) : Int) ≤ 57 := by omega
                clear c1 c3
                go_wp2
                go_ret
                exact ⟨rfl, Below.refl _ _⟩
              · clear c1 c3
                go_wp2
                go_ret
                exact ⟨rfl, Below.refl _ _⟩
            · by_cases c5 : 48 ≤ ((s[k].toNat : Nat) : Int)
              · have c7 : ¬ ((s[k].toNat : Nat) : Int) ≤ 57 := by omega
                clear c1 c3
                go_wp2
                go_ret
                exact ⟨rfl, Below.refl _ _⟩
              · clear c1 c3
                go_wp2
                go_ret
                exact ⟨rfl, Below.refl _ _⟩
    · have HA : Hid (∀ j (hj : j < s.size), Ev.OkAt j s[j]) := Lib.hid (fun j hj => HK.out j hj (by omega))
      by_cases h0 : s.size = 0
      · have hb := HZ.out (Or.inl h0)
        subst hb
        go_wp2_with (go_at_call 53; refine (in_no _ _ _ _ (by omega)).mono ?_; rintro e w' ⟨rfl, rfl⟩)
        go_ret
        exact ⟨rfl, Below.refl _ _⟩
      · by_cases h10 : 10 < s.size
        · have hb := HZ.out (Or.inr h10)
          subst hb
          go_wp2_with (go_at_call 53; refine (in_no _ _ _ _ (by omega)).mono ?_; rintro e w' ⟨rfl, rfl⟩)
          go_ret
          exact ⟨rfl, Below.refl _ _⟩
        · have hb := HY.out (by omega) (by omega) HA.out
          subst hb
          go_wp2_with (go_at_call 53; refine (in_yes _ _ _ _ (by omega) (by omega)).mono ?_; rintro e w' ⟨rfl, rfl⟩)
          go_ret
          exact ⟨rfl, Below.refl _ _⟩
/-- All that lay ahead of a call reads behind it as it read. -/
theorem bcell {W w1 : World} (hb : Below W.heap.size W w1) : (∀ b o, b < W.heap.size → w1.cell? ⟨b, o, none⟩ = W.cell? ⟨b, o, none⟩) ∧ (∀ b o, b < W.heap.size → w1.frozen? ⟨b, o, none⟩ = W.frozen? ⟨b, o, none⟩) :=
  ⟨fun b o h => hb.cell (p := ⟨b, o, none⟩) h, fun b o h => hb.frozen (p := ⟨b, o, none⟩) h⟩
end Go.Proofs.YtpbbbiifeihkaaaGreatDoor
