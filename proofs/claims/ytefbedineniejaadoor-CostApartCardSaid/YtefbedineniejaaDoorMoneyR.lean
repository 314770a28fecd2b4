/- money.Parse: what it hands back. -/
import Derived.Test.YtefbedineniejaaDoorMoneyP
namespace Go.Proofs.YtefbedineniejaaDoor
open Go.RowKit

namespace Mn
def isDg (c : UInt8) : Bool := decide (48 ≤ c.toNat ∧ c.toNat ≤ 57)
/-- one byte more of an amount's text: what its digits say, how many there were (at most 16 count). -/
def pstep (st : Int × Nat) (c : UInt8) : Int × Nat := if isDg c && decide (st.2 < 16) then (st.1 * 10 + ((c.toNat : Int) - 48), st.2 + 1) else st
def pst (l : List UInt8) : Int × Nat := l.foldl pstep (0, 0)
def pv (l : List UInt8) : Int := if l.head? = some 45 then -(pst l).1 else (pst l).1
/-- What money.Parse reads. -/
def parse (l : List UInt8) : Option Int := if -1000000000000 ≤ pv l ∧ pv l ≤ 1000000000000 ∧ prt (pv l) = l then some (pv l) else none

theorem pst_snoc (l : List UInt8) (c : UInt8) : pst (l ++ [c]) = pstep (pst l) c := by simp [pst]
theorem pst_bd (l : List UInt8) : 0 ≤ (pst l).1 ∧ (pst l).1 < 10 ^ (pst l).2 ∧ (pst l).2 ≤ 16 ∧ (pst l).2 ≤ l.length := by
  suffices h : ∀ (l : List UInt8) (st : Int × Nat) (n : Nat), 0 ≤ st.1 → st.1 < 10 ^ st.2 → st.2 ≤ 16 → st.2 ≤ n → 0 ≤ (l.foldl pstep st).1 ∧ (l.foldl pstep st).1 < 10 ^ (l.foldl pstep st).2 ∧ (l.foldl pstep st).2 ≤ 16 ∧ (l.foldl pstep st).2 ≤ n + l.length by
    have := h l (0, 0) 0 (by simp) (by simp) (by simp) (by simp)
    simpa [pst] using this
  intro l
  induction l with
  | nil => intro st n h0 h1 h2 h3; exact ⟨h0, h1, h2, by simpa using h3⟩
  | cons c l ih =>
    intro st n h0 h1 h2 h3
    rw [List.foldl_cons]
    by_cases hc : isDg c && decide (st.2 < 16)
    · have e : pstep st c = (st.1 * 10 + ((c.toNat : Int) - 48), st.2 + 1) := by simp only [pstep, if_pos hc]
      rw [e]
      simp only [Bool.and_eq_true, isDg, decide_eq_true_eq] at hc
      have := ih (st.1 * 10 + ((c.toNat : Int) - 48), st.2 + 1) (n + 1) (by simp; omega) (by simp only [Int.pow_succ]; omega) (by simp; omega) (by simp; omega)
      simp only [List.length_cons]
      refine ⟨this.1, this.2.1, this.2.2.1, by omega⟩
    · have e : pstep st c = st := by simp only [pstep, if_neg hc]
      rw [e]
      have := ih st (n + 1) h0 h1 h2 (by omega)
      simp only [List.length_cons]
      refine ⟨this.1, this.2.1, this.2.2.1, by omega⟩
theorem pst_lt (l : List UInt8) : 0 ≤ (pst l).1 ∧ (pst l).1 < 10000000000000000 ∧ (pst l).2 ≤ 16 ∧ (pst l).2 ≤ l.length := by
  have h := pst_bd l
  refine ⟨h.1, ?_, h.2.2.1, h.2.2.2⟩
  have h1 : (10 ^ (pst l).2 : Nat) ≤ 10 ^ 16 := Nat.pow_le_pow_right (by omega) h.2.2.1
  have h2 : ((10 ^ (pst l).2 : Nat) : Int) = (10 : Int) ^ (pst l).2 := by simp
  omega
end Mn

theorem take_snoc (s : ByteArray) (k : Nat) (h : k < s.size) : s.data.toList.take (k + 1) = s.data.toList.take k ++ [s[k]] := by
  rw [List.take_succ_eq_append_getElem (by simpa using h)]; rfl

theorem head_eq (s : ByteArray) (h : 0 < s.size) (c : UInt8) (hc : s[0].toNat = c.toNat) : s.data.toList.head? = some c := by
  have e : s[0] = c := UInt8.toNat_inj.1 hc
  rw [List.head?_eq_getElem?, ← e, List.getElem?_eq_getElem (by simpa using h)]
  rfl

theorem head_of (s : ByteArray) (h : 0 < s.size) (c : UInt8) (hc : s.data.toList.head? = some c) : s[0] = c := by
  rw [List.head?_eq_getElem?, List.getElem?_eq_getElem (by simpa using h)] at hc
  exact Option.some.inj hc

def ParsePost (s : ByteArray) (w : World) (e : Ending) (w' : World) : Prop :=
  (match Mn.parse s.data.toList with
   | some v => e = .returned (.tuple #[.int .i64 v, .nilIface])
   | none => e = .returned (.tuple #[.int .i64 0, .iface 79 (.int .i64 3)])) ∧ Below w.heap.size w w'

theorem parse_some {s : ByteArray} {w w' : World} {v : Int} (hv : Mn.pv s.data.toList = v) (h1 : -1000000000000 ≤ v) (h2 : v ≤ 1000000000000) (h3 : Mn.prt v = s.data.toList) (hb : Below w.heap.size w w') :
    ParsePost s w (.returned (.tuple #[.int .i64 v, .nilIface])) w' := by
  unfold ParsePost Mn.parse
  rw [hv, if_pos ⟨h1, h2, h3⟩]
  exact ⟨rfl, hb⟩
theorem parse_none {s : ByteArray} {w w' : World} {v : Int} (hv : Mn.pv s.data.toList = v) (h : ¬ (-1000000000000 ≤ v ∧ v ≤ 1000000000000 ∧ Mn.prt v = s.data.toList)) (hb : Below w.heap.size w w') :
    ParsePost s w (.returned (.tuple #[.int .i64 0, .iface 79 (.int .i64 3)])) w' := by
  unfold ParsePost Mn.parse
  rw [hv, if_neg h]
  exact ⟨rfl, hb⟩

set_option maxHeartbeats 400000 in
set_option maxRecDepth 100000 in
theorem parse_any (s : ByteArray) (w : World) (hs : s.size ≤ maxLen) : Calls Tryd.prog 40 #[.string s] w (ParsePost s w) := by
  unfold maxLen at hs
  go_enter Tryd.func40, Tryd.ntmps40
  go_wp2
  go_loop [4, 5, 9] (fun n d i => ∃ k : Nat, k ≤ s.size ∧ i = .int .i64 k ∧ n = .int .i64 (Mn.pst (s.data.toList.take k)).1 ∧ d = .int .i64 (Mn.pst (s.data.toList.take k)).2) (fun _ _ i => s.size - (intOf i).toNat)
  case atStart => exact ⟨0, by omega, rfl, rfl, rfl⟩
  case round =>
    obtain ⟨k, hk, rfl, hn, hd⟩ := hrel
    have hb := Mn.pst_lt (s.data.toList.take k)
    obtain ⟨n, hn0⟩ : ∃ n, n = (Mn.pst (s.data.toList.take k)).1 := ⟨_, rfl⟩
    obtain ⟨d, hd0⟩ : ∃ d, d = (Mn.pst (s.data.toList.take k)).2 := ⟨_, rfl⟩
    rw [← hn0] at hb hn
    rw [← hd0] at hb hd
    subst hn
    subst hd
    by_cases hlt : k < s.size
    · have hst : Mn.pst (s.data.toList.take (k + 1)) = Mn.pstep (n, d) s[k] := by rw [take_snoc s k hlt, Mn.pst_snoc, hn0, hd0]
      have HST := Lib.hid hst
      have Hn0 := Lib.hid hn0
      have Hd0 := Lib.hid hd0
      clear hst hn0 hd0
      by_cases c1 : 48 ≤ ((s[k].toNat : Nat) : Int) ∧ ((s[k].toNat : Nat) : Int) ≤ 57
      · obtain ⟨c1a, c1b⟩ := c1
        by_cases c2 : (d : Int) < 16
        · go_wp2
          go_round
          case rel =>
            have e : Mn.pstep (n, d) s[k] = (n * 10 + ((s[k].toNat : Int) - 48), d + 1) := by
              rw [Mn.pstep, if_pos]
              simp only [Mn.isDg, Bool.and_eq_true, decide_eq_true_eq]; omega
            exact ⟨k + 1, by omega, by go_num, by rw [HST.out, e], by rw [HST.out, e]; go_num⟩
          case measure => simp [intOf]; omega
        · go_wp2
          go_round
          case rel =>
            have e : Mn.pstep (n, d) s[k] = (n, d) := by
              rw [Mn.pstep, if_neg]
              simp only [Mn.isDg, Bool.and_eq_true, decide_eq_true_eq]; omega
            exact ⟨k + 1, by omega, by go_num, by rw [HST.out, e], by rw [HST.out, e]⟩
          case measure => simp [intOf]; omega
      · by_cases c3 : 48 ≤ ((s[k].toNat : Nat) : Int)
        all_goals
          go_wp2
          go_round
          case rel =>
            have e : Mn.pstep (n, d) s[k] = (n, d) := by
              rw [Mn.pstep, if_neg]
              simp only [Mn.isDg, Bool.and_eq_true, decide_eq_true_eq]; omega
            exact ⟨k + 1, by omega, by go_num, by rw [HST.out, e], by rw [HST.out, e]⟩
          case measure => simp [intOf]; omega
    · obtain rfl : k = s.size := by omega
      rw [List.take_of_length_le (by simp)] at hn0 hd0
      by_cases c0 : 0 < s.size
      · by_cases c1 : ((s[0].toNat : Nat) : Int) = 45
        · have hv : Mn.pv s.data.toList = -n := by
            unfold Mn.pv
            rw [hn0, if_pos (head_eq s c0 45 (by simpa using Int.ofNat.inj c1))]
          have HV := Lib.hid hv
          clear hv hn0 hd0
          by_cases c2 : n ≤ 1000000000000
          · by_cases hq : Mn.prt (-n) = s.data.toList
            · have HQ := Lib.hid hq
              have hq' : (Mn.prt (-n) == s.toList) = true := by rw [Go.ByteArray.toList_eq, hq]; simp
              clear hq
              go_wp2_with fail
              refine (print_any _ _ (by omega) (by omega)).mono ?_
              rintro e w1 ⟨rfl, hb1⟩
              go_wp2
              go_ret2
              exact parse_some HV.out (by omega) (by omega) HQ.out hb1
            · have HQ := Lib.hid hq
              have hq' : (Mn.prt (-n) == s.toList) = false := by rw [Go.ByteArray.toList_eq]; simpa using hq
              clear hq
              go_wp2_with fail
              refine (print_any _ _ (by omega) (by omega)).mono ?_
              rintro e w1 ⟨rfl, hb1⟩
              go_wp2
              go_ret2
              exact parse_none HV.out (fun h => HQ.out h.2.2) hb1
          · go_wp2_with fail
            go_ret2
            exact parse_none HV.out (fun h => by omega) (Below.refl _ _)
        · have hv : Mn.pv s.data.toList = n := by
            unfold Mn.pv
            rw [hn0, if_neg (fun h => c1 (by rw [head_of s c0 45 h]; rfl))]
          have c1' : (((s[0].toNat : Nat) : Int) == 45) = false := by simpa using c1
          have HV := Lib.hid hv
          clear hv hn0 hd0
          by_cases c2 : n ≤ 1000000000000
          · by_cases hq : Mn.prt (n) = s.data.toList
            · have HQ := Lib.hid hq
              have hq' : (Mn.prt (n) == s.toList) = true := by rw [Go.ByteArray.toList_eq, hq]; simp
              clear hq
              go_wp2_with fail
              refine (print_any _ _ (by omega) (by omega)).mono ?_
              rintro e w1 ⟨rfl, hb1⟩
              go_wp2
              go_ret2
              exact parse_some HV.out (by omega) (by omega) HQ.out hb1
            · have HQ := Lib.hid hq
              have hq' : (Mn.prt (n) == s.toList) = false := by rw [Go.ByteArray.toList_eq]; simpa using hq
              clear hq
              go_wp2_with fail
              refine (print_any _ _ (by omega) (by omega)).mono ?_
              rintro e w1 ⟨rfl, hb1⟩
              go_wp2
              go_ret2
              exact parse_none HV.out (fun h => HQ.out h.2.2) hb1
          · go_wp2_with fail
            go_ret2
            exact parse_none HV.out (fun h => by omega) (Below.refl _ _)
      · have hv : Mn.pv s.data.toList = n := by
          unfold Mn.pv
          have h0 : s.data.toList = [] := by simpa [← ByteArray.size_data] using c0
          rw [hn0, h0]; rfl
        have HV := Lib.hid hv
        clear hv hn0 hd0
        by_cases c2 : n ≤ 1000000000000
        · by_cases hq : Mn.prt (n) = s.data.toList
          · have HQ := Lib.hid hq
            have hq' : (Mn.prt (n) == s.toList) = true := by rw [Go.ByteArray.toList_eq, hq]; simp
            clear hq
            go_wp2_with fail
            refine (print_any _ _ (by omega) (by omega)).mono ?_
            rintro e w1 ⟨rfl, hb1⟩
            go_wp2
            go_ret2
            exact parse_some HV.out (by omega) (by omega) HQ.out hb1
          · have HQ := Lib.hid hq
            have hq' : (Mn.prt (n) == s.toList) = false := by rw [Go.ByteArray.toList_eq]; simpa using hq
            clear hq
            go_wp2_with fail
            refine (print_any _ _ (by omega) (by omega)).mono ?_
            rintro e w1 ⟨rfl, hb1⟩
            go_wp2
            go_ret2
            exact parse_none HV.out (fun h => HQ.out h.2.2) hb1
        · go_wp2_with fail
          go_ret2
          exact parse_none HV.out (fun h => by omega) (Below.refl _ _)
end Go.Proofs.YtefbedineniejaaDoor
