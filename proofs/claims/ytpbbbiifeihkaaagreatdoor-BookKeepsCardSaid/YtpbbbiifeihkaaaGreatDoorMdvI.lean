/- tallymanref.mulDiv: what it hands back. -/
import Derived.Test.YtpbbbiifeihkaaaGreatDoorNumI
import Derived.Test.YtpbbbiifeihkaaaGreatDoorMdvM
import Derived.Laws.RangeString
import Derived.Laws.RangeAny
import Derived.Deep.LoopGhost
namespace Go.Proofs.YtpbbbiifeihkaaaGreatDoor
open Go.RowKit

set_option maxHeartbeats 1000000 in
set_option maxRecDepth 100000 in
theorem mulDiv_any (a c : Int) (b : Nat) (w : World) (hw : NW w) (ha : 0 ≤ a) (ha2 : a ≤ 20000000000000) (hc : 1 ≤ c) (hc2 : c ≤ 100000000) (hb : (b : Int) ≤ c) :
    Calls Tryz.prog 99 #[.int .i64 a, .int .i64 b, .int .i64 c] w (Gives (.int .i64 (a * b / c)) w) := by
  obtain ⟨L, hL⟩ : ∃ L, L = Lib.decDigits b := ⟨_, rfl⟩
  obtain ⟨s, hs⟩ : ∃ s : ByteArray, s = ⟨L.toArray⟩ := ⟨_, rfl⟩
  have hdig : ∀ c ∈ L, 48 ≤ c.toNat ∧ c.toNat ≤ 57 := by rw [hL]; exact Md.dec_dig b
  have hval : Md.val L = b := by rw [hL]; exact Md.val_dec b
  have htk : ∀ k, Md.val (L.take k) ≤ b := by rw [hL]; exact Md.val_take b
  have hsz : s.size = L.length := by rw [hs]; rfl
  have hsL : s.data.toList = L := by rw [hs]
  have HI : Hid (Calls Tryz.prog 136 #[.int .i64 b] w (Gives (.string s) w)) := Lib.hid (by
    have := NW.itoa b w hw (by omega) (by omega)
    rw [NW.itoa_pos, ← hL, ← hs] at this
    exact this)
  have HS := Lib.hid hsz
  have HL := Lib.hid hsL
  have HV := Lib.hid hval
  have HD := Lib.hid hdig
  have HT := Lib.hid htk
  clear hL hs hdig hval htk hsz hsL
  go_enter Tryz.func99, Tryz.ntmps99
  go_wp2_with fail
  refine HI.out.mono ?_
  rintro e w1 ⟨rfl, hb1⟩
  go_wp2_with fail
  go_loopw [7, 8] (fun q r wr => ∃ k : Nat, k ≤ s.size ∧ wr = w1.iter s k ∧ q = .int .i64 (a * (Md.val (L.take k) : Nat) / c) ∧ r = .int .i64 (a * (Md.val (L.take k) : Nat) % c)) (fun _ _ wr => s.size - wr.iterPos w1.heap.size)
  case atStart => exact ⟨0, by omega, rfl, by simp [Md.val], by simp [Md.val]⟩
  case round =>
    obtain ⟨k, hk, rfl, hq, hr⟩ := hrel
    have hp := HT.out k
    have hbd := Md.bd a (Md.val (L.take k) : Nat) c ha hc (by omega) (by omega)
    by_cases hlt : k < s.size
    · have hkl : k < L.length := by rw [← HS.out]; exact hlt
      have hel : s[k] = L[k] := by
        have h1 : s.data.toList[k]? = some s[k] := by rw [List.getElem?_eq_getElem (by simpa using hlt)]; rfl
        rw [HL.out, List.getElem?_eq_getElem hkl] at h1
        exact (Option.some.inj h1).symm
      have hd := HD.out L[k] (List.getElem_mem hkl)
      have hst := Md.val_snoc (L.take k) L[k]
      rw [← List.take_succ_eq_append_getElem hkl] at hst
      have hnx : ∀ ty, (Instr.next (.pointer (some ⟨w1.heap.size, 0, none⟩)) true ty).run Tryz.prog (w1.iter s k) = _ := fun ty => run_next_ascii w1 s k ty hlt (by rw [hel]; omega)
      have hp1 := HT.out (k + 1)
      rw [hel] at hnx
      obtain ⟨d, hd0⟩ : ∃ d, d = (L[k]).toNat := ⟨_, rfl⟩
      rw [← hd0] at hnx hd hst
      obtain ⟨p, hp0⟩ : ∃ p, p = Md.val (L.take k) := ⟨_, rfl⟩
      rw [← hp0] at hp hbd hst hq hr
      obtain ⟨p1, hp10⟩ : ∃ p1, p1 = Md.val (L.take (k + 1)) := ⟨_, rfl⟩
      rw [← hp10] at hp1 hst
      have hdb := Md.dig_bd a ((d : Int) - 48) ha (by omega) (by omega)
      obtain ⟨Q, hQ⟩ : ∃ Q, Q = a * (p : Int) / c := ⟨_, rfl⟩
      obtain ⟨R, hR⟩ : ∃ R, R = a * (p : Int) % c := ⟨_, rfl⟩
      have hstep := Md.step a p ((d : Int) - 48) c Q R hc hQ hR
      have hbd1 := Md.bd a p1 c ha hc (by omega) (by omega)
      have e1 : 10 * (p : Int) + ((d : Int) - 48) = p1 := by omega
      rw [e1] at hstep
      rw [← hQ] at hq hbd
      rw [← hR] at hr hbd
      subst hq
      subst hr
      obtain ⟨K, hK⟩ : ∃ K, K = a * ((d : Int) - 48) := ⟨_, rfl⟩
      rw [← hK] at hdb hstep
      have hK1 : 0 ≤ K / c ∧ K / c ≤ K := ⟨Int.ediv_nonneg hdb.1 (by omega), Int.ediv_le_self _ hdb.1⟩
      have hK2 : 0 ≤ K % c ∧ K % c < c := ⟨Int.emod_nonneg _ (by omega), Int.emod_lt_of_pos _ (by omega)⟩
      obtain ⟨Q1, hQ1⟩ : ∃ Q1, Q1 = a * (p1 : Int) / c := ⟨_, rfl⟩
      obtain ⟨R1, hR1⟩ : ∃ R1, R1 = a * (p1 : Int) % c := ⟨_, rfl⟩
      rw [← hQ1, ← hR1] at hstep
      rw [← hQ1, ← hR1] at hbd1
      have hZ1 : 0 ≤ (R * 10 + K % c) / c := Int.ediv_nonneg (by omega) (by omega)
      obtain ⟨b1, b2, b3, b4⟩ := hbd
      obtain ⟨k1, k2⟩ := hdb
      obtain ⟨k3, k4⟩ := hK1
      obtain ⟨k5, k6⟩ := hK2
      obtain ⟨q1, q2, r1, r2⟩ := hbd1
      have HSTEP := Lib.hid hstep
      have hz2 : Q * 10 + K / c + (R * 10 + K % c) / c ≤ a := by rw [hstep.1]; exact q2
      have HKK := Lib.hid hK
      have HP1 := Lib.hid hp10
      have HQ1 := Lib.hid hQ1
      have HR1 := Lib.hid hR1
      obtain ⟨d1, d2⟩ := hd
      clear hst hp0 hp10 hd0 hQ hR hK hQ1 hR1 hstep e1 hel hp hp1
      have hKs : a * ((d : Int) - 48) = K := HKK.out.symm
      go_wp2
      go_roundw
      case rel =>
        refine ⟨k + 1, by omega, rfl, ?_, ?_⟩
        · rw [← HP1.out, ← HQ1.out, ← HSTEP.out.1]
        · rw [← HP1.out, ← HR1.out, ← HSTEP.out.2]
      case measure => simp; omega
    · have hke : k = L.length := by rw [← HS.out]; omega
      have hfin : Md.val (L.take k) = b := by rw [hke, List.take_length]; exact HV.out
      have hnx : ∀ ty, (Instr.next (.pointer (some ⟨w1.heap.size, 0, none⟩)) true ty).run Tryz.prog (w1.iter s k) = _ := fun ty => run_next_end w1 s k ty hlt
      rw [hfin] at hq hr
      subst hq
      subst hr
      clear hfin hke hbd hp
      go_wp2
      go_ret
      exact ⟨rfl, hb1.new _⟩
end Go.Proofs.YtpbbbiifeihkaaaGreatDoor
