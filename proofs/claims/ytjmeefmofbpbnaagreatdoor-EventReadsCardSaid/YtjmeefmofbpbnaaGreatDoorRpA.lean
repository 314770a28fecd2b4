/- tallymanref.Amount: what it hands back. -/
import Derived.Test.YtjmeefmofbpbnaaGreatDoorJoined3
import Derived.Test.YtjmeefmofbpbnaaGreatDoorRpM
import Derived.Deep.QuietTactic
import Derived.BigQuiet
import Derived.Lib.Strings
import Derived.Lib.IndexBytes
namespace Go.Proofs.YtjmeefmofbpbnaaGreatDoor
open Go.RowKit

theorem Mn.itoa_neg (n : Int) (h : n < 0) : Lib.itoa n = 45 :: Lib.decDigits n.natAbs := by rw [Lib.itoa, if_pos h]
theorem Mn.itoa_nn (n : Int) (h : ¬ n < 0) : Lib.itoa n = Lib.decDigits n.natAbs := by rw [Lib.itoa, if_neg h, show n.toNat = n.natAbs by omega]
theorem Mn.dec_hd (U : Nat) (s : ByteArray) (hs : s.data.toList = Lib.decDigits U) : ((s.data.toList.getD 0 0).toNat : Int) ≠ 45 := by
  obtain ⟨d, r, hd, e⟩ := Mn.dec_head U
  rw [hs, e]
  simp only [List.getD_cons_zero, UInt8.toNat_ofNat']
  omega
theorem Mn.bytes_ext {a b : ByteArray} (h : a.data.toList = b.data.toList) : a = b := ByteArray.ext (Array.ext' h)
/-- The padded digits, round by round. -/
def Mn.padK (U : Nat) : Nat := if U < 10 then 2 else if U < 100 then 1 else 0
theorem Mn.pad_is (U : Nat) : Mn.pad U = List.replicate (Mn.padK U) 48 ++ Lib.decDigits U := by
  unfold Mn.pad Mn.padK
  split
  · rfl
  · split <;> rfl
theorem Mn.padK_len (U : Nat) : Mn.padK U + (Lib.decDigits U).length = (Mn.pad U).length ∧ (0 < Mn.padK U → (Mn.pad U).length = 3) := by
  constructor
  · rw [Mn.pad_is]; simp
  · intro h
    unfold Mn.padK at h
    by_cases h1 : U < 10
    · rw [Mn.pad, if_pos h1, Lib.decDigits_one h1]; rfl
    · by_cases h2 : U < 100
      · rw [Mn.pad, if_neg h1, if_pos h2, Lib.decDigits_two h1 h2]; rfl
      · rw [if_neg h1, if_neg h2] at h; omega

theorem cat_at (a b c : ByteArray) (h : c = a ++ b) (ha : a.size ≤ 1000000000) (hb : b.size ≤ 1000000000) (w : World) : (Op.stringOp .add a b).run Tryz.prog w = .ok (.string c) w := by
  rw [h]
  exact run_string_add_sum w a b (by omega)
def Mn.strSize (v : Value) : Nat := match v with
  | .string x => x.size
  | _ => 0
theorem Mn.cat0 (t : ByteArray) : ((⟨#[48]⟩ : ByteArray) ++ t).data.toList = 48 :: t.data.toList := by
  rw [ByteArray.data_append]; simp

set_option maxHeartbeats 1000000 in
set_option maxRecDepth 100000 in
/-- Behind the sign: the loop and the end. -/
theorem amount_any (n : Int) (w : World) (hw : NW w) (h0 : -9223372036854775808 ≤ n) (h1 : n ≤ 9223372036854775807) :
    Calls Tryz.prog 23 #[.int .i64 n] w (Gives (.string ⟨(Mn.prt n).toArray⟩) w) := by
  obtain ⟨U, hU⟩ : ∃ U, U = n.natAbs := ⟨_, rfl⟩
  have HI := Lib.hid (NW.itoa n w hw h0 h1)
  have hpad := Mn.padK_len U
  have hpl := Mn.pad_len U
  have hnd : (Lib.decDigits U).length ≤ 19 := by
    rw [Lib.decDigits_length]
    exact Mn.nDigits_le 19 U (by omega) (by omega)
  have hnp : 1 ≤ (Lib.decDigits U).length := by
    rw [Lib.decDigits_length]
    exact Lib.nDigits_pos U
  have HPT := Lib.hid (Mn.pad_take U)
  have HP := Lib.hid (Mn.pad_is U)
  clear h0 h1
  by_cases hn : n < 0
  · have hprt : Mn.prt n = 45 :: Mn.pr U := by rw [Mn.prt, if_pos hn, hU]
    rw [hprt]
    have HI2 : Hid (Calls Tryz.prog 22 #[.int .i64 n] w (Gives (.string ⟨(45 :: Lib.decDigits U).toArray⟩) w)) := by
      have := HI.out
      rw [Mn.itoa_neg n hn, ← hU] at this
      exact Lib.hid this
    clear HI hprt hU
    obtain ⟨s, hs⟩ : ∃ s : ByteArray, s = ⟨(45 :: Lib.decDigits U).toArray⟩ := ⟨_, rfl⟩
    obtain ⟨t, ht⟩ : ∃ t : ByteArray, t = ⟨(Lib.decDigits U).toArray⟩ := ⟨_, rfl⟩
    have hsz : s.size = 1 + (Lib.decDigits U).length := by rw [hs]; simp [ByteArray.size]; omega
    have hi0 := index_at (P := Tryz.prog) 9 Tryz.underlying9 s 0 0 rfl (by omega)
    have e0 : ((s.data.toList.getD 0 0).toNat : Int) = 45 := by rw [hs]; rfl
    rw [e0] at hi0
    have hsl := slice_from (P := Tryz.prog) 9 Tryz.underlying9 s 1 1 rfl (by omega)
    have e1 : s.extract 1 s.size = t := by
      apply ByteArray.ext
      apply Array.ext'
      rw [Lib.extract_to_end, hs, ht]
      rfl
    rw [e1] at hsl
    rw [← hs] at HI2
    have htl : t.data.toList = Lib.decDigits U := by rw [ht]
    have HTL : Hid (t.data.toList = List.replicate 0 48 ++ Lib.decDigits U) := Lib.hid htl
    have HTS : Hid (t.size = 0 + (Lib.decDigits U).length) := Lib.hid (by rw [← htl]; simp)
    clear hs ht e0 e1 htl hsz
    go_enter Tryz.func23, Tryz.ntmps23
    go_wp2_with fail
    refine HI2.out.mono ?_
    rintro e w1 ⟨rfl, hb⟩
    go_wp2_with fail
    go_quiet (fail)
    generalize hw2 : World.drewN w1 _ = w2
    have hb2 : Below w.heap.size w w2 := by rw [← hw2]; exact below_drewN hb _
    clear hw2 hb
    go_wp2
    go_loop [3] (fun v => ∃ (k : Nat) (x : ByteArray), k ≤ Mn.padK U ∧ Hid (x.data.toList = List.replicate k 48 ++ Lib.decDigits U) ∧ v = .string x ∧ Hid (x.size = k + (Lib.decDigits U).length)) (fun v => 3 - Mn.strSize v)
    case atStart => exact ⟨0, t, Nat.zero_le _, HTL, rfl, HTS⟩
    case round =>
      obtain ⟨k, x, hk, HX, rfl, HXS⟩ := hrel
      have hxs := HXS.out
      by_cases hlt : x.size < 3
      · have hk2 : k < Mn.padK U := by omega
        clear hxs
        go_wp2
        go_round
        case rel =>
          refine ⟨k + 1, _, by omega, ?_, rfl, ?_⟩
          · refine Lib.hid ?_
            rw [Mn.cat0, HX.out]; rfl
          · refine Lib.hid ?_
            have := HXS.out
            rw [ByteArray.size_append, this]
            show 1 + _ = _
            omega
        case measure =>
          have : ((⟨#[48]⟩ : ByteArray) ++ x).size = 1 + x.size := by rw [ByteArray.size_append]; rfl
          simp only [Mn.strSize, this]; omega
      · have hk2 : k = Mn.padK U := by
          apply Classical.byContradiction
          intro hc
          have := hpad.2 (by omega)
          omega
        have hx : x.data.toList = Mn.pad U := by rw [HX.out, hk2, ← HP.out]
        have hxz : x.size = (Mn.pad U).length := by rw [← hx]; simp
        have f1 := slice_to (P := Tryz.prog) 9 Tryz.underlying9 x (x.size - 2) ((x.size : Int) - 2) (by omega) (by omega)
        have f2 := slice_from (P := Tryz.prog) 9 Tryz.underlying9 x (x.size - 2) ((x.size : Int) - 2) (by omega) (by omega)
        have hwr : IntKind.i64.wrap ((x.size : Int) - 2) = (x.size : Int) - 2 := IntWalk.i64_in _ ⟨by omega, by omega⟩
        have HF : Hid ((x.extract 0 (x.size - 2)).data.toList ++ [46] ++ (x.extract (x.size - 2) x.size).data.toList = Mn.pr U) := by
          refine Lib.hid ?_
          rw [Lib.extract_from_zero, Lib.extract_to_end, hx, hxz]
          exact HPT.out
        obtain ⟨y, hy⟩ : ∃ y, y = x.extract 0 (x.size - 2) := ⟨_, rfl⟩
        obtain ⟨z, hz⟩ : ∃ z, z = x.extract (x.size - 2) x.size := ⟨_, rfl⟩
        have hys : y.size ≤ 100 := by rw [hy]; simp; omega
        have hzs : z.size ≤ 100 := by rw [hz]; simp; omega
        rw [← hy] at f1 HF
        rw [← hz] at f2 HF
        obtain ⟨p1, hp1⟩ : ∃ p, p = (⟨#[45]⟩ : ByteArray) ++ y := ⟨_, rfl⟩
        have z1 : p1.size ≤ 101 := by rw [hp1, ByteArray.size_append]; show 1 + _ ≤ _; omega
        obtain ⟨p2, hp2⟩ : ∃ p, p = p1 ++ (⟨#[46]⟩ : ByteArray) := ⟨_, rfl⟩
        have z2 : p2.size ≤ 102 := by rw [hp2, ByteArray.size_append]; show _ + 1 ≤ _; omega
        obtain ⟨p3, hp3⟩ : ∃ p, p = p2 ++ z := ⟨_, rfl⟩
        have g1 := cat_at (⟨#[45]⟩ : ByteArray) y p1 hp1 (by simp [ByteArray.size]) (by omega)
        have g2 := cat_at p1 (⟨#[46]⟩ : ByteArray) p2 hp2 (by omega) (by simp [ByteArray.size])
        have g3 := cat_at p2 z p3 hp3 (by omega) (by omega)
        have HP3 : Hid (p3.data.toList = [45] ++ Mn.pr U) := by
          refine Lib.hid ?_
          rw [hp3, hp2, hp1, ← HF.out]
          simp [ByteArray.data_append]
        clear hp1 hp2 hp3 hys hzs z1 z2
        clear hy hz hx hxz hk2 hxs hk hpad hpl hnd hnp
        go_wp2
        go_quiet (fail)
        go_wp2
        go_ret
        refine ⟨?_, below_drewN hb2 _⟩
        refine congrArg Ending.returned (congrArg Value.string (Mn.bytes_ext ?_))
        rw [HP3.out]; rfl
  · have hprt : Mn.prt n = Mn.pr U := by rw [Mn.prt, if_neg hn, hU]
    rw [hprt]
    have HI2 : Hid (Calls Tryz.prog 22 #[.int .i64 n] w (Gives (.string ⟨(Lib.decDigits U).toArray⟩) w)) := by
      have := HI.out
      rw [Mn.itoa_nn n hn, ← hU] at this
      exact Lib.hid this
    clear HI hprt hU
    obtain ⟨t, ht⟩ : ∃ t : ByteArray, t = ⟨(Lib.decDigits U).toArray⟩ := ⟨_, rfl⟩
    rw [← ht] at HI2
    have htl : t.data.toList = Lib.decDigits U := by rw [ht]
    have hts : t.size = (Lib.decDigits U).length := by rw [← htl]; simp
    have HTS : Hid (t.size = 0 + (Lib.decDigits U).length) := Lib.hid (by omega)
    have hi0 := index_at (P := Tryz.prog) 9 Tryz.underlying9 t 0 0 rfl (by omega)
    have e0 := Mn.dec_hd U t htl
    obtain ⟨x0, hx0⟩ : ∃ x : Int, x = ((t.data.toList.getD 0 0).toNat : Int) := ⟨_, rfl⟩
    rw [← hx0] at hi0 e0
    have hne : (x0 == 45) = false := by simpa using e0
    have HTL : Hid (t.data.toList = List.replicate 0 48 ++ Lib.decDigits U) := Lib.hid htl
    have hb2 : True := trivial
    clear ht htl e0 hb2 hts hx0
    go_enter Tryz.func23, Tryz.ntmps23
    go_wp2_with fail
    refine HI2.out.mono ?_
    rintro e w2 ⟨rfl, hb2⟩
    go_wp2
    go_loop [3] (fun v => ∃ (k : Nat) (x : ByteArray), k ≤ Mn.padK U ∧ Hid (x.data.toList = List.replicate k 48 ++ Lib.decDigits U) ∧ v = .string x ∧ Hid (x.size = k + (Lib.decDigits U).length)) (fun v => 3 - Mn.strSize v)
    case atStart => exact ⟨0, t, Nat.zero_le _, HTL, rfl, HTS⟩
    case round =>
      obtain ⟨k, x, hk, HX, rfl, HXS⟩ := hrel
      have hxs := HXS.out
      by_cases hlt : x.size < 3
      · have hk2 : k < Mn.padK U := by omega
        clear hxs
        go_wp2
        go_round
        case rel =>
          refine ⟨k + 1, _, by omega, ?_, rfl, ?_⟩
          · refine Lib.hid ?_
            rw [Mn.cat0, HX.out]; rfl
          · refine Lib.hid ?_
            have := HXS.out
            rw [ByteArray.size_append, this]
            show 1 + _ = _
            omega
        case measure =>
          have : ((⟨#[48]⟩ : ByteArray) ++ x).size = 1 + x.size := by rw [ByteArray.size_append]; rfl
          simp only [Mn.strSize, this]; omega
      · have hk2 : k = Mn.padK U := by
          apply Classical.byContradiction
          intro hc
          have := hpad.2 (by omega)
          omega
        have hx : x.data.toList = Mn.pad U := by rw [HX.out, hk2, ← HP.out]
        have hxz : x.size = (Mn.pad U).length := by rw [← hx]; simp
        have f1 := slice_to (P := Tryz.prog) 9 Tryz.underlying9 x (x.size - 2) ((x.size : Int) - 2) (by omega) (by omega)
        have f2 := slice_from (P := Tryz.prog) 9 Tryz.underlying9 x (x.size - 2) ((x.size : Int) - 2) (by omega) (by omega)
        have hwr : IntKind.i64.wrap ((x.size : Int) - 2) = (x.size : Int) - 2 := IntWalk.i64_in _ ⟨by omega, by omega⟩
        have HF : Hid ((x.extract 0 (x.size - 2)).data.toList ++ [46] ++ (x.extract (x.size - 2) x.size).data.toList = Mn.pr U) := by
          refine Lib.hid ?_
          rw [Lib.extract_from_zero, Lib.extract_to_end, hx, hxz]
          exact HPT.out
        obtain ⟨y, hy⟩ : ∃ y, y = x.extract 0 (x.size - 2) := ⟨_, rfl⟩
        obtain ⟨z, hz⟩ : ∃ z, z = x.extract (x.size - 2) x.size := ⟨_, rfl⟩
        have hys : y.size ≤ 100 := by rw [hy]; simp; omega
        have hzs : z.size ≤ 100 := by rw [hz]; simp; omega
        rw [← hy] at f1 HF
        rw [← hz] at f2 HF
        obtain ⟨p1, hp1⟩ : ∃ p, p = (⟨#[]⟩ : ByteArray) ++ y := ⟨_, rfl⟩
        have z1 : p1.size ≤ 101 := by rw [hp1, ByteArray.size_append]; show 0 + _ ≤ _; omega
        obtain ⟨p2, hp2⟩ : ∃ p, p = p1 ++ (⟨#[46]⟩ : ByteArray) := ⟨_, rfl⟩
        have z2 : p2.size ≤ 102 := by rw [hp2, ByteArray.size_append]; show _ + 1 ≤ _; omega
        obtain ⟨p3, hp3⟩ : ∃ p, p = p2 ++ z := ⟨_, rfl⟩
        have g1 := cat_at (⟨#[]⟩ : ByteArray) y p1 hp1 (by simp [ByteArray.size]) (by omega)
        have g2 := cat_at p1 (⟨#[46]⟩ : ByteArray) p2 hp2 (by omega) (by simp [ByteArray.size])
        have g3 := cat_at p2 z p3 hp3 (by omega) (by omega)
        have HP3 : Hid (p3.data.toList = [] ++ Mn.pr U) := by
          refine Lib.hid ?_
          rw [hp3, hp2, hp1, ← HF.out]
          simp [ByteArray.data_append]
        clear hp1 hp2 hp3 hys hzs z1 z2
        clear hy hz hx hxz hk2 hxs hk hpad hpl hnd hnp
        go_wp2
        go_quiet (fail)
        go_wp2
        go_ret
        refine ⟨?_, below_drewN hb2 _⟩
        refine congrArg Ending.returned (congrArg Value.string (Mn.bytes_ext ?_))
        rw [HP3.out]; rfl
end Go.Proofs.YtjmeefmofbpbnaaGreatDoor
