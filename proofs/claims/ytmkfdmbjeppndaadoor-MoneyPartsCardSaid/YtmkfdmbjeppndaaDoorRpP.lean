/- tallymanref.ParseAmount: what it hands back. -/
import Derived.Test.YtmkfdmbjeppndaaDoorRpA
import Derived.Test.YtmkfdmbjeppndaaDoorRefM
import Derived.Lib.AtoiAllCases
namespace Go.Proofs.YtmkfdmbjeppndaaDoor
open Go.RowKit

def RefParsePost (s : ByteArray) (w : World) (e : Ending) (w' : World) : Prop :=
  (match Mn.parse s.data.toList with
   | some v => e = .returned (.tuple #[.int .i64 v, .int .i64 0])
   | none => e = .returned (.tuple #[.int .i64 0, .int .i64 3])) ∧ Below w.heap.size w w'

theorem replace_any (s : ByteArray) (w : World) (hw : NW w) (hs : s.size ≤ 1000) :
    Calls Tryd.prog 33 #[.string s, .string ⟨#[46]⟩, .string ⟨#[]⟩, .int .i64 1] w (Gives (.string ⟨(Lib.replace s.data.toList [46] [] 1).toArray⟩) w) := by
  obtain ⟨m, hm⟩ := hw.most
  have hc := Lib.countB_le ⟨#[46]⟩ (by decide) s.size s (Nat.le_refl _)
  refine (Tryd.strings_Replace s ⟨#[46]⟩ ⟨#[]⟩ 1 m w (by omega) hm (by decide) (by show _ + _ * 0 ≤ _; omega)).mono ?_
  rintro e w' ⟨rfl, hb⟩
  exact ⟨rfl, hb⟩

theorem replaceK_len (old : List UInt8) : ∀ (k : Nat) (l : List UInt8), (Lib.replaceK old [] k l).length ≤ l.length := by
  intro k
  induction k with
  | zero => intro l; exact Nat.le_refl _
  | succ k ih =>
    intro l
    unfold Lib.replaceK
    split
    · exact Nat.le_refl _
    · have := ih (l.drop ((Lib.index l old).toNat + old.length))
      simp at this ⊢
      omega
theorem replace_len (l : List UInt8) : (Lib.replace l [46] [] 1).length ≤ l.length := by
  unfold Lib.replace
  split
  · exact Nat.le_refl _
  · exact replaceK_len _ _ _

theorem atoi_short (s : ByteArray) (v : Int) (w : World) (hl : s.size ≤ 18) (h : Lib.atoi s.data.toList = some v) : Calls Tryd.prog 32 #[.string s] w (Gives (.tuple #[.int .i64 v, .nilIface]) w) := by
  refine (Tryd.strconv_Atoi s v hl h w).mono ?_
  rintro e w' ⟨rfl, t, rfl⟩
  exact ⟨rfl, Lib.bytesWorld_below _ _ _⟩

theorem refParse_some {s : ByteArray} {w w' : World} {v : Int} (h : Mn.parse s.data.toList = some v) (hb : Below w.heap.size w w') : RefParsePost s w (.returned (.tuple #[.int .i64 v, .int .i64 0])) w' := by
  unfold RefParsePost; rw [h]; exact ⟨rfl, hb⟩
theorem refParse_none {s : ByteArray} {w w' : World} (h : Mn.parse s.data.toList = none) (hb : Below w.heap.size w w') : RefParsePost s w (.returned (.tuple #[.int .i64 0, .int .i64 3])) w' := by
  unfold RefParsePost; rw [h]; exact ⟨rfl, hb⟩

set_option maxHeartbeats 800000 in
theorem refParse_any (s : ByteArray) (w : World) (hw : NW w) (hs : s.size ≤ 1000) :
    Calls Tryd.prog 13 #[.string s] w (RefParsePost s w) := by
  have HR := Lib.hid (replace_any s w hw hs)
  rcases h : Mn.parse s.data.toList with _ | v
  · have H := Lib.hid h
    have hrl : (⟨(Lib.replace s.data.toList [46] [] 1).toArray⟩ : ByteArray).size ≤ 1000 := by
      have := replace_len s.data.toList
      have e : s.data.toList.length = s.size := by simp
      show (Lib.replace s.data.toList [46] [] 1).toArray.size ≤ 1000
      rw [List.size_toArray]
      omega
    obtain ⟨r, hr⟩ : ∃ r : ByteArray, r = ⟨(Lib.replace s.data.toList [46] [] 1).toArray⟩ := ⟨_, rfl⟩
    rw [← hr] at HR hrl
    clear h hr
    go_enter Tryd.func13, Tryd.ntmps13
    go_wp2_with fail
    refine HR.out.mono ?_
    rintro e w1 ⟨rfl, hb1⟩
    have hw1 := hw.below hb1
    go_wp2_with fail
    refine (NW.atoi r _ hw1 hrl).mono ?_
    rintro e w2 ⟨v, er, rfl, hv, hb2⟩
    replace hb1 := hb1.step hb2
    have hw2 := hw1.below hb2
    rcases hv with ⟨hv, rfl⟩ | ⟨-, N, rfl⟩
    · obtain ⟨v0, v1⟩ := Lib.atoiAll_bounds hv
      have V0 := Lib.hid v0
      have V1 := Lib.hid v1
      clear hv v0 v1
      by_cases hin : -1000000000000 ≤ v ∧ v ≤ 1000000000000
      · have I := Lib.hid hin
        clear hin
        go_wp2_with fail
        refine (in_yes v _ _ _ I.out.1 I.out.2).mono ?_
        rintro e w3 ⟨rfl, rfl⟩
        go_wp2_with fail
        refine (amount_any v _ hw2 V0.out V1.out).mono ?_
        rintro e w3 ⟨rfl, hb3⟩
        have hq : (Mn.prt v == s.toList) = false := by
          rw [Go.ByteArray.toList_eq]
          apply Classical.byContradiction
          intro hc
          simp only [Bool.not_eq_false, beq_iff_eq] at hc
          have := Mn.parse_prt v I.out.1 I.out.2
          rw [hc, H.out] at this
          cases this
        go_wp2_with fail
        go_ret2
        exact refParse_none H.out (hb1.step hb3)
      · have I : Hid (v < -1000000000000 ∨ 1000000000000 < v) := Lib.hid (by omega)
        clear hin
        go_wp2_with fail
        refine (in_no v _ _ _ I.out).mono ?_
        rintro e w3 ⟨rfl, rfl⟩
        go_wp2_with fail
        go_ret2
        exact refParse_none H.out hb1
    · go_wp2_with fail
      go_ret2
      exact refParse_none H.out hb1
  · have H := Lib.hid h
    obtain ⟨hp, v0, v1⟩ := Mn.parse_back h
    have hrep : Lib.replace s.data.toList [46] [] 1 = Mn.bare v := by rw [← hp, Mn.prt_replace]
    rw [hrep] at HR
    have hlen := Mn.bare_len v v0 v1
    have HA : Hid (∀ w1, Calls Tryd.prog 32 #[.string ⟨(Mn.bare v).toArray⟩] w1 (Gives (.tuple #[.int .i64 v, .nilIface]) w1)) := Lib.hid (fun w1 => atoi_short _ v w1 hlen (Mn.atoi_bare v))
    generalize (⟨(Mn.bare v).toArray⟩ : ByteArray) = r at HR HA
    have HP := Lib.hid hp
    clear h hp hrep hlen
    go_enter Tryd.func13, Tryd.ntmps13
    go_wp2_with fail
    refine HR.out.mono ?_
    rintro e w1 ⟨rfl, hb1⟩
    have hw1 := hw.below hb1
    go_wp2_with fail
    refine (HA.out _).mono ?_
    rintro e w2 ⟨rfl, hb2⟩
    replace hb1 := hb1.step hb2
    have hw2 := hw1.below hb2
    go_wp2_with fail
    refine (in_yes v _ _ _ v0 v1).mono ?_
    rintro e w3 ⟨rfl, rfl⟩
    go_wp2_with fail
    refine (amount_any v _ hw2 (by omega) (by omega)).mono ?_
    rintro e w3 ⟨rfl, hb3⟩
    have hq : (Mn.prt v == s.toList) = true := by rw [Go.ByteArray.toList_eq, HP.out]; simp
    go_wp2_with fail
    go_ret2
    exact refParse_some H.out (hb1.step hb3)
end Go.Proofs.YtmkfdmbjeppndaaDoor
