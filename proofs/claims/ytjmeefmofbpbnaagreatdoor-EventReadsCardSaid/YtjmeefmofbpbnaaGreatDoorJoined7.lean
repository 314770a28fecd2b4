/- Joined: RpP, EvC. -/
import Derived.Lib.AtoiAllCases
import Derived.Test.YtjmeefmofbpbnaaGreatDoorRpA
import Derived.Test.YtjmeefmofbpbnaaGreatDoorRefM
import Derived.StillTailTactics
import Derived.Handy
import Derived.WalkSpells
import Derived.WalkLawsBesides
import Derived.Lib.Hide
import Derived.Test.YtjmeefmofbpbnaaGreatDoorBase
import Derived.Test.YtjmeefmofbpbnaaGreatDoorJoined4

section
/- tallymanref.ParseAmount: what it hands back. -/
namespace Go.Proofs.YtjmeefmofbpbnaaGreatDoor
open Go.RowKit

def RefParsePost (s : ByteArray) (w : World) (e : Ending) (w' : World) : Prop :=
  (match Mn.parse s.data.toList with
   | some v => e = .returned (.tuple #[.int .i64 v, .int .i64 0])
   | none => e = .returned (.tuple #[.int .i64 0, .int .i64 3])) ∧ Below w.heap.size w w'

theorem replace_any (s : ByteArray) (w : World) (hw : NW w) (hs : s.size ≤ 1000) :
    Calls Tryz.prog 52 #[.string s, .string ⟨#[46]⟩, .string ⟨#[]⟩, .int .i64 1] w (Gives (.string ⟨(Lib.replace s.data.toList [46] [] 1).toArray⟩) w) := by
  obtain ⟨m, hm⟩ := hw.most
  have hc := Lib.countB_le ⟨#[46]⟩ (by decide) s.size s (Nat.le_refl _)
  refine (Tryz.strings_Replace s ⟨#[46]⟩ ⟨#[]⟩ 1 m w (by omega) hm (by decide) (by show _ + _ * 0 ≤ _; omega)).mono ?_
  rintro e w' ⟨rfl, hb⟩
  exact ⟨rfl, hb⟩

theorem replaceK_len (old : List UInt8) : ∀ (k : Nat) (l : List UInt8), (Lib.replaceK old [] k l).length ≤ l.length := by
  intro k
  induction k with
  | zero => intro l; exact Nat.le_refl _
  | succ k ih =>
    intro l
    unfold Lib.replaceK
    split
    · exact Nat.le_refl _
    · have := ih (l.drop ((Lib.index l old).toNat + old.length))
      simp at this ⊢
      omega
theorem replace_len (l : List UInt8) : (Lib.replace l [46] [] 1).length ≤ l.length := by
  unfold Lib.replace
  split
  · exact Nat.le_refl _
  · exact replaceK_len _ _ _

theorem atoi_short (s : ByteArray) (v : Int) (w : World) (hl : s.size ≤ 18) (h : Lib.atoi s.data.toList = some v) : Calls Tryz.prog 31 #[.string s] w (Gives (.tuple #[.int .i64 v, .nilIface]) w) := by
  refine (Tryz.strconv_Atoi s v hl h w).mono ?_
  rintro e w' ⟨rfl, t, rfl⟩
  exact ⟨rfl, Lib.bytesWorld_below _ _ _⟩

theorem refParse_some {s : ByteArray} {w w' : World} {v : Int} (h : Mn.parse s.data.toList = some v) (hb : Below w.heap.size w w') : RefParsePost s w (.returned (.tuple #[.int .i64 v, .int .i64 0])) w' := by
  unfold RefParsePost; rw [h]; exact ⟨rfl, hb⟩
theorem refParse_none {s : ByteArray} {w w' : World} (h : Mn.parse s.data.toList = none) (hb : Below w.heap.size w w') : RefParsePost s w (.returned (.tuple #[.int .i64 0, .int .i64 3])) w' := by
  unfold RefParsePost; rw [h]; exact ⟨rfl, hb⟩

set_option maxHeartbeats 800000 in
theorem refParse_any (s : ByteArray) (w : World) (hw : NW w) (hs : s.size ≤ 1000) :
    Calls Tryz.prog 30 #[.string s] w (RefParsePost s w) := by
  have HR := Lib.hid (replace_any s w hw hs)
  rcases h : Mn.parse s.data.toList with _ | v
  · have H := Lib.hid h
    have hrl : (⟨(Lib.replace s.data.toList [46] [] 1).toArray⟩ : ByteArray).size ≤ 1000 := by
      have := replace_len s.data.toList
      have e : s.data.toList.length = s.size := by simp
      show (Lib.replace s.data.toList [46] [] 1).toArray.size ≤ 1000
      rw [List.size_toArray]
      omega
    obtain ⟨r, hr⟩ : ∃ r : ByteArray, r = ⟨(Lib.replace s.data.toList [46] [] 1).toArray⟩ := ⟨_, rfl⟩
    rw [← hr] at HR hrl
    clear h hr
    go_enter Tryz.func30, Tryz.ntmps30
    go_wp2_with fail
    refine HR.out.mono ?_
    rintro e w1 ⟨rfl, hb1⟩
    have hw1 := hw.below hb1
    go_wp2_with fail
    refine (NW.atoi r _ hw1 hrl).mono ?_
    rintro e w2 ⟨v, er, rfl, hv, hb2⟩
    replace hb1 := hb1.step hb2
    have hw2 := hw1.below hb2
    rcases hv with ⟨hv, rfl⟩ | ⟨-, N, rfl⟩
    · obtain ⟨v0, v1⟩ := Lib.atoiAll_bounds hv
      have V0 := Lib.hid v0
      have V1 := Lib.hid v1
      clear hv v0 v1
      by_cases hin : -1000000000000 ≤ v ∧ v ≤ 1000000000000
      · have I := Lib.hid hin
        clear hin
        go_wp2_with fail
        refine (in_yes v _ _ _ I.out.1 I.out.2).mono ?_
        rintro e w3 ⟨rfl, rfl⟩
        go_wp2_with fail
        refine (amount_any v _ hw2 V0.out V1.out).mono ?_
        rintro e w3 ⟨rfl, hb3⟩
        have hq : (Mn.prt v == s.toList) = false := by
          rw [Go.ByteArray.toList_eq]
          apply Classical.byContradiction
          intro hc
          simp only [Bool.not_eq_false, beq_iff_eq] at hc
          have := Mn.parse_prt v I.out.1 I.out.2
          rw [hc, H.out] at this
          cases this
        go_wp2_with fail
        go_ret2
        exact refParse_none H.out (hb1.step hb3)
      · have I : Hid (v < -1000000000000 ∨ 1000000000000 < v) := Lib.hid (by omega)
        clear hin
        go_wp2_with fail
        refine (in_no v _ _ _ I.out).mono ?_
        rintro e w3 ⟨rfl, rfl⟩
        go_wp2_with fail
        go_ret2
        exact refParse_none H.out hb1
    · go_wp2_with fail
      go_ret2
      exact refParse_none H.out hb1
  · have H := Lib.hid h
    obtain ⟨hp, v0, v1⟩ := Mn.parse_back h
    have hrep : Lib.replace s.data.toList [46] [] 1 = Mn.bare v := by rw [← hp, Mn.prt_replace]
    rw [hrep] at HR
    have hlen := Mn.bare_len v v0 v1
    have HA : Hid (∀ w1, Calls Tryz.prog 31 #[.string ⟨(Mn.bare v).toArray⟩] w1 (Gives (.tuple #[.int .i64 v, .nilIface]) w1)) := Lib.hid (fun w1 => atoi_short _ v w1 hlen (Mn.atoi_bare v))
    generalize (⟨(Mn.bare v).toArray⟩ : ByteArray) = r at HR HA
    have HP := Lib.hid hp
    clear h hp hrep hlen
    go_enter Tryz.func30, Tryz.ntmps30
    go_wp2_with fail
    refine HR.out.mono ?_
    rintro e w1 ⟨rfl, hb1⟩
    have hw1 := hw.below hb1
    go_wp2_with fail
    refine (HA.out _).mono ?_
    rintro e w2 ⟨rfl, hb2⟩
    replace hb1 := hb1.step hb2
    have hw2 := hw1.below hb2
    go_wp2_with fail
    refine (in_yes v _ _ _ v0 v1).mono ?_
    rintro e w3 ⟨rfl, rfl⟩
    go_wp2_with fail
    refine (amount_any v _ hw2 (by omega) (by omega)).mono ?_
    rintro e w3 ⟨rfl, hb3⟩
    have hq : (Mn.prt v == s.toList) = true := by rw [Go.ByteArray.toList_eq, HP.out]; simp
    go_wp2_with fail
    go_ret2
    exact refParse_some H.out (hb1.step hb3)
end Go.Proofs.YtjmeefmofbpbnaaGreatDoor
end

section
/- event.Compare: what it hands back. -/
namespace Go.Proofs.YtjmeefmofbpbnaaGreatDoor
open Go.RowKit

namespace Ev
/-- -1, 0, 1: less, alike, more. -/
def cmpI (x y : Int) : Int := if x < y then -1 else if y < x then 1 else 0
def or3 (a b c : Int) : Int := if a = 0 then (if b = 0 then c else b) else a
/-- The order of events: days, kinds, numbers. -/
def cmpE (i k d i' k' d' : Int) : Int := or3 (cmpI d d') (cmpI k k') (cmpI i i')
theorem cmpI_bd (x y : Int) : cmpI x y = -1 ∨ cmpI x y = 0 ∨ cmpI x y = 1 := by
  unfold cmpI
  split
  · exact Or.inl rfl
  · split
    · exact Or.inr (Or.inr rfl)
    · exact Or.inr (Or.inl rfl)
end Ev

set_option maxHeartbeats 400000 in
theorem nan_any (x : Int) (w : World) : Calls Tryz.prog 43 #[.int .i64 x] w fun e w' => e = .returned (.bool false) ∧ w' = w := by
  go_enter Tryz.func43, Tryz.ntmps43
  go_wp2
  go_ret
  exact ⟨rfl, rfl⟩

set_option maxHeartbeats 400000 in
theorem cmp_any (x y : Int) (w : World) : Calls Tryz.prog 20 #[.int .i64 x, .int .i64 y] w fun e w' => e = .returned (.int .i64 (Ev.cmpI x y)) ∧ w' = w := by
  by_cases h1 : x < y
  · have e : Ev.cmpI x y = -1 := by rw [Ev.cmpI, if_pos h1]
    rw [e]; clear e
    go_enter Tryz.func20, Tryz.ntmps20
    go_wp2_with (go_at_call 43; refine (nan_any _ _).mono ?_; rintro e w' ⟨rfl, rfl⟩)
    go_ret
    exact ⟨rfl, rfl⟩
  · by_cases h2 : y < x
    · have e : Ev.cmpI x y = 1 := by rw [Ev.cmpI, if_neg h1, if_pos h2]
      rw [e]; clear e
      go_enter Tryz.func20, Tryz.ntmps20
      go_wp2_with (go_at_call 43; refine (nan_any _ _).mono ?_; rintro e w' ⟨rfl, rfl⟩)
      go_ret
      exact ⟨rfl, rfl⟩
    · have e : Ev.cmpI x y = 0 := by rw [Ev.cmpI, if_neg h1, if_neg h2]
      rw [e]; clear e
      go_enter Tryz.func20, Tryz.ntmps20
      go_wp2_with (go_at_call 43; refine (nan_any _ _).mono ?_; rintro e w' ⟨rfl, rfl⟩)
      go_ret
      exact ⟨rfl, rfl⟩

set_option maxHeartbeats 1000000 in
set_option maxRecDepth 100000 in
theorem or_any (a b c : Int) (n : Nat) (w : World) (ha : w.cell? ⟨n, 0, none⟩ = some (.int .i64 a)) (hb : w.cell? ⟨n, 1, none⟩ = some (.int .i64 b)) (hc : w.cell? ⟨n, 2, none⟩ = some (.int .i64 c)) :
    Calls Tryz.prog 19 #[.slice (some ⟨n, 0, none⟩) 3 3] w fun e w' => e = .returned (.int .i64 (Ev.or3 a b c)) ∧ w' = w := by
  by_cases h1 : a = 0
  · subst h1
    by_cases h2 : b = 0
    · subst h2
      by_cases h3 : c = 0
      · subst h3
        show Calls _ _ _ _ fun e w' => e = .returned (.int .i64 0) ∧ w' = w
        go_enter Tryz.func19, Tryz.ntmps19
        go_wp2
        refine wp_loop_rounds 4 ?_
        rw [rounds_succ]
        go_wp2
        rw [rounds_succ]
        go_wp2
        rw [rounds_succ]
        go_wp2
        rw [rounds_succ]
        go_wp2
        go_ret
        exact ⟨rfl, rfl⟩
      · have e : Ev.or3 0 0 c = c := rfl
        rw [e]
        have n1 : (c == 0) = false := by simpa using h3
        have n2 : (c != 0) = true := by simpa using h3
        clear e
        go_enter Tryz.func19, Tryz.ntmps19
        go_wp2
        refine wp_loop_rounds 3 ?_
        rw [rounds_succ]
        go_wp2
        rw [rounds_succ]
        go_wp2
        rw [rounds_succ]
        go_wp2
        go_ret
        exact ⟨rfl, rfl⟩
    · have e : Ev.or3 0 b c = b := by rw [Ev.or3, if_pos rfl, if_neg h2]
      rw [e]
      have n1 : (b == 0) = false := by simpa using h2
      have n2 : (b != 0) = true := by simpa using h2
      clear e
      go_enter Tryz.func19, Tryz.ntmps19
      go_wp2
      refine wp_loop_rounds 2 ?_
      rw [rounds_succ]
      go_wp2
      rw [rounds_succ]
      go_wp2
      go_ret
      exact ⟨rfl, rfl⟩
  · have e : Ev.or3 a b c = a := by rw [Ev.or3, if_neg h1]
    rw [e]
    have n1 : (a == 0) = false := by simpa using h1
    have n2 : (a != 0) = true := by simpa using h1
    clear e
    go_enter Tryz.func19, Tryz.ntmps19
    go_wp2
    refine wp_loop_rounds 1 ?_
    rw [rounds_succ]
    go_wp2
    go_ret
    exact ⟨rfl, rfl⟩

set_option maxHeartbeats 4000000 in
set_option maxRecDepth 100000 in
theorem compare_any (i k q p o d i' k' q' p' o' d' : Int) (s s' : ByteArray) (w : World) :
    Calls Tryz.prog 9 #[.agg #[.int .i64 i, .string s, .int .i64 k, .int .i64 q, .int .i64 p, .int .i64 o, .int .i64 d], .agg #[.int .i64 i', .string s', .int .i64 k', .int .i64 q', .int .i64 p', .int .i64 o', .int .i64 d']] w
      (Gives (.int .i64 (Ev.cmpE i k d i' k' d')) w) := by
  have HO := Lib.hid (fun (a b c : Int) (n : Nat) (w : World) => or_any a b c n w)
  have h1 := Lib.hid (cmp_any d d')
  have h2 := Lib.hid (cmp_any k k')
  have h3 := Lib.hid (cmp_any i i')
  have hE : Hid (Ev.cmpE i k d i' k' d' = Ev.or3 (Ev.cmpI d d') (Ev.cmpI k k') (Ev.cmpI i i')) := rfl
  generalize Ev.cmpI d d' = x at h1 hE
  generalize Ev.cmpI k k' = y at h2 hE
  generalize Ev.cmpI i i' = z at h3 hE
  rw [hE.out]
  clear hE
  go_enter Tryz.func9, Tryz.ntmps9
  go_wp2
  refine wp_region_still_tail 15 (by kernel_rfl) (by kernel_rfl) ?_
  change wpStill _ _ (World.drew _) _ _ _
  generalize hW : World.drew _ = W
  have a6 : W.cell? ⟨w.heap.size, 6, none⟩ = some (.int .i64 d) := by rw [← hW]; simp
  have a2 : W.cell? ⟨w.heap.size, 2, none⟩ = some (.int .i64 k) := by rw [← hW]; simp
  have a0 : W.cell? ⟨w.heap.size, 0, none⟩ = some (.int .i64 i) := by rw [← hW]; simp
  have b6 : W.cell? ⟨w.heap.size + 1, 6, none⟩ = some (.int .i64 d') := by rw [← hW]; simp
  have b2 : W.cell? ⟨w.heap.size + 1, 2, none⟩ = some (.int .i64 k') := by rw [← hW]; simp
  have b0 : W.cell? ⟨w.heap.size + 1, 0, none⟩ = some (.int .i64 i') := by rw [← hW]; simp
  have hbW : Below w.heap.size w W := by rw [← hW]; exact below_drewN (((Below.refl _ _).alloc (Nat.le_refl _) _).alloc (by simp) _) 1
  have HW := Lib.hid hW
  clear hW
  simp only [List.take_succ_cons, List.take_zero, List.drop_succ_cons, List.drop_zero]
  still_step
  still_step
  still_step
  still_step
  still_call (h1.out _)
  still_step
  still_step
  still_step
  still_step
  still_call (h2.out _)
  still_step
  still_step
  still_step
  still_step
  still_call (h3.out _)
  refine wpStill_nil ?_
  change wpList _ _ _ _ _ (World.drew _)
  rw [HW.out]
  have hbs := hbW.size
  go_wp2_with fail
  refine (HO.out x y z W.heap.size _ (by simp) (by simp) (by simp)).mono ?_
  rintro e w' ⟨rfl, rfl⟩
  go_wp2_with fail
  go_ret
  exact ⟨rfl, hbW.new _⟩
end Go.Proofs.YtjmeefmofbpbnaaGreatDoor
end
