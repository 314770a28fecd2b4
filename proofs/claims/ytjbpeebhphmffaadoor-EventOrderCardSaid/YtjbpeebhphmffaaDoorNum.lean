/- event.number: what it hands back. -/
import Derived.Test.YtjbpeebhphmffaaDoorNumW
import Derived.Test.YtjbpeebhphmffaaDoorNm
import Derived.Deep.QuietTactic
import Derived.BigQuiet
namespace Go.Proofs.YtjbpeebhphmffaaDoor
open Go.RowKit

/-- A number as it is written, and true; or false. -/
def NumPost (s : ByteArray) (w : World) (e : Ending) (w' : World) : Prop :=
  ((∃ v, Nm.Is s.data.toList v ∧ e = .returned (.tuple #[.int .i64 v, .bool true])) ∨ (Nm.No s.data.toList ∧ ∃ v, e = .returned (.tuple #[.int .i64 v, .bool false]))) ∧ Below w.heap.size w w'

set_option maxHeartbeats 1000000 in
theorem number_any (s : ByteArray) (w : World) (hw : NW w) (hs : s.size ≤ 1000) :
    Calls Tryd.prog 13 #[.string s] w (NumPost s w) := by
  go_enter Tryd.func13, Tryd.ntmps13
  go_wp2_with fail
  refine (NW.atoi s _ hw hs).mono ?_
  rintro e w1 ⟨v, er, rfl, h, hb⟩
  have hw1 := hw.below hb
  rcases h with ⟨hv, rfl⟩ | ⟨hv, N, rfl⟩
  · have bd := Lib.atoiAll_bounds hv
    obtain ⟨b0, b1⟩ := bd
    obtain ⟨t, ht⟩ : ∃ t : ByteArray, t = ⟨(Lib.itoa v).toArray⟩ := ⟨_, rfl⟩
    have HI : Hid (∀ w', NW w' → Calls Tryd.prog 16 #[.int .i64 v] w' (Gives (.string t) w')) := Lib.hid (fun w' h => by rw [ht]; exact NW.itoa v w' h b0 b1)
    have htl : t.data.toList = Lib.itoa v := by rw [ht]
    by_cases hq : Lib.itoa v = s.data.toList
    · have q1 : (t.toList == s.toList) = true := by rw [Go.ByteArray.toList_eq, Go.ByteArray.toList_eq, htl, hq]; simp
      have HQ : Hid (Nm.Is s.data.toList v) := Lib.hid ⟨b0, b1, hq⟩
      clear hq htl ht hv b0 b1
      go_wp2_with fail
      refine (HI.out _ hw1).mono ?_
      rintro e w2 ⟨rfl, hb2⟩
      go_wp2_with fail
      go_ret2
      exact ⟨Or.inl ⟨v, HQ.out, rfl⟩, hb.step hb2⟩
    · have q1 : (t.toList == s.toList) = false := by rw [Go.ByteArray.toList_eq, Go.ByteArray.toList_eq, htl]; simpa using hq
      have HQ : Hid (Nm.No s.data.toList) := Lib.hid (fun u hu => by
        have := Nm.atoi_itoa u hu.1 hu.2.1
        rw [hu.2.2, hv] at this
        injection this with this
        subst this
        exact hq hu.2.2)
      clear hq htl ht hv b0 b1
      go_wp2_with fail
      refine (HI.out _ hw1).mono ?_
      rintro e w2 ⟨rfl, hb2⟩
      go_wp2_with fail
      go_ret2
      exact ⟨Or.inr ⟨HQ.out, v, rfl⟩, hb.step hb2⟩
  · have HQ : Hid (Nm.No s.data.toList) := Lib.hid (fun u hu => by
      have := Nm.atoi_itoa u hu.1 hu.2.1
      rw [hu.2.2] at this
      exact hv u this)
    clear hv
    go_wp2_with fail
    go_ret2
    exact ⟨Or.inr ⟨HQ.out, v, rfl⟩, hb⟩
end Go.Proofs.YtjbpeebhphmffaaDoor
