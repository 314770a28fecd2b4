/- tallymanref.Part: what it hands back. -/
import Derived.Test.YtpbbbiifeihkaaaGreatDoorMdvI
import Derived.Test.YtpbbbiifeihkaaaGreatDoorRefIn
namespace Go.Proofs.YtpbbbiifeihkaaaGreatDoor
open Go.RowKit

set_option maxHeartbeats 400000 in
theorem refPart_ok (t s m : Int) (w : World) (hw : NW w) (h1 : 0 ≤ t) (h2 : t ≤ 20000000000000) (h3 : 1 ≤ m) (h4 : m ≤ 100000) (h5 : 0 ≤ s) (h6 : s ≤ m) :
    Calls Tryz.prog 69 #[.int .i64 t, .int .i64 s, .int .i64 m] w (Gives (.tuple #[.int .i64 (t * s / m), .int .i64 0]) w) := by
  obtain ⟨b, rfl⟩ : ∃ b : Nat, s = b := ⟨s.toNat, by omega⟩
  have HM := Lib.hid (mulDiv_any t m b w hw h1 h2 h3 (by omega) h6)
  generalize t * (b : Int) / m = r at HM ⊢
  go_enter Tryz.func69, Tryz.ntmps69
  go_wp2_with fail
  refine (in_yes t _ _ _ (by omega) (by omega)).mono ?_
  rintro e w1 ⟨rfl, rfl⟩
  go_wp2_with fail
  refine (in_yes m _ _ _ (by omega) (by omega)).mono ?_
  rintro e w1 ⟨rfl, rfl⟩
  go_wp2_with fail
  refine (in_yes _ _ _ _ (by omega) (by omega)).mono ?_
  rintro e w1 ⟨rfl, rfl⟩
  go_wp2_with fail
  refine HM.out.mono ?_
  rintro e w1 ⟨rfl, hb⟩
  go_wp2_with fail
  go_ret2
  exact ⟨rfl, hb⟩
end Go.Proofs.YtpbbbiifeihkaaaGreatDoor
