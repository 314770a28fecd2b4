/- strconv.Itoa at every number; what the walks over numbers as text ask of the world (for a seat that reaches no strconv.Atoi). -/
import Derived.Test.YtpbbbiifeihkaaaGreatDoorBase
import Derived.Test.YtpbbbiifeihkaaaGreatDoorLawLift
import Derived.Test.YtpbbbiifeihkaaaGreatDoorShelfI
import Derived.Lib.Hide
import Derived.Lib.LaidTab
import Derived.Lib.SmallJoins
import Derived.WalkSpells
import Derived.WalkLawsBesides
import Derived.Handy
namespace Go.Proofs.YtpbbbiifeihkaaaGreatDoor
open Go.RowKit

/-- What the laid variables of strconv and of the search in texts hold. -/
structure NW (w : World) : Prop where
  pow : Lib.TabIs Tryz.prog w "internal/strconv.uint64pow10" .u64 Lib.pow10Tab
namespace NW
theorem gPow : Tryz.prog.globalNamed "internal/strconv.uint64pow10" = some 4 := by kernel_rfl
theorem below {w w' : World} (h : NW w) (hb : Below w.heap.size w w') : NW w' := by
  exact ⟨Joins.var_stays gPow h.pow hb (Nat.le_refl _)⟩
theorem grows (w : World) (q : Nat) (os : Array Obj) : Below w.heap.size w (Go.Sort.grow (w.drewN q) os) :=
  ⟨rfl, rfl, rfl, by simp [Go.Sort.grow], fun i hi => by
    show ((w.drewN q).heap ++ os)[i]? = _
    rw [Array.getElem?_append_left (by show i < w.heap.size; omega)]
    rfl⟩
theorem itoa_pos (n : Nat) : Lib.itoa (n : Int) = Lib.decDigits n := by rw [Lib.itoa, if_neg (by omega)]; simp
theorem itoa (n : Int) (w : World) (hw : NW w) (h0 : -9223372036854775808 ≤ n) (h1 : n ≤ 9223372036854775807) :
    Calls Tryz.prog 136 #[.int .i64 n] w (Gives (.string ⟨(Lib.itoa n).toArray⟩) w) := by
  refine (Tryz.strconv_Itoa n h0 h1 _ hw.pow).mono ?_
  rintro e w1 ⟨rfl, q, os, rfl⟩
  exact ⟨rfl, grows _ _ _⟩
end NW
end Go.Proofs.YtpbbbiifeihkaaaGreatDoor
