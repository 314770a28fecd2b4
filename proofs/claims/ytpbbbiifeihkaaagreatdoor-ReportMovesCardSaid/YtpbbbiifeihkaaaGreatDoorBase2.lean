/- More laws over any program: a slice cut at its end; a text's size. -/
import Derived.Test.YtpbbbiifeihkaaaGreatDoorBase
namespace Go.Proofs.YtpbbbiifeihkaaaGreatDoor
open Go.RowKit

theorem sliced_to (a : Option Addr) (k cap size : Nat) : sliced a 0 k cap size = .slice a k cap := by
  unfold sliced
  simp only [Nat.zero_mul, Nat.sub_zero]
  split
  · rfl
  · cases a <;> simp [Addr.add]

/-- 'xs[:k]'. -/
theorem slice_sl_to {P : Program} (t : TypeId) (ht : P.underlying t = some (.slice (P.elem t))) (size : Nat) (hsz : ∀ w, (sizeOf (P.elem t)).run P w = .ok size w) (a : Option Addr) (n cap k : Nat) (z : Int) (hz : z = k) (hk : k ≤ cap) (w : World) :
    (Instr.slice t (.slice a n cap) none (some (.int .i64 z)) none).run P w = .ok (.slice a k cap) w := by
  subst hz
  rw [run_slice_h w t a n cap ht .i64 _ (by omega) (by omega), hsz]
  simp only [Result.andThen, Int.toNat_natCast, sliced_to]

end Go.Proofs.YtpbbbiifeihkaaaGreatDoor
