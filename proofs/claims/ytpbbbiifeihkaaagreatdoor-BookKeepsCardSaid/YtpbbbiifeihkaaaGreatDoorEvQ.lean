/- Two events held against each other. -/
import Derived.Test.YtpbbbiifeihkaaaGreatDoorEvt
import Derived.Laws.StructEq
namespace Go.Proofs.YtpbbbiifeihkaaaGreatDoor
open Go.RowKit
set_option linter.unusedVariables false

theorem ev_eql (i k q p o d i' k' q' p' o' d' : Int) (s s' : ByteArray) (b : Bool) (hb : b = (i == i' && (s.toList == s'.toList && (k == k' && (q == q' && (p == p' && (o == o' && d == d'))))))) (w : World) :
    (Op.equalIn 10000 24 (.agg #[.int .i64 i, .string s, .int .i64 k, .int .i64 q, .int .i64 p, .int .i64 o, .int .i64 d]) (.agg #[.int .i64 i', .string s', .int .i64 k', .int .i64 q', .int .i64 p', .int .i64 o', .int .i64 d'])).run Tryz.prog w = .ok b w := by
  have u3 := Tryz.underlying3
  have a3 := Tryz.isAgg3
  have z3 := Tryz.sizeOf3
  have u9 := Tryz.underlying9
  have a9 := Tryz.isAgg9
  have z9 := Tryz.sizeOf9
  have hS : Tryz.prog.underlying 24 = some (.struct (Tryz.prog.fieldsOf 24)) := by kernel_rfl
  have hp : Tryz.prog.stoodInHeld 24 = false := by kernel_rfl
  rw [show (10000 : Nat) = 9999 + 1 from rfl, run_equalIn_agg w 9999 24 _ _ hS hp]
  simp only [Program.fieldsOf, Tryz.underlying24]
  subst hb
  go_simp
  (repeat' split) <;> simp_all
theorem ev_same (i k q p o d : Int) (s : ByteArray) (w : World) :
    (Op.equalIn 10000 24 (.agg #[.int .i64 i, .string s, .int .i64 k, .int .i64 q, .int .i64 p, .int .i64 o, .int .i64 d]) (.agg #[.int .i64 i, .string s, .int .i64 k, .int .i64 q, .int .i64 p, .int .i64 o, .int .i64 d])).run Tryz.prog w = .ok true w :=
  ev_eql i k q p o d i k q p o d s s true (by simp) w

end Go.Proofs.YtpbbbiifeihkaaaGreatDoor
