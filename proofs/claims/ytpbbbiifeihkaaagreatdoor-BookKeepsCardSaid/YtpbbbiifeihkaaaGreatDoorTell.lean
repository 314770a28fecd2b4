/- api.Tell, plain.Place, tallymanlaw.bare at an Errno and at no error: what they hand back. -/
import Derived.Test.YtpbbbiifeihkaaaGreatDoorTl
import Derived.Lib.Hide
namespace Go.Proofs.YtpbbbiifeihkaaaGreatDoor
open Go.RowKit Go.Extern.Stop Go.Stop Go.Extern

set_option maxHeartbeats 1000000 in
theorem place_nil (w : World) : Calls Tryz.prog 110 #[.nilIface] w (Gives (.tuple #[.int .i64 0, .int .i64 (-1)]) w) := by
  go_enter Tryz.func110, Tryz.ntmps110
  go_wp2_with fail
  refine (tell_nil _).mono ?_
  rintro e w1 ⟨rfl, rfl⟩
  go_wp2_with fail
  refine wp_loop_rounds 1 ?_
  rw [rounds_succ]
  go_wp2_with fail
  go_ret2
  exact ⟨rfl, Below.refl _ _⟩

theorem noUnwrap (v : Value) (w : World) : (Instr.typeAssert (.iface 109 v) 113 213 true).run Tryz.prog w = .ok (.tuple #[.nilIface, .bool false]) w :=
  run_typeAssert_lacksB Tryz.underlying213 (by kernel_rfl) (by kernel_rfl) v _ w

theorem noAt (v : Value) (w : World) : (Instr.typeAssert (.iface 109 v) 113 210 true).run Tryz.prog w = .ok (.tuple #[.pointer none, .bool false]) w := by kernel_rfl

set_option maxHeartbeats 1000000 in
set_option maxRecDepth 100000 in
theorem place_errno (k : Int) (w : World) (hw : EW w) : Calls Tryz.prog 110 #[.iface 109 (.int .i64 k)] w (Gives (.tuple #[.int .i64 k, .int .i64 (-1)]) w) := by
  have nu := noUnwrap (.int .i64 k)
  have na := noAt (.int .i64 k)
  go_enter Tryz.func110, Tryz.ntmps110
  go_wp2_with fail
  refine (tell_errno k _ hw).mono ?_
  rintro e w1 ⟨rfl, hb⟩
  go_wp2_with fail
  go_loop [0] (fun v => v = .iface 109 (.int .i64 k)) (fun _ => 0)
  case atStart => rfl
  case round =>
    subst hrel
    go_wp2
    go_ret2
    exact ⟨rfl, hb⟩

theorem bareF (k : Int) (w : World) : Calls Tryz.prog 81 #[.int .i64 k] w (Gives (.agg #[.int .i64 k, .int .i64 (-1)]) w) := by
  go_enter Tryz.func81, Tryz.ntmps81
  go_wp2
  refine bodyPost_ret (results_cell_row rfl _ _ w.heap.size _ _ _ _ rfl (heap_alloc_new _ _) Tryz.underlying151 rfl (by kernel_rfl)) rfl ?_
  exact ⟨rfl, (Below.refl _ _).alloc (Nat.le_refl _) _⟩

/-- An error, as the program hands it over: none, or an Errno. -/
def errV (o : Option Int) : Value := match o with
  | some k => .iface 109 (.int .i64 k)
  | none => .nilIface
def errN (o : Option Int) : Int := match o with
  | some k => k
  | none => 0
theorem place_any (o : Option Int) (w : World) (hw : EW w) : Calls Tryz.prog 110 #[errV o] w (Gives (.tuple #[.int .i64 (errN o), .int .i64 (-1)]) w) := by
  cases o with
  | none => exact place_nil w
  | some k => exact place_errno k w hw

set_option maxHeartbeats 1000000 in
theorem is_any (o : Option Int) (w : World) (hw : EW w) : Calls Tryz.prog 80 #[errV o, .agg #[.int .i64 (errN o), .int .i64 (-1)]] w (Gives (.bool true) w) := by
  have hw1 : ∀ o, EW (w.alloc o) := fun o => hw.below ((Below.refl _ _).alloc (Nat.le_refl _) _)
  have HP : Hid (∀ w1, EW w1 → Calls Tryz.prog 110 #[errV o] w1 (Gives (.tuple #[.int .i64 (errN o), .int .i64 (-1)]) w1)) := Lib.hid (fun w1 h => place_any o w1 h)
  generalize errV o = v at HP ⊢
  generalize errN o = k at HP ⊢
  go_enter Tryz.func80, Tryz.ntmps80
  go_wp2_with fail
  refine (HP.out _ (hw1 _)).mono ?_
  rintro e w2 ⟨rfl, hb⟩
  have c0 : w2.cell? ⟨w.heap.size, 0, none⟩ = some (.int .i64 k) := by rw [hb.cell (p := ⟨w.heap.size, 0, none⟩) (by simp)]; simp
  have c1 : w2.cell? ⟨w.heap.size, 1, none⟩ = some (.int .i64 (-1)) := by rw [hb.cell (p := ⟨w.heap.size, 1, none⟩) (by simp)]; simp
  have hb2 : Below w.heap.size w w2 := ((Below.refl _ _).alloc (Nat.le_refl _) _).step hb
  clear hb
  go_wp2_with fail
  go_ret
  exact ⟨rfl, hb2⟩

set_option maxHeartbeats 1000000 in
/-- An error without a place is the Errno that is told. -/
theorem bare_any (o : Option Int) (w : World) (hw : EW w) : Calls Tryz.prog 47 #[errV o, .int .i64 (errN o)] w (Gives (.bool true) w) := by
  have HI : Hid (∀ w1, EW w1 → Calls Tryz.prog 80 #[errV o, .agg #[.int .i64 (errN o), .int .i64 (-1)]] w1 (Gives (.bool true) w1)) := Lib.hid (fun w1 h => is_any o w1 h)
  generalize errV o = v at HI ⊢
  generalize errN o = k at HI ⊢
  go_enter Tryz.func47, Tryz.ntmps47
  go_wp2_with fail
  refine (bareF k _).mono ?_
  rintro e w1 ⟨rfl, hb1⟩
  go_wp2_with fail
  refine (HI.out _ (hw.below hb1)).mono ?_
  rintro e w2 ⟨rfl, hb2⟩
  go_wp2_with fail
  go_ret
  exact ⟨rfl, hb1.step hb2⟩
end Go.Proofs.YtpbbbiifeihkaaaGreatDoor
