/- api.Tell, plain.Place, tallymanlaw.bare at an Errno and at no error: what they hand back. -/
import Derived.Test.YtjmeefmofbpbnaaGreatDoorErrAs
import Derived.Lib.Hide
namespace Go.Proofs.YtjmeefmofbpbnaaGreatDoor
open Go.RowKit Go.Extern.Stop Go.Stop Go.Extern

/-- What errors.As reads: the laid variable's cell. -/
def EW (w : World) : Prop := w.cell? ⟨8, 0, none⟩ = some (.iface 160 (.agg #[.pointer (some ⟨11, 32, none⟩)]))
theorem EW.below {w w' : World} (h : EW w) (hb : Below w.heap.size w w') : EW w' := by
  unfold EW at *
  rw [hb.cell (p := ⟨8, 0, none⟩) (cell_lt h), h]

theorem set_alloc4 (w : World) (o1 o2 o3 o4 : Obj) (t : Addr) (old v : Value) (B : Nat) (ht : w.cell? t = some old) (hB : B ≤ t.block) (hBw : B ≤ w.heap.size) (hlt : t.block < w.heap.size) :
    (((((w.alloc o1).alloc o2).alloc o3).alloc o4).setCell t v).cell? t = some v ∧ Below B w (((((w.alloc o1).alloc o2).alloc o3).alloc o4).setCell t v) := by
  constructor
  · refine World.cell?_setCell_same _ t v (u := old) ?_
    rw [World.cell?_alloc_lt _ _ t (by simp; omega), World.cell?_alloc_lt _ _ t (by simp; omega), World.cell?_alloc_lt _ _ t (by simp; omega), World.cell?_alloc_lt _ _ t hlt]
    exact ht
  · refine Below.setCell ?_ hB v
    exact ((((Below.refl _ _).alloc hBw _).alloc (by simp; omega) _).alloc (by simp; omega) _).alloc (by simp; omega) _

theorem tell_nil (w : World) : Calls Tryz.prog 65 #[.nilIface] w fun e w' => e = .returned (.int .i64 0) ∧ w = w' := by
  go_enter Tryz.func65, Tryz.ntmps65
  go_wp2
  go_ret
  exact ⟨rfl, rfl⟩

set_option maxHeartbeats 1000000 in
theorem tell_errno (k : Int) (w : World) (hw : EW w) : Calls Tryz.prog 65 #[.iface 28 (.int .i64 k)] w (Gives (.int .i64 k) w) := by
  have hg2 : EW (w.alloc (.cells #[.int .i64 0] 28)) := hw.below ((Below.refl _ _).alloc (Nat.le_refl _) _)
  have hA : Hid (Calls Tryz.prog 84 #[.iface 28 (.int .i64 k), .iface 118 (.pointer (some ⟨w.heap.size, 0, none⟩))] (w.alloc (.cells #[.int .i64 0] 28)) fun e w1 => e = .returned (.bool true) ∧ w1.cell? ⟨w.heap.size, 0, none⟩ = some (.int .i64 k) ∧ Below w.heap.size w w1) := by
    refine Lib.hid ((ErrAs.as_hit k ⟨w.heap.size, 0, none⟩ (.int .i64 0) (w.alloc (.cells #[.int .i64 0] 28)) hg2 (by simp) (by simp)).mono ?_)
    rintro e w1 ⟨rfl, rfl⟩
    have h4 := set_alloc4 (w.alloc (.cells #[.int .i64 0] 28)) (.cells #[.pointer (some ⟨w.heap.size, 0, none⟩)] 118) (.cells #[.pointer (some ⟨11, 118, none⟩), .pointer (some ⟨(w.alloc (.cells #[.int .i64 0] 28)).heap.size, 0, none⟩), .int .u64 150] 142) (.cells #[.pointer (some ⟨11, 118, none⟩), .pointer (some ⟨(w.alloc (.cells #[.int .i64 0] 28)).heap.size, 0, none⟩), .int .u64 150] 142) (.cells #[.int .i64 k] 28) ⟨w.heap.size, 0, none⟩ (.int .i64 0) (.int .i64 k) w.heap.size (by simp) (Nat.le_refl _) (by simp) (by simp)
    exact ⟨rfl, h4.1, ((Below.refl _ _).alloc (Nat.le_refl _) _).trans h4.2⟩
  clear hg2
  go_enter Tryz.func65, Tryz.ntmps65
  go_wp2_with fail
  refine hA.out.mono ?_
  rintro e w1 ⟨rfl, hc, hb⟩
  go_wp2_with fail
  go_ret
  exact ⟨rfl, hb⟩

set_option maxHeartbeats 1000000 in
theorem place_nil (w : World) : Calls Tryz.prog 49 #[.nilIface] w (Gives (.tuple #[.int .i64 0, .int .i64 (-1)]) w) := by
  go_enter Tryz.func49, Tryz.ntmps49
  go_wp2_with fail
  refine (tell_nil _).mono ?_
  rintro e w1 ⟨rfl, rfl⟩
  go_wp2_with fail
  refine wp_loop_rounds 1 ?_
  rw [rounds_succ]
  go_wp2_with fail
  go_ret2
  exact ⟨rfl, Below.refl _ _⟩

theorem noUnwrap (v : Value) (w : World) : (Instr.typeAssert (.iface 28 v) 32 94 true).run Tryz.prog w = .ok (.tuple #[.nilIface, .bool false]) w :=
  run_typeAssert_lacksB Tryz.underlying94 (by kernel_rfl) (by kernel_rfl) v _ w

theorem noAt (v : Value) (w : World) : (Instr.typeAssert (.iface 28 v) 32 91 true).run Tryz.prog w = .ok (.tuple #[.pointer none, .bool false]) w := by kernel_rfl

set_option maxHeartbeats 1000000 in
set_option maxRecDepth 100000 in
theorem place_errno (k : Int) (w : World) (hw : EW w) : Calls Tryz.prog 49 #[.iface 28 (.int .i64 k)] w (Gives (.tuple #[.int .i64 k, .int .i64 (-1)]) w) := by
  have nu := noUnwrap (.int .i64 k)
  have na := noAt (.int .i64 k)
  go_enter Tryz.func49, Tryz.ntmps49
  go_wp2_with fail
  refine (tell_errno k _ hw).mono ?_
  rintro e w1 ⟨rfl, hb⟩
  go_wp2_with fail
  go_loop [0] (fun v => v = .iface 28 (.int .i64 k)) (fun _ => 0)
  case atStart => rfl
  case round =>
    subst hrel
    go_wp2
    go_ret2
    exact ⟨rfl, hb⟩

theorem bareF (k : Int) (w : World) : Calls Tryz.prog 27 #[.int .i64 k] w (Gives (.agg #[.int .i64 k, .int .i64 (-1)]) w) := by
  go_enter Tryz.func27, Tryz.ntmps27
  go_wp2
  refine bodyPost_ret (results_cell_row rfl _ _ w.heap.size _ _ _ _ rfl (heap_alloc_new _ _) Tryz.underlying53 rfl (by kernel_rfl)) rfl ?_
  exact ⟨rfl, (Below.refl _ _).alloc (Nat.le_refl _) _⟩

/-- An error, as the program hands it over: none, or an Errno. -/
def errV (o : Option Int) : Value := match o with
  | some k => .iface 28 (.int .i64 k)
  | none => .nilIface
def errN (o : Option Int) : Int := match o with
  | some k => k
  | none => 0
theorem place_any (o : Option Int) (w : World) (hw : EW w) : Calls Tryz.prog 49 #[errV o] w (Gives (.tuple #[.int .i64 (errN o), .int .i64 (-1)]) w) := by
  cases o with
  | none => exact place_nil w
  | some k => exact place_errno k w hw

set_option maxHeartbeats 1000000 in
theorem is_any (o : Option Int) (w : World) (hw : EW w) : Calls Tryz.prog 26 #[errV o, .agg #[.int .i64 (errN o), .int .i64 (-1)]] w (Gives (.bool true) w) := by
  have hw1 : ∀ o, EW (w.alloc o) := fun o => hw.below ((Below.refl _ _).alloc (Nat.le_refl _) _)
  have HP : Hid (∀ w1, EW w1 → Calls Tryz.prog 49 #[errV o] w1 (Gives (.tuple #[.int .i64 (errN o), .int .i64 (-1)]) w1)) := Lib.hid (fun w1 h => place_any o w1 h)
  generalize errV o = v at HP ⊢
  generalize errN o = k at HP ⊢
  go_enter Tryz.func26, Tryz.ntmps26
  go_wp2_with fail
  refine (HP.out _ (hw1 _)).mono ?_
  rintro e w2 ⟨rfl, hb⟩
  have c0 : w2.cell? ⟨w.heap.size, 0, none⟩ = some (.int .i64 k) := by rw [hb.cell (p := ⟨w.heap.size, 0, none⟩) (by simp)]; simp
  have c1 : w2.cell? ⟨w.heap.size, 1, none⟩ = some (.int .i64 (-1)) := by rw [hb.cell (p := ⟨w.heap.size, 1, none⟩) (by simp)]; simp
  have hb2 : Below w.heap.size w w2 := ((Below.refl _ _).alloc (Nat.le_refl _) _).step hb
  clear hb
  go_wp2_with fail
  go_ret
  exact ⟨rfl, hb2⟩

set_option maxHeartbeats 1000000 in
/-- An error without a place is the Errno that is told. -/
theorem bare_any (o : Option Int) (w : World) (hw : EW w) : Calls Tryz.prog 12 #[errV o, .int .i64 (errN o)] w (Gives (.bool true) w) := by
  have HI : Hid (∀ w1, EW w1 → Calls Tryz.prog 26 #[errV o, .agg #[.int .i64 (errN o), .int .i64 (-1)]] w1 (Gives (.bool true) w1)) := Lib.hid (fun w1 h => is_any o w1 h)
  generalize errV o = v at HI ⊢
  generalize errN o = k at HI ⊢
  go_enter Tryz.func12, Tryz.ntmps12
  go_wp2_with fail
  refine (bareF k _).mono ?_
  rintro e w1 ⟨rfl, hb1⟩
  go_wp2_with fail
  refine (HI.out _ (hw.below hb1)).mono ?_
  rintro e w2 ⟨rfl, hb2⟩
  go_wp2_with fail
  go_ret
  exact ⟨rfl, hb1.step hb2⟩
end Go.Proofs.YtjmeefmofbpbnaaGreatDoor
