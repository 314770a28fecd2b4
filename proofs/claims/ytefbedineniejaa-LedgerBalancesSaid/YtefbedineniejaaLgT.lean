/- ledger.Print: what it hands back. -/
import Derived.Test.YtefbedineniejaaLgP
import Derived.Test.YtefbedineniejaaBld
import Derived.Test.YtefbedineniejaaQTail
import Derived.Test.YtefbedineniejaaMoneyP
import Derived.Test.YtefbedineniejaaShelf
import Derived.Deep.LoopGhost
namespace Go.Proofs.Ytefbedineniejaa
open Go.RowKit
set_option linter.unusedVariables false

theorem strCells_app (a b : ByteArray) : Lib.strCells (a ++ b) = Lib.strCells a ++ Lib.strCells b := by simp [Lib.strCells, ByteArray.data_append]
theorem strCells_of (l : List UInt8) : Lib.strCells ⟨l.toArray⟩ = Lib.byteCells l := rfl
theorem byteCells_app (a b : List UInt8) : Lib.byteCells (a ++ b) = Lib.byteCells a ++ Lib.byteCells b := by simp [Lib.byteCells]
theorem cat_lg (a b c : ByteArray) (h : c = a ++ b) (ha : a.size ≤ 1000000000) (hb : b.size ≤ 1000000000) (w : World) : (Op.stringOp .add a b).run Try.prog w = .ok (.string c) w := by
  rw [h]
  exact run_string_add_sum w a b (by omega)
/-- A line, as it is put together. -/
theorem line_made (p : Lg.P) (h : (Lg.line p).length ≤ 1000000) : ∃ m A1 A2 A3 A4 A5 : ByteArray, m = ⟨(Mn.prt p.n).toArray⟩ ∧ Hid (∀ w : World, (Op.stringOp .add m ⟨#[32]⟩).run Try.prog w = .ok (.string A1) w) ∧ Hid (∀ w : World, (Op.stringOp .add A1 p.d).run Try.prog w = .ok (.string A2) w) ∧
    Hid (∀ w : World, (Op.stringOp .add A2 ⟨#[32, 102, 114, 111, 109, 32]⟩).run Try.prog w = .ok (.string A3) w) ∧ Hid (∀ w : World, (Op.stringOp .add A3 p.c).run Try.prog w = .ok (.string A4) w) ∧ Hid (∀ w : World, (Op.stringOp .add A4 ⟨#[10]⟩).run Try.prog w = .ok (.string A5) w) ∧ A5.data.toList = Lg.line p := by
  simp only [Lg.line, List.length_append, List.length_cons, List.length_nil] at h
  have hd : p.d.data.toList.length = p.d.size := by simp
  have hc : p.c.data.toList.length = p.c.size := by simp
  have hm : (⟨(Mn.prt p.n).toArray⟩ : ByteArray).size = (Mn.prt p.n).length := rfl
  have cl : ∀ a b : ByteArray, (a ++ b).size = a.size + b.size := fun a b => ByteArray.size_append
  have s1 : (⟨#[32]⟩ : ByteArray).size = 1 := rfl
  have s2 : (⟨#[32, 102, 114, 111, 109, 32]⟩ : ByteArray).size = 6 := rfl
  have s3 : (⟨#[10]⟩ : ByteArray).size = 1 := rfl
  refine ⟨_, _, _, _, _, _, rfl, Lib.hid (cat_lg _ _ _ rfl ?_ ?_), Lib.hid (cat_lg _ _ _ rfl ?_ ?_), Lib.hid (cat_lg _ _ _ rfl ?_ ?_), Lib.hid (cat_lg _ _ _ rfl ?_ ?_), Lib.hid (cat_lg _ _ _ rfl ?_ ?_), ?_⟩
  all_goals first | (simp only [cl]; omega) | omega | skip
  · simp [Lg.line, ByteArray.data_append]

set_option maxHeartbeats 2000000 in
theorem ledgerPrint_any (L : List Lg.P) (a : Option Addr) (cap : Nat) (w : World) (hr : Rd w a (Lg.fl L)) (hfit : ∀ p ∈ L, -9223372036854775808 ≤ p.n ∧ p.n ≤ 9223372036854775807) (hbig : (Lg.text L).length ≤ 1000000) :
    Calls Try.prog 15 #[.slice a L.length cap] w (Gives (.string ⟨(Lg.text L).toArray⟩) w) := by
  have hlen := Lg.len_le L
  have HR := Lib.hid hr
  have HF := Lib.hid hfit
  clear hr hfit
  go_enter Try.func15, Try.ntmps15
  go_wp2
  go_loopw [8] (fun i wr => ∃ k : Nat, k ≤ L.length ∧ i = .int .i64 k ∧ Lib.IsBuilderF 55 5 w.heap.size w.heap.size (Lib.byteCells (Lg.text (L.take k))) wr ∧ Below w.heap.size w wr) (fun i _ => L.length - (intOf i).toNat)
  case atStart =>
    refine ⟨0, by omega, rfl, Or.inl ⟨Nat.le_refl _, _, heap_new _ _, World.ownsRowF_nil _ _ _ _, by simp [Value.ownBlock]⟩, (Below.refl _ _).new _⟩
  case round =>
    obtain ⟨k, hk, rfl, hbl, hb⟩ := hrel
    by_cases hlt : k < L.length
    · obtain ⟨p, hp⟩ : ∃ p, p = L[k] := ⟨_, rfl⟩
      have hg := Lg.fl_get L k hlt
      rw [← hp] at hg
      have hfl := Lg.fl_len L
      obtain ⟨b, off, rfl, c0⟩ := HR.out.at (k * 3) (by omega)
      obtain ⟨b', off', e1, c1⟩ := HR.out.at (k * 3 + 1) (by omega)
      obtain ⟨b'', off'', e2, c2⟩ := HR.out.at (k * 3 + 2) (by omega)
      cases e1
      cases e2
      rw [hg.1] at c0
      rw [hg.2.1] at c1
      rw [hg.2.2] at c2
      have hbw := cell_lt c0
      rw [← hb.cell (p := ⟨b, off + k * 3, none⟩) hbw] at c0
      rw [← hb.cell (p := ⟨b, off + (k * 3 + 1), none⟩) hbw, ← Nat.add_assoc] at c1
      rw [← hb.cell (p := ⟨b, off + (k * 3 + 2), none⟩) hbw, ← Nat.add_assoc] at c2
      have hf := HF.out p (by rw [hp]; exact List.getElem_mem hlt)
      have hll := Lg.line_le L k hlt
      rw [← hp] at hll
      obtain ⟨m, A1, A2, A3, A4, A5, hm, k1, k2, k3, k4, k5, hA⟩ := line_made p (by omega)
      have hA5 : A5.size = (Lg.line p).length := by rw [← hA]; simp
      have HP : Hid (∀ w, Calls Try.prog 21 #[.int .i64 p.n] w (Gives (.string m) w)) := Lib.hid (fun w => by rw [hm]; exact print_any p.n w hf.1 hf.2)
      have HA : Hid (Lib.byteCells (Lg.line p) = Lib.strCells A5) := Lib.hid (by rw [← hA]; rfl)
      have zl : (Lg.text (L.take k)).length + A5.size ≤ 1000000 := by omega
      clear hm hA hA5 hll
      have Hp := Lib.hid hp
      clear hp hg
      go_wp2_with fail
      obtain ⟨w2, hw2⟩ : ∃ w2, w2 = wr.alloc (.cells #[.string p.d, .string p.c, .int .i64 p.n] 37) := ⟨_, rfl⟩
      rw [← hw2]
      have x0 : w2.cell? ⟨wr.heap.size, 0, none⟩ = some (.string p.d) := by rw [hw2, Lib.cell_of_heap (heap_new _ _)]; rfl
      have x1 : w2.cell? ⟨wr.heap.size, 1, none⟩ = some (.string p.c) := by rw [hw2, Lib.cell_of_heap (heap_new _ _)]; rfl
      have x2 : w2.cell? ⟨wr.heap.size, 2, none⟩ = some (.int .i64 p.n) := by rw [hw2, Lib.cell_of_heap (heap_new _ _)]; rfl
      have hbl2 : Lib.IsBuilderF 55 5 w.heap.size w.heap.size (Lib.byteCells (Lg.text (L.take k))) w2 := by rw [hw2]; exact hbl.alloc _
      have hb2 : Below w.heap.size w w2 := by rw [hw2]; exact hb.new _
      have hl2 : wr.heap.size < w2.heap.size := by rw [hw2]; simp
      clear hw2 c0 c1 c2 hbl hb
      have hcs := fun (p : Since w2) b o h => Since.cells p b o h
      refine wp_region_since_tail 12 (by kernel_rfl) (by kernel_rfl) ?_
      simp only [List.take_succ_cons, List.take_zero, List.drop_succ_cons, List.drop_zero]
      have k1 := k1.out
      have k2 := k2.out
      have k3 := k3.out
      have k4 := k4.out
      have k5 := k5.out
      repeat (quiet_step (first
        | (with_reducible exact Calls.since_of (HP.out _))))
      refine wpQuiet_nil ?_
      intro w3 hw3
      obtain ⟨pp, hp3⟩ := hw3
      have hb3 : Below w2.heap.size w2 w3 := by rw [hp3]; exact pp.h
      clear hp3 pp hcs
      have hB3 : Below w.heap.size w w3 := hb2.step hb3
      have hbl3 := bld_below hbl2 hb3
      have hb3s := hB3.size
      go_wp2_with fail
      refine (writeString_any w.heap.size w.heap.size _ _ w3 hbl3 (by rw [Lib.byteCells_length]; omega) hb3s).mono ?_
      rintro e w4 ⟨rfl, h4, hb4, hk4⟩
      go_wp2
      go_roundw
      case rel =>
        refine ⟨k + 1, by omega, by go_num, Or.inr ?_, hB3.trans hb4⟩
        rw [Lg.text_succ L k hlt, byteCells_app, ← Hp.out, HA.out]
        exact h4
      case measure => simp [intOf]; omega
    · obtain rfl : k = L.length := by omega
      rw [List.take_length] at hbl
      have hs := hb.size
      go_wp2_with fail
      refine (Try.Builder_String_any_k w.heap.size w.heap.size _ wr hbl hs).mono ?_
      rintro e w4 ⟨rfl, h4, hb4, hk4⟩
      go_wp2
      go_ret
      exact ⟨rfl, hb.trans hb4⟩
end Go.Proofs.Ytefbedineniejaa
