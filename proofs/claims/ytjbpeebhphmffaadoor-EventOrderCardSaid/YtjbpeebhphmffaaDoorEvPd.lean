/- event.Print at every event: what it hands back. -/
import Derived.Test.YtjbpeebhphmffaaDoorEvP
import Derived.Test.YtjbpeebhphmffaaDoorEvF
namespace Go.Proofs.YtjbpeebhphmffaaDoor
open Go.RowKit

set_option maxHeartbeats 1000000 in
set_option maxRecDepth 100000 in
theorem print_bad (i : Int) (s : ByteArray) (k q p o d : Int) (w : World) (hs : s.size ≤ 1000000) (hR : ¬ Ev.RightP s.data.toList k q p o d) :
    Calls Tryd.prog 7 #[.agg #[.int .i64 i, .string s, .int .i64 k, .int .i64 q, .int .i64 p, .int .i64 o, .int .i64 d]] w
      (Gives (.tuple #[.string ⟨#[]⟩, .iface 38 (.int .i64 1)]) w) := by
  have HR : Hid (∀ w1, Calls Tryd.prog 8 #[.agg #[.int .i64 i, .string s, .int .i64 k, .int .i64 q, .int .i64 p, .int .i64 o, .int .i64 d]] w1 (Gives (.bool false) w1)) := Lib.hid (fun w1 => by
    have := right_any i s k q p o d w1 hs
    rw [show Ev.rightB s.data.toList k q p o d = false from decide_eq_false hR] at this
    exact this)
  clear hR
  go_enter Tryd.func7, Tryd.ntmps7
  go_wp2_with fail
  refine (HR.out _).mono ?_
  rintro e w1 ⟨rfl, hb1⟩
  go_wp2_with fail
  go_ret2
  exact ⟨rfl, ((Below.refl _ _).new _).step hb1⟩

/-- An event's text; or none, and an error. -/
def EvPrint (s : ByteArray) (k q p o d : Int) (w : World) (e : Ending) (w' : World) : Prop :=
  ((∃ l, Ev.RightP s.data.toList k q p o d ∧ Ev.Text s.data.toList k q p o d l ∧ e = .returned (.tuple #[.string ⟨l.toArray⟩, .nilIface])) ∨
   (¬ Ev.RightP s.data.toList k q p o d ∧ e = .returned (.tuple #[.string ⟨#[]⟩, .iface 38 (.int .i64 1)]))) ∧ Below w.heap.size w w'
theorem print_event (i : Int) (s : ByteArray) (k q p o d : Int) (w : World) (hw : VW w) (hs : s.size ≤ 1000000) (ho : o ≤ 9223372036854775807) :
    Calls Tryd.prog 7 #[.agg #[.int .i64 i, .string s, .int .i64 k, .int .i64 q, .int .i64 p, .int .i64 o, .int .i64 d]] w (EvPrint s k q p o d w) := by
  by_cases hR : Ev.RightP s.data.toList k q p o d
  · rcases Ev.right_kind hR with rfl | rfl | rfl | rfl
    · exact (print_in i s q p o d w hw hs hR).mono fun e w' ⟨l, h1, h2, h3⟩ => ⟨Or.inl ⟨l, hR, h1, h2⟩, h3⟩
    · exact (print_charge i s q p o d w hw hs ho hR).mono fun e w' ⟨l, h1, h2, h3⟩ => ⟨Or.inl ⟨l, hR, h1, h2⟩, h3⟩
    · exact (print_out i s q p o d w hw hs hR).mono fun e w' ⟨l, h1, h2, h3⟩ => ⟨Or.inl ⟨l, hR, h1, h2⟩, h3⟩
    · exact (print_count i s q p o d w hw hs hR).mono fun e w' ⟨l, h1, h2, h3⟩ => ⟨Or.inl ⟨l, hR, h1, h2⟩, h3⟩
  · exact (print_bad i s k q p o d w hs hR).mono fun e w' ⟨h1, h2⟩ => ⟨Or.inr ⟨hR, h1⟩, h2⟩
end Go.Proofs.YtjbpeebhphmffaaDoor
