/- Joined: RefIn, Since, EvEq. -/
import Derived.WalkKit
import Derived.WalkSpells
import Derived.WalkLawsBesides
import Derived.Handy
import Derived.Lib.Hide
import Derived.Test.YtjmeefmofbpbnaaGreatDoorJoined4
import Derived.Test.YtjmeefmofbpbnaaGreatDoorBase
import Derived.Deep.QuietTactic
import Derived.BigQuiet
import Derived.Laws.StructEq
import Derived.Test.YtjmeefmofbpbnaaGreatDoorEvPc
import Derived.Test.YtjmeefmofbpbnaaGreatDoorJoined13

section
/- tallymanref.in: what it hands back. -/
namespace Go.Proofs.YtjmeefmofbpbnaaGreatDoor
open Go.RowKit

/-- It hands this back; the world is the same. -/
def Same (v : Value) (w : World) (e : Ending) (w' : World) : Prop := e = .returned v ∧ w = w'

theorem in_yes (n lo hi : Int) (w : World) (h1 : lo ≤ n) (h2 : n ≤ hi) : Calls Tryz.prog 16 #[.int .i64 n, .int .i64 lo, .int .i64 hi] w (Same (.bool true) w) := by
  go_enter Tryz.func16, Tryz.ntmps16
  go_wp2
  go_ret
  exact ⟨rfl, rfl⟩
theorem in_no (n lo hi : Int) (w : World) (h : n < lo ∨ hi < n) : Calls Tryz.prog 16 #[.int .i64 n, .int .i64 lo, .int .i64 hi] w (Same (.bool false) w) := by
  by_cases h1 : lo ≤ n
  · have h2 : ¬ n ≤ hi := by omega
    clear h
    have h3 : decide (n ≤ hi) = false := by simpa using h2
    go_enter Tryz.func16, Tryz.ntmps16
    go_wp2
    go_ret
    exact ⟨rfl, rfl⟩
  · clear h
    go_enter Tryz.func16, Tryz.ntmps16
    go_wp2
    go_ret
    exact ⟨rfl, rfl⟩
end Go.Proofs.YtjmeefmofbpbnaaGreatDoor
end

section
/- A region that draws its order, whose operations only read, and whose callees leave all that lay there as it was: walked once. -/
namespace Go.Proofs.YtjmeefmofbpbnaaGreatDoor
open Go.RowKit

/-- A world in which all that lay in w lies as it lay. -/
structure Since (w : World) where
  w' : World
  h : Below w.heap.size w w'

instance (w : World) : Inhabited (Since w) := ⟨⟨w, Below.refl _ _⟩⟩

theorem wp_region_since {P : Program} {id : Nat} {Q : Exit → Act → World → Prop} {a : Act} {w : World} {l : List Oper} (hm : P.follows .mixedOrders = true) (hB : Region.lexB .any l.toArray = true)
    (h : wpQuiet P l.toArray (fun w' => ∃ p : Since w, w' = p.w') (fun a' => ∀ w', (∃ p : Since w, w' = p.w') → Q .normal a' w') l a) : (Code.region id l.toArray true).wp P Q a w :=
  wp_region_quiet (C := fun w' => ∃ p : Since w, w' = p.w') hm hB ⟨⟨w.drew, below_drewN (Below.refl _ _) 1⟩, rfl⟩ (by simpa using h)

theorem Calls.since_of {P : Program} {f : FuncId} {args : Array Value} {w : World} {p : Since w} {v : Value} (h : Calls P f args p.w' fun e w'' => e = .returned v ∧ Below p.w'.heap.size p.w' w'') :
    Calls P f args p.w' fun e w'' => e = .returned v ∧ ∃ q : Since w, w'' = q.w' :=
  h.mono fun _ w'' ⟨he, hb⟩ => ⟨he, ⟨w'', p.h.step hb⟩, rfl⟩
theorem Calls.since_same {P : Program} {f : FuncId} {args : Array Value} {w : World} {p : Since w} {v : Value} (h : Calls P f args p.w' fun e w'' => e = .returned v ∧ w'' = p.w') :
    Calls P f args p.w' fun e w'' => e = .returned v ∧ ∃ q : Since w, w'' = q.w' :=
  h.mono fun _ _ ⟨he, hb⟩ => ⟨he, p, hb⟩
theorem Since.cells {w : World} (p : Since w) (b o : Nat) (h : b < w.heap.size) : p.w'.cell? ⟨b, o, none⟩ = w.cell? ⟨b, o, none⟩ := p.h.cell (p := ⟨b, o, none⟩) h
end Go.Proofs.YtjmeefmofbpbnaaGreatDoor
end

section
/- Events held against each other; a text's length. -/
namespace Go.Proofs.YtjmeefmofbpbnaaGreatDoor
open Go.RowKit

theorem ev_eql (i k q p o d i' k' q' p' o' d' : Int) (s s' : ByteArray) (b : Bool) (hb : b = (i == i' && (s.toList == s'.toList && (k == k' && (q == q' && (p == p' && (o == o' && d == d'))))))) (w : World) :
    (Op.equalIn 10000 23 (.agg #[.int .i64 i, .string s, .int .i64 k, .int .i64 q, .int .i64 p, .int .i64 o, .int .i64 d]) (.agg #[.int .i64 i', .string s', .int .i64 k', .int .i64 q', .int .i64 p', .int .i64 o', .int .i64 d'])).run Tryz.prog w = .ok b w := by
  have u3 := Tryz.underlying3
  have a3 := Tryz.isAgg3
  have z3 := Tryz.sizeOf3
  have u9 := Tryz.underlying9
  have a9 := Tryz.isAgg9
  have z9 := Tryz.sizeOf9
  have hS : Tryz.prog.underlying 23 = some (.struct (Tryz.prog.fieldsOf 23)) := by kernel_rfl
  have hp : Tryz.prog.stoodInHeld 23 = false := by kernel_rfl
  rw [show (10000 : Nat) = 9999 + 1 from rfl, run_equalIn_agg w 9999 23 _ _ hS hp]
  simp only [Program.fieldsOf, Tryz.underlying23]
  subst hb
  go_simp
  (repeat' split) <;> simp_all
theorem ev_same (i k q p o d : Int) (s : ByteArray) (w : World) :
    (Op.equalIn 10000 23 (.agg #[.int .i64 i, .string s, .int .i64 k, .int .i64 q, .int .i64 p, .int .i64 o, .int .i64 d]) (.agg #[.int .i64 i, .string s, .int .i64 k, .int .i64 q, .int .i64 p, .int .i64 o, .int .i64 d])).run Tryz.prog w = .ok true w :=
  ev_eql i k q p o d i k q p o d s s true (by simp) w

namespace Ev
theorem text_len {s : List UInt8} {k q p o d : Int} {l : List UInt8} (hR : RightP s k q p o d) (ho : o ≤ 9223372036854775807) (h : Text s k q p o d l) : l.length ≤ 150 := by
  obtain ⟨dl, hd, rfl⟩ := h
  have hdl : dl.length = 10 := by obtain ⟨y, dd, m, -, e⟩ := hd; rw [e]; rfl
  have hn := hR.1.2.1
  have hw : (word k).length ≤ 6 := by
    unfold word
    split
    · simp
    · split
      · simp
      · split <;> simp
  have hm := mon_bd hR
  have hb := num_bd hR ho
  have ht : (tail k q p o).length ≤ 60 := by
    have hp := Mn.prt_len p (by omega) (by omega)
    unfold tail
    split
    · rename_i h1
      have := Nm.itoa_len q (by rw [if_neg (by omega)] at hb; exact hb.1) (by rw [if_neg (by omega)] at hb; exact hb.2)
      simp only [List.length_append, List.length_cons, List.length_nil]; omega
    · split
      · rename_i h1 h2
        have := Nm.itoa_len o (by rw [if_pos h2] at hb; exact hb.1) (by rw [if_pos h2] at hb; exact hb.2)
        simp only [List.length_append, List.length_cons, List.length_nil]; omega
      · rename_i h1 h2
        have := Nm.itoa_len q (by rw [if_neg h2] at hb; exact hb.1) (by rw [if_neg h2] at hb; exact hb.2)
        omega
  simp only [List.length_append, List.length_cons, List.length_nil]
  omega
end Ev
end Go.Proofs.YtjmeefmofbpbnaaGreatDoor
end
