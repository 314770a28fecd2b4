/- A region that draws its order, whose operations only read, and whose callees leave all that lay there as it was: walked once. -/
import Derived.Test.YtpbbbiifeihkaaaDoorBase
import Derived.Deep.QuietTactic
import Derived.BigQuiet
namespace Go.Proofs.YtpbbbiifeihkaaaDoor
open Go.RowKit

/-- A world in which all that lay in w lies as it lay. -/
structure Since (w : World) where
  w' : World
  h : Below w.heap.size w w'

instance (w : World) : Inhabited (Since w) := ⟨⟨w, Below.refl _ _⟩⟩

theorem wp_region_since {P : Program} {id : Nat} {Q : Exit → Act → World → Prop} {a : Act} {w : World} {l : List Oper} (hm : P.follows .mixedOrders = true) (hB : Region.lexB .any l.toArray = true)
    (h : wpQuiet P l.toArray (fun w' => ∃ p : Since w, w' = p.w') (fun a' => ∀ w', (∃ p : Since w, w' = p.w') → Q .normal a' w') l a) : (Code.region id l.toArray true).wp P Q a w :=
  wp_region_quiet (C := fun w' => ∃ p : Since w, w' = p.w') hm hB ⟨⟨w.drew, below_drewN (Below.refl _ _) 1⟩, rfl⟩ (by simpa using h)

theorem Calls.since_of {P : Program} {f : FuncId} {args : Array Value} {w : World} {p : Since w} {v : Value} (h : Calls P f args p.w' fun e w'' => e = .returned v ∧ Below p.w'.heap.size p.w' w'') :
    Calls P f args p.w' fun e w'' => e = .returned v ∧ ∃ q : Since w, w'' = q.w' :=
  h.mono fun _ w'' ⟨he, hb⟩ => ⟨he, ⟨w'', p.h.step hb⟩, rfl⟩
theorem Calls.since_same {P : Program} {f : FuncId} {args : Array Value} {w : World} {p : Since w} {v : Value} (h : Calls P f args p.w' fun e w'' => e = .returned v ∧ w'' = p.w') :
    Calls P f args p.w' fun e w'' => e = .returned v ∧ ∃ q : Since w, w'' = q.w' :=
  h.mono fun _ _ ⟨he, hb⟩ => ⟨he, p, hb⟩
theorem Since.cells {w : World} (p : Since w) (b o : Nat) (h : b < w.heap.size) : p.w'.cell? ⟨b, o, none⟩ = w.cell? ⟨b, o, none⟩ := p.h.cell (p := ⟨b, o, none⟩) h
end Go.Proofs.YtpbbbiifeihkaaaDoor
