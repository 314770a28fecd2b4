/- A new block that holds an event. -/
import Derived.Test.YtackpcohmmlkeaaGreatDoorEvt
import Derived.RangeFuncRecord
namespace Go.Proofs.YtackpcohmmlkeaaGreatDoor
open Go.RowKit

theorem new_evt (w : World) (x : Evt) {j : Nat} {u : Value} (h : x.cells[j]? = some u) : (w.alloc (.cells #[.int .i64 x.id, .string x.item, .int .i64 x.kind, .int .i64 x.qty, .int .i64 x.price, .int .i64 x.ofn, .int .i64 x.day] 49)).cell? ((⟨w.heap.size, 0, none⟩ : Addr).add j) = some u := by
  have e0 : (⟨w.heap.size, 0, none⟩ : Addr).add j = ⟨w.heap.size, j, none⟩ := by simp [Addr.add]; omega
  rw [e0]
  simp only [World.cell?, World.alloc_heap_new]
  simpa [Evt.cells] using h
end Go.Proofs.YtackpcohmmlkeaaGreatDoor
