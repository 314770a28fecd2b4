/- strings.Split at one byte; how a call's world is read behind it. -/
import Derived.Test.YtjbpeebhphmffaaDoorNumW
import Derived.Test.YtjbpeebhphmffaaDoorSpl
namespace Go.Proofs.YtjbpeebhphmffaaDoor
open Go.RowKit

theorem Rd.str0 {w : World} {b : Nat} {zs : List ByteArray} (h : Rd w (some ⟨b, 0, none⟩) (zs.map Value.string)) (j : Nat) (z : ByteArray) (hj : zs[j]? = some z) : w.cell? ⟨b, j, none⟩ = some (.string z) := by
  have hl : j < zs.length := by
    apply Classical.byContradiction
    intro hn
    rw [List.getElem?_eq_none (by omega)] at hj
    cases hj
  obtain ⟨b', off, ha, hc⟩ := h j (by simpa using hl)
  injection ha with ha
  injection ha with h1 h2
  subst h1 h2
  rw [Nat.zero_add] at hc
  rw [hc]
  simp [List.getD, hj]
/-- All that lay ahead of a call reads behind it as it read. -/
theorem bcell {W w1 : World} (hb : Below W.heap.size W w1) : (∀ b o, b < W.heap.size → w1.cell? ⟨b, o, none⟩ = W.cell? ⟨b, o, none⟩) ∧ (∀ b o, b < W.heap.size → w1.frozen? ⟨b, o, none⟩ = W.frozen? ⟨b, o, none⟩) :=
  ⟨fun b o h => hb.cell (p := ⟨b, o, none⟩) h, fun b o h => hb.frozen (p := ⟨b, o, none⟩) h⟩
theorem NW.mx {w : World} (h : NW w) : ∃ m, w.cell? ⟨2, 0, none⟩ = some (.int .i64 m) := h.most

theorem rd_new (w : World) (vs : List Value) (t : TypeId) : Rd (w.alloc (.cells vs.toArray t)) (some ⟨w.heap.size, 0, none⟩) vs := fun j hj => by
  refine ⟨_, _, rfl, ?_⟩
  simp only [World.cell?, show (w.alloc (.cells vs.toArray t)).heap[w.heap.size]? = some (.cells vs.toArray t) from by show (w.heap.push _)[w.heap.size]? = _; simp]
  simp [List.getD, hj]
theorem split_one (c : UInt8) (s : ByteArray) (zs : List ByteArray) (n : Nat) (hn : zs.length = n) (hz : zs.map (fun z => z.data.toList) = Sp.spl c s.data.toList) (w : World) (hw : NW w) (hs : s.size ≤ 1000000) :
    Calls Tryd.prog 11 #[.string s, .string ⟨#[c]⟩] w (fun e w' => e = .returned (.slice (some ⟨w.heap.size, 0, none⟩) n n) ∧ Rd w' (some ⟨w.heap.size, 0, none⟩) (zs.map Value.string) ∧ w.heap.size < w'.heap.size ∧ Below w.heap.size w w') := by
  obtain ⟨m, hm⟩ := hw.most
  refine (Tryd.strings_Split s ⟨#[c]⟩ m w (by omega) hm (by simp [ByteArray.size])).mono ?_
  rintro e w' ⟨rfl, rfl⟩
  have hB := Sp.splitB_spl c s
  rw [← hz, List.map_map] at hB
  have he : ((fun x : List UInt8 => (⟨x.toArray⟩ : ByteArray)) ∘ fun x : ByteArray => x.data.toList) = id := by
    funext x
    rfl
  rw [he, List.map_id] at hB
  have hl : Lib.countB s ⟨#[c]⟩ + 1 = n := by
    have := Sp.spl_len c s.data.toList
    rw [← hz, List.length_map, hn] at this
    rw [this]
    show Lib.count s.data.toList [c] + 1 = _
    rw [Lib.count_one]
  rw [hB, hl]
  exact ⟨rfl, rd_new _ _ _, by simp, (Below.refl _ _).alloc (Nat.le_refl _) _⟩
theorem spl_sizes {c : UInt8} {s : ByteArray} {zs : List ByteArray} (hz : zs.map (fun z => z.data.toList) = Sp.spl c s.data.toList) : ∀ z ∈ zs, z.size ≤ s.size := fun z h => by
  have h1 : z.data.toList ∈ Sp.spl c s.data.toList := by rw [← hz]; exact List.mem_map.2 ⟨z, h, rfl⟩
  have := Sp.spl_size _ _ h1
  simpa using this
end Go.Proofs.YtjbpeebhphmffaaDoor
