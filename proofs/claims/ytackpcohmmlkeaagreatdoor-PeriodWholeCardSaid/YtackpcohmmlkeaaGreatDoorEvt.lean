/- Events in memory: their cells, slices of them. -/
import Derived.Test.YtackpcohmmlkeaaGreatDoorProg
import Derived.Test.YtackpcohmmlkeaaGreatDoorBase
import Derived.Lib.Hide
import Derived.Laws.AppendOwnNone
namespace Go.Proofs.YtackpcohmmlkeaaGreatDoor
open Go.RowKit
set_option linter.unusedVariables false

/-- An event. -/
structure Evt where
  id : Int
  item : ByteArray
  kind : Int
  qty : Int
  price : Int
  ofn : Int
  day : Int
instance : Inhabited Evt := ⟨⟨0, ⟨#[]⟩, 0, 0, 0, 0, 0⟩⟩
def Evt.cells (e : Evt) : List Value := [.int .i64 e.id, .string e.item, .int .i64 e.kind, .int .i64 e.qty, .int .i64 e.price, .int .i64 e.ofn, .int .i64 e.day]
abbrev Evt.agg (e : Evt) : Value := .agg #[.int .i64 e.id, .string e.item, .int .i64 e.kind, .int .i64 e.qty, .int .i64 e.price, .int .i64 e.ofn, .int .i64 e.day]
abbrev Evt.ob (e : Evt) : Obj := .cells #[.int .i64 e.id, .string e.item, .int .i64 e.kind, .int .i64 e.qty, .int .i64 e.price, .int .i64 e.ofn, .int .i64 e.day] 49
/-- A slice whose cells, in a block below hi, are these events. -/
def RdE (hi : Nat) (w : World) (v : Value) (es : List Evt) : Prop :=
  (v = .slice none 0 0 ∧ es = []) ∨ ∃ b off cap, v = .slice (some ⟨b, off, none⟩) es.length cap ∧ b < hi ∧ ∀ i (h : i < es.length) j u, es[i].cells[j]? = some u → w.cell? ⟨b, off + i * 7 + j, none⟩ = some u
theorem RdE.below {hi : Nat} {w w' : World} {v : Value} {es : List Evt} (h : RdE hi w v es) (hb : Below hi w w') : RdE hi w' v es := by
  rcases h with h | ⟨b, off, cap, h1, h2, h3⟩
  · exact .inl h
  · exact .inr ⟨b, off, cap, h1, h2, fun i hi j u hu => (hb.cell h2).trans (h3 i hi j u hu)⟩
theorem RdE.mono {hi hi' : Nat} {w : World} {v : Value} {es : List Evt} (h : RdE hi w v es) (hh : hi ≤ hi') : RdE hi' w v es := by
  rcases h with h | ⟨b, off, cap, h1, h2, h3⟩
  · exact .inl h
  · exact .inr ⟨b, off, cap, h1, by omega, h3⟩

theorem info_evt : (Tryz.prog.info? 49).map (fun i => (i.zero, i.size, i.bytes)) = some (some (.agg #[.int .i64 0, .string ⟨#[]⟩, .int .i64 0, .int .i64 0, .int .i64 0, .int .i64 0, .int .i64 0]), 7, 64) := by kernel_rfl
theorem one_evt (e : Evt) : ∀ u ∈ e.cells, u.oneCell' = true := by
  intro u hu
  simp only [Evt.cells, List.mem_cons, List.not_mem_nil, or_false] at hu
  rcases hu with rfl | rfl | rfl | rfl | rfl | rfl | rfl <;> rfl
/-- Events' cells, one behind the other. -/
def flE (es : List Evt) : List Value := es.flatMap Evt.cells
theorem flE_snoc (es : List Evt) (e : Evt) : flE (es ++ [e]) = flE es ++ e.cells := by simp [flE]
theorem own_slice {w : World} {B e size n : Nat} {v : Value} {xs : List Value} (h : w.ownsRow B e size v n xs) : ∃ a c, v = .slice a n c := by
  rcases h.2 with ⟨rfl, rfl⟩ | ⟨g, cap, cur, rfl, _⟩
  · exact ⟨_, _, rfl⟩
  · exact ⟨_, _, rfl⟩
theorem cells_len (e : Evt) : e.cells.length = 7 := rfl
theorem flE_len (es : List Evt) : (flE es).length = es.length * 7 := by
  induction es with
  | nil => rfl
  | cons e es ih => simp only [flE, List.flatMap_cons, List.length_append, List.length_cons] at ih ⊢; rw [ih, cells_len]; omega
theorem flE_get (es : List Evt) : ∀ j, (flE es)[j]? = (es[j / 7]?).bind fun e => e.cells[j % 7]? := by
  induction es with
  | nil => intro j; simp [flE]
  | cons e es ih =>
    intro j
    simp only [flE, List.flatMap_cons] at ih ⊢
    by_cases h : j < 7
    · rw [List.getElem?_append_left (by rw [cells_len]; exact h), show j / 7 = 0 by omega, show j % 7 = j by omega]; simp
    · rw [List.getElem?_append_right (by rw [cells_len]; omega), ih, cells_len, show j / 7 = (j - 7) / 7 + 1 by omega, show j % 7 = (j - 7) % 7 by omega]; simp
/-- The seven cells of the k-th event, in whatever world behind. -/
theorem RdE.seven {hi : Nat} {w : World} {a : Option Addr} {n c : Nat} {es : List Evt} (h : RdE hi w (.slice a n c) es) (k : Nat) (hk : k < es.length) : ∃ b off, a = some ⟨b, off, none⟩ ∧ b < hi ∧ ∀ W, Below hi w W →
    W.cell? ⟨b, off + k * 7, none⟩ = some (.int .i64 es[k].id) ∧ W.cell? ⟨b, off + k * 7 + 1, none⟩ = some (.string es[k].item) ∧ W.cell? ⟨b, off + k * 7 + 2, none⟩ = some (.int .i64 es[k].kind) ∧ W.cell? ⟨b, off + k * 7 + 3, none⟩ = some (.int .i64 es[k].qty) ∧
    W.cell? ⟨b, off + k * 7 + 4, none⟩ = some (.int .i64 es[k].price) ∧ W.cell? ⟨b, off + k * 7 + 5, none⟩ = some (.int .i64 es[k].ofn) ∧ W.cell? ⟨b, off + k * 7 + 6, none⟩ = some (.int .i64 es[k].day) := by
  rcases h with ⟨-, rfl⟩ | ⟨b, off, cap, hv, hb, hc⟩
  · exact absurd hk (by simp)
  · injection hv with hv
    refine ⟨b, off, hv, hb, fun W hW => ?_⟩
    have g := fun j u hu => (hW.cell (p := ⟨b, off + k * 7 + j, none⟩) hb).trans (hc k hk j u hu)
    exact ⟨g 0 _ rfl, g 1 _ rfl, g 2 _ rfl, g 3 _ rfl, g 4 _ rfl, g 5 _ rfl, g 6 _ rfl⟩
theorem RdE.shape {hi : Nat} {w : World} {v : Value} {es : List Evt} (h : RdE hi w v es) : ∃ a c, v = .slice a es.length c := by
  rcases h with ⟨rfl, rfl⟩ | ⟨b, off, cap, rfl, hb, hc⟩
  · exact ⟨_, _, rfl⟩
  · exact ⟨_, _, rfl⟩
theorem addr_div (b off j m : Nat) : (⟨b, off, none⟩ : Addr).add j = ⟨b, off + j / m * m + j % m, none⟩ := by
  have := Nat.div_add_mod' j m
  rw [Nat.add_assoc, this]
  simp [Addr.add]
theorem rdE_cells {hi : Nat} {w : World} {ad : Addr} {n c : Nat} {es : List Evt} (h : RdE hi w (.slice (some ad) n c) es) (j : Nat) (u : Value) (hu : (flE es)[j]? = some u) : w.cell? (ad.add j) = some u := by
  rcases h with ⟨h, -⟩ | ⟨b, off, cap, hv, hb, hc⟩
  · cases h
  · injection hv with hv
    cases hv
    rw [flE_get] at hu
    by_cases hi : j / 7 < es.length
    · rw [List.getElem?_eq_getElem hi, Option.bind_some] at hu
      have := hc (j / 7) hi (j % 7) u hu
      rw [addr_div b off j 7]
      exact this
    · rw [List.getElem?_eq_none (by omega)] at hu
      cases hu
theorem own_empty_e (w : World) (base : Nat) (e : TypeId) (size : Nat) (hb : base ≤ w.heap.size) : (w.alloc (.cells #[] e)).ownsRow base e size (.slice (some ⟨w.heap.size, 0, none⟩) 0 0) 0 [] :=
  ⟨by simp, Or.inr ⟨w.heap.size, 0, #[], rfl, hb, by show (w.heap.push _)[w.heap.size]? = _; simp, by omega, by simp [maxLen], by simp, by simp⟩⟩
theorem one_flE (es : List Evt) : ∀ u ∈ flE es, u.oneCell' = true := by
  intro u hu
  simp only [flE, List.mem_flatMap] at hu
  obtain ⟨p, -, hp⟩ := hu
  exact one_evt p u hp
end Go.Proofs.YtackpcohmmlkeaaGreatDoor
