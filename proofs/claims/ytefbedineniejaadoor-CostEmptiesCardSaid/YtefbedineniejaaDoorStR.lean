/- A range over a function whose iterator lays a box in every round, and whose loop variable is boxed too: the iterator hands on all of xs. -/
import Derived.Test.YtefbedineniejaaDoorRgF
namespace Go.Proofs.YtefbedineniejaaDoor
open Go.RowKit
set_option linter.unusedVariables false

/-- What an iterator does that lays blocks, and writes none that was there: it hands on, one by one, all of xs. -/
def SeqG {α : Type} (P : Program) (g : Nat) (lb : Array Value) (enc : α → Value) (hi : Nat) (xs : List α) (w : World) : Prop :=
  ∀ (l : Nat) (J : List α → World → Prop) (W : World), Below hi w W → (∀ s W1 W2, J s W1 → W1.grownBy W2 none → J s W2) →
    (∀ pre x W1, J pre W1 → (pre ++ [x]) <+: xs → YieldAt Fence.wide 3 P l #[enc x] W1 fun e W' => e = .returned (.bool true) ∧ J (pre ++ [x]) W' ∧ Below hi W1 W') →
    J [] W →
    CallsIn Fence.wide 4 P g (#[.func (.yield l) #[] #[]] ++ lb) W fun e W' => (∃ v, e = .returned v) ∧ J xs W'

theorem rangeFunc_box {α : Type} {P : Program} {g : Operand} {ps : Array Tmp} {assign body : Code} {Q : Exit → Act → World → Prop} {a : Act} {w : World}
    {gf : Nat} {lb : Array Value} (hg : a.eval g = .func (.func gf) #[] lb) (eg : ∀ args w, (callFunc gf args).run P w = .ok (.enter gf args) w)
    {enc : α → Value} {hx : Nat} {xs : List α} (hseq : SeqG P gf lb enc hx xs w) (hn : hx ≤ w.heap.size) (hps : ps.size = 1)
    (I : List α → World → Prop) (hI : OwnFrom w.heap.size I) (h0 : I [] w) (a₁ : α → Nat → Act) (ob : α → Obj)
    (hassign : ∀ (l : Nat) (x : α) (W : World) (K : Act → World → Prop), K (a₁ x W.heap.size) (W.alloc (ob x)) →
      assign.wpIn (Rnd l) 3 P (Exit.then K (fun _ _ _ => False)) { tmps := (ps.zip #[enc x]).foldl (fun t (p, v) => t.setIfInBounds p v) a.tmps, defers := [] } W)
    (hbody : ∀ (l : Nat) (pre : List α) (x : α) (n0 : Nat) (W : World), I pre W → (pre ++ [x]) <+: xs → w.heap.size ≤ n0 → W.heap[n0]? = some (ob x) →
      body.wpIn (Rnd l) 3 P (ownPostK (Below hx) I (fun _ _ _ => False) (pre ++ [x]) W) (a₁ x n0) W)
    (hdone : ∀ (D : Nat) (W : World), w.heap.size ≤ D → I xs W → W.heap[D]? = some (.deferred (some [])) → Q .normal { a with defers := { target := .collected D, args := #[] } :: a.defers } W) :
    (Code.rangeFunc g ps assign body).wpIn Fence.wide 5 P Q a w := by
  refine wpIn_rangeFunc fun fn hfn => ?_
  obtain ⟨rec, hrec⟩ : ∃ rec : LoopState → Option Code → Loop, rec = fun st pe => { state := st, pending := pe, fn, tmps := a.tmps, params := ps, assign, body, defers := w.heap.size } := ⟨_, rfl⟩
  obtain ⟨W1, hW1⟩ : ∃ W1, (w.alloc (.deferred (some []))).alloc (.loop (rec .ready none)) = W1 := ⟨_, rfl⟩
  have hL1 : W1.heap[w.heap.size + 1]? = some (.loop (rec .ready none)) := by
    rw [← hW1]; have := World.alloc_heap_new (w.alloc (.deferred (some []))) (.loop (rec .ready none)); rwa [World.size_alloc] at this
  have hK1 : W1.heap[w.heap.size]? = some (.deferred (some [])) := by
    rw [← hW1]; exact (Below.heap_alloc _ _ _ (by simp)).trans (World.alloc_heap_new w _)
  have hI1 : I [] W1 := by rw [← hW1]; exact hI.alloc _ (hI.alloc _ h0)
  have hb1 : Below hx w W1 := by
    rw [← hW1]; exact (((Below.refl hx w).alloc hn _).alloc (by simp; omega) _)
  have hput : ∀ (W : World) (o o' : Obj), W.heap[w.heap.size + 1]? = some o → Below hx W (W.putObj (w.heap.size + 1) o') := fun W o o' h =>
    (Below.refl hx W).grown (grownBy_putObj' W _ o') (by have := (Array.getElem?_eq_some_iff.1 h).1; omega) (fun k e => by cases e; omega)
  refine ⟨w.heap.size + 1, [{ target := .collected w.heap.size, args := #[] }], W1, { target := .fn (.func gf) lb, args := #[.func (.yield (w.heap.size + 1)) #[] #[]] }, W1, gf,
    #[.func (.yield (w.heap.size + 1)) #[] #[]] ++ lb, W1, ?_, ?_, fun _ _ => trivial, ?_, fun x => by simp [Fence.wide] at x, ?_⟩
  · rw [← hW1, hrec]; exact run_enterLoop_outer _ _ _ _ _
  · simp only [resolve, hg]
    simp [go_sem]
  · simp [invoke, go_sem, eg]
  refine (hseq (w.heap.size + 1)
    (fun pre W => I pre W ∧ W.heap[w.heap.size + 1]? = some (.loop (rec .ready none)) ∧ W.heap[w.heap.size]? = some (.deferred (some [])))
    W1 hb1
    (fun s W W' h hg => ⟨hI _ _ _ _ h.1 hg (fun r e => by cases e), (hg.block _ (Array.getElem?_eq_some_iff.1 h.2.1).1 (by simp)).trans h.2.1, (hg.block _ (Array.getElem?_eq_some_iff.1 h.2.2).1 (by simp)).trans h.2.2⟩)
    ?_ ⟨hI1, hL1, hK1⟩).mono ?_
  · rintro pre x W ⟨hh, hl, hk⟩ hlen
    have hlt : w.heap.size + 1 < W.heap.size := (Array.getElem?_eq_some_iff.1 hl).1
    have hy := run_yield (P := P) (args := #[enc x]) hl (by rw [hrec]; simp [hps])
    rw [hrec] at hy
    obtain ⟨WA, hWA⟩ : ∃ WA, WA = W.alloc (ob x) := ⟨_, rfl⟩
    have hlA : WA.heap[w.heap.size + 1]? = some (.loop (rec .ready none)) := by rw [hWA]; exact (Below.heap_alloc _ _ _ hlt).trans hl
    have hkA : WA.heap[w.heap.size]? = some (.deferred (some [])) := by rw [hWA]; exact (Below.heap_alloc _ _ _ (by omega)).trans hk
    have hnA : WA.heap[W.heap.size]? = some (ob x) := by rw [hWA]; exact World.alloc_heap_new W _
    have hhA : I pre WA := by rw [hWA]; exact hI.alloc _ hh
    have hbA : Below hx W WA := by rw [hWA]; exact (Below.refl hx W).alloc (by omega) _
    have hltA : w.heap.size + 1 < WA.heap.size := (Array.getElem?_eq_some_iff.1 hlA).1
    refine ⟨fn, _, assign, body, hy, roundIn_of_wpIn hfn (hassign _ x W _ ⟨WA.putObj (w.heap.size + 1) (.loop { rec .ready none with state := .busy }), by rw [← hWA]; exact run_beginRound hlA (by rw [hrec]), ?_⟩)⟩
    obtain ⟨W2, hW2⟩ : ∃ W2, W2 = WA.putObj (w.heap.size + 1) (.loop { rec .ready none with state := .busy }) := ⟨_, rfl⟩
    have hl2 : W2.heap[w.heap.size + 1]? = some (.loop { rec .ready none with state := .busy }) := by rw [hW2]; exact World.putObj_heap_same hltA
    have hk2 : W2.heap[w.heap.size]? = some (.deferred (some [])) := by rw [hW2]; exact (World.putObj_heap_other (by omega)).trans hkA
    have hn2 : W2.heap[W.heap.size]? = some (ob x) := by rw [hW2]; exact (World.putObj_heap_other (by omega)).trans hnA
    have hw2 : Below hx W W2 := by rw [hW2]; exact hbA.trans (hput _ _ _ hlA)
    have hi2 : I pre W2 := by rw [hW2]; exact hI.putObj _ hhA (by omega) hlA rfl
    rw [← hW2]
    refine wpIn_mono (hbody _ pre x W.heap.size _ hi2 hlen (by omega) hn2) ?_
    rintro e a3 W3 hp
    cases e with
    | normal =>
      obtain ⟨hk3, hkp3, hi3⟩ := hp
      have hl3 := hk3.same _ _ hl2 rfl
      have hr := run_endRound (P := P) none hl3
      refine ⟨_, _, hr, rfl, ⟨hI.putObj _ hi3 (by omega) hl3 rfl, ?_, (World.putObj_heap_other (by omega)).trans (hk3.same _ _ hk2 rfl)⟩, (hw2.trans hkp3).trans (hput _ _ _ hl3)⟩
      have := World.putObj_heap_same (o := .loop (rec .ready none)) (Array.getElem?_eq_some_iff.1 hl3).1
      rw [hrec] at this ⊢
      exact this
    | ret => exact hp.2.elim
    | exit id => exact hp.2.elim
    | goto t => exact hp.2.elim
    | panic ch => exact hp.elim
    | outgrown => exact hp.elim
  · rintro e W2 ⟨⟨v, rfl⟩, ⟨hh, hl, hk⟩⟩
    exact ⟨none, _, by have := run_endLoop (P := P) hl (by rw [hrec]; simp); rw [hrec] at this; exact this, hdone _ _ (Nat.le_refl _) (hI.putObj _ hh (by omega) hl rfl) ((World.putObj_heap_other (by omega)).trans hk)⟩
end Go.Proofs.YtefbedineniejaaDoor
