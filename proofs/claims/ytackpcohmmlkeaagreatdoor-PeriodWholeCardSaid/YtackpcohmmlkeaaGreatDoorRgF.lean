/- A range over a function whose iterator keeps its state in a cell of its own; and: what is walked as everywhere holds in a round of such a loop, too. -/
import Derived.Test.YtackpcohmmlkeaaGreatDoorQTail
import Derived.RangeFuncNested
import Derived.RangeFuncBound
import Derived.RangeFuncCalls
import Derived.RangeFuncLeaves
import Derived.RangeFuncFrom
import Derived.RangeFuncWrites
import Derived.Shelf.Abstract
import Derived.Shelf.RegionOpen
import Derived.WalkKit
import Derived.OwnWalkIn
import Derived.TacticsInMore
import Derived.LoopNIn
import Derived.LoopIn
namespace Go.Proofs.YtackpcohmmlkeaaGreatDoor
open Go.RowKit
set_option linter.unusedVariables false

theorem keepsOthers_of_below {W W' : World} (h : Below W.heap.size W W') : KeepsOthers W W' :=
  ⟨h.size, fun k o hk _ => (h.block k (Array.getElem?_eq_some_iff.1 hk).1).trans hk⟩

/-! ### What is walked as everywhere, in a round -/
section
variable {P : Program} {ops : Array Oper} {l n : Nat} {Q : Exit → Act → World → Prop}
abbrev Rnd (l : Nat) : Fence := Fence.wide.inRound l

def plainOps (l : List Oper) : Bool := l.all fun o => match o.op with | .defer _ => false | _ => true
theorem plainOps_spec {l : List Oper} (h : plainOps l = true) (o : Oper) (ho : o ∈ l) (c : Call) : o.op ≠ .defer c := by
  intro e
  have := List.all_eq_true.1 h o ho
  rw [e] at this
  cases this

theorem wpIn_of_wp {o : Oper} {a : Act} {w : World} {K K' : Act → World → Prop} (hd : ∀ c, o.op ≠ .defer c) (hL : ¬ LetsOut Q) (hK : ∀ a w, K a w → K' a w)
    (h : o.wp P a w K Q ∨ (o.asks P a w ∧ LetsOut Q)) : o.wpIn (Rnd l) n P a w K' Q := by
  have h := h.resolve_right (fun x => hL x.2)
  refine ⟨fun _ _ => trivial, ?_⟩
  rw [Fence.inRound_round, Oper.semAt_some l _ _ hd]
  unfold Oper.wp at h
  generalize (execOp a.eval o).run P w = r at h ⊢
  cases r with
  | ok x w' =>
    cases x with
    | value v => exact hK _ _ h
    | skip => exact hK _ _ h
    | defer d => exact hK _ _ h
    | enter f args =>
      refine ⟨fun x => by simp [Fence.wide] at x, CallsIn.inRound l (callsIn_wide.2 (Calls.mono h fun e w'' he => ?_))⟩
      cases e with
      | returned v => exact hK _ _ he
      | panicked chain => exact he
      | outgrown => exact he
    | row row args =>
      refine ⟨fun x => by simp [Fence.wide] at x, fun c cs _ => ?_⟩
      obtain ⟨v, w'', r, s⟩ := h c cs
      exact ⟨v, w'', hK _ _ r, stepsIn_wide.2 s⟩
    | _ => exact h.elim
  | halt x w' =>
    cases x with
    | panic v => exact h
    | _ => exact h.elim

theorem wpListIn_of_wpList (hL : ¬ LetsOut Q) : ∀ (l' : List Oper) (a : Act) (w : World), (∀ o ∈ l', ∀ c, o.op ≠ .defer c) → wpList P ops Q l' a w → wpListIn (Rnd l) n P ops Q l' a w
  | [], _, _, _, h => h
  | o :: r, a, w, hd, h => by
    unfold wpList at h
    unfold wpListIn
    split
    · rename_i hw
      rw [if_pos hw] at h
      exact wpIn_of_wp (hd o (by simp)) hL (fun a' w' h' => wpListIn_of_wpList hL r a' w' (fun o' ho' => hd o' (by simp [ho'])) h') h
    · rename_i hw
      rw [if_neg hw] at h
      exact ⟨fun _ _ => trivial, wpListIn_of_wpList hL r _ _ (fun o' ho' => hd o' (by simp [ho'])) h⟩

/-- A region that keeps its order. -/
theorem region_rnd {id : Nat} {l' : List Oper} {a : Act} {w : World} (hd : plainOps l' = true) (hL : ¬ LetsOut Q) (h : wpList P l'.toArray Q l' a w) : (Code.region id l'.toArray false).wpIn (Rnd l) n P Q a w :=
  wpIn_region_lit (wpListIn_of_wpList hL l' a w (plainOps_spec hd) h)

theorem wpAnyIn_of_wpAny {md : Region.Mode} (hL : ¬ LetsOut Q) (hd : ∀ o ∈ ops.toList, ∀ c, o.op ≠ .defer c) : ∀ (fuel : Nat) (listed : Array Bool) (a : Act) (w : World), wpAny P md ops Q fuel listed a w → wpAnyIn (Rnd l) n P md ops Q fuel listed a w
  | 0, _, _, _, h => h
  | fuel + 1, listed, a, w, h => by
    refine ⟨h.1, fun i hi => ?_⟩
    have h2 := h.2 i hi
    unfold wpOp at h2
    unfold wpOpIn
    split
    · rename_i ho; simp only [ho] at h2; exact wpAnyIn_of_wpAny hL hd fuel _ _ _ h2
    · rename_i o ho
      simp only [ho] at h2
      split
      · rename_i hw
        rw [if_pos hw] at h2
        exact wpIn_of_wp (hd o (by have := Array.mem_of_getElem? ho; simpa using this)) hL (fun a' w' h' => wpAnyIn_of_wpAny hL hd fuel _ a' w' h') h2
      · rename_i hw
        rw [if_neg hw] at h2
        exact ⟨fun _ _ => trivial, wpAnyIn_of_wpAny hL hd fuel _ _ _ h2⟩

/-- A region that draws its order, and only reads, or calls what leaves the rest as it lies. -/
theorem region_since_rnd {id : Nat} {a : Act} {w : World} {l' : List Oper} (hm : P.follows .mixedOrders = true) (hB : Region.lexB .any l'.toArray = true) (hd : plainOps l' = true) (hL : ¬ LetsOut Q)
    (h : wpQuiet P l'.toArray (fun w' => ∃ p : Since w, w' = p.w') (fun a' => ∀ w', (∃ p : Since w, w' = p.w') → Q .normal a' w') l' a) : (Code.region id l'.toArray true).wpIn (Rnd l) n P Q a w := by
  simp only [Region.lexB, Bool.and_eq_true] at hB
  refine wpIn_region_any hm (wpAnyIn_of_wpAny hL (plainOps_spec hd) _ _ _ _ (wpAny_of_quiet (C := fun w' => ∃ p : Since w, w' = p.w') (Q := fun a' => ∀ w', (∃ p : Since w, w' = p.w') → Q .normal a' w') (fun _ w' hw' h => h w' hw') _ _ _ _ ⟨⟨w.drew, below_drewN (Below.refl _ _) 1⟩, rfl⟩ ?_))
  have := wpAnyQ_lex (C := fun w' => ∃ p : Since w, w' = p.w') (md := .any) hB.1 l' 0 (Array.replicate l'.toArray.size false) a (by simp) (by simpa using hB.2) h
  simpa using this

/-- A region that draws its order: walked as everywhere. -/
theorem region_any_rnd {id : Nat} {a : Act} {w : World} {l' : List Oper} (hm : P.follows .mixedOrders = true) (hd : plainOps l' = true) (hL : ¬ LetsOut Q)
    (h : wpAny P .any l'.toArray Q l'.toArray.size (Array.replicate l'.toArray.size false) a w.drew) : (Code.region id l'.toArray true).wpIn (Rnd l) n P Q a w :=
  wpIn_region_any hm (wpAnyIn_of_wpAny hL (plainOps_spec hd) _ _ _ _ h)
/-- The same, its head quiet. -/
theorem region_tail_rnd {id : Nat} {a : Act} {w : World} {l' : List Oper} (m : Nat) (hm : P.follows .mixedOrders = true) (hB : Region.lexTailB .any l'.toArray m = true) (hd : plainOps l' = true) (hL : ¬ LetsOut Q)
    (h : wpQuiet P l'.toArray (fun w' => ∃ p : Since w, w' = p.w') (fun a' => ∀ w', (∃ p : Since w, w' = p.w') → wpList P l'.toArray Q (l'.drop m) a' w') (l'.take m) a) : (Code.region id l'.toArray true).wpIn (Rnd l) n P Q a w :=
  region_any_rnd hm hd hL (wpAny_quiet_tail (C := fun w' => ∃ p : Since w, w' = p.w') m hB ⟨⟨w.drew, below_drewN (Below.refl _ _) 1⟩, rfl⟩ h)
end

theorem lo_then {K : Act → World → Prop} {Q : Exit → Act → World → Prop} (h : ¬ LetsOut Q) : ¬ LetsOut (Exit.then K Q) := fun ⟨a, w, x⟩ => h ⟨a, w, x⟩
theorem lo_block {id : Nat} {Q : Exit → Act → World → Prop} (h : ¬ LetsOut Q) : ¬ LetsOut (Exit.inBlock id Q) := fun ⟨a, w, x⟩ => h ⟨a, w, x⟩
theorem lo_own {α : Type} {Kp : World → World → Prop} {I : List α → World → Prop} {Ix : Code → List α → World → Prop} {xs : List α} {W : World} : ¬ LetsOut (ownPostK Kp I Ix xs W) := fun ⟨_, _, x⟩ => x
/-! ### The law of the loop -/
/-- Below block B, and from lo to hi, all lies as it lay. -/
structure KB (B lo hi : Nat) (W W' : World) : Prop where
  bel : Below B W W'
  mid : ∀ k, lo ≤ k → k < hi → W'.heap[k]? = W.heap[k]?
theorem KB.refl (B lo hi : Nat) (W : World) : KB B lo hi W W := ⟨Below.refl _ _, fun _ _ _ => rfl⟩
theorem KB.trans {B lo hi : Nat} {a b c : World} (h : KB B lo hi a b) (k : KB B lo hi b c) : KB B lo hi a c := ⟨h.bel.trans k.bel, fun i h1 h2 => (k.mid i h1 h2).trans (h.mid i h1 h2)⟩
theorem KB.of_below {B lo hi : Nat} {W W' : World} (hB : B ≤ hi) (h : Below hi W W') : KB B lo hi W W' := ⟨h.mono hB, fun k _ h2 => h.block k h2⟩
theorem KB.setCell {B lo hi : Nat} {W W' : World} (h : KB B lo hi W W') {p : Addr} (hp : B ≤ p.block) (hq : p.block < lo ∨ hi ≤ p.block) (u : Value) : KB B lo hi W (W'.setCell p u) :=
  h.trans ⟨(Below.refl _ _).setCell hp u, fun k h1 h2 => Below.heap_setCell _ _ _ _ (by omega)⟩
theorem KB.alloc {B lo hi : Nat} {W W' : World} (h : KB B lo hi W W') (hB : B ≤ W'.heap.size) (hh : hi ≤ W'.heap.size) (o : Obj) : KB B lo hi W (W'.alloc o) :=
  h.trans ⟨(Below.refl _ _).alloc hB o, fun k h1 h2 => Below.heap_alloc _ _ _ (by omega)⟩
theorem KB.step {B lo hi : Nat} {W W' W2 : World} (h : KB B lo hi W W') (hB : B ≤ W'.heap.size) (hh : hi ≤ W'.heap.size) (h2 : Below W'.heap.size W' W2) : KB B lo hi W W2 :=
  h.trans ⟨h2.mono hB, fun k _ h4 => h2.block k (by omega)⟩
theorem KB.cell {B lo hi : Nat} {W W' : World} (h : KB B lo hi W W') {p : Addr} (h1 : lo ≤ p.block) (h2 : p.block < hi) : W'.cell? p = W.cell? p := World.cell?_of_block (w := W) (h.mid _ h1 h2)
theorem KB.frozen {B lo hi : Nat} {W W' : World} (h : KB B lo hi W W') {p : Addr} (h1 : lo ≤ p.block) (h2 : p.block < hi) : W'.frozen? p = W.frozen? p := World.frozen?_of_block (w := W) (h.mid _ h1 h2)
theorem KB.grown {B lo hi : Nat} {a w w' : World} {row : Option Nat} (h : KB B lo hi a w) (hg : w.grownBy w' row) (hB : B ≤ w.heap.size) (hh : hi ≤ w.heap.size) (hr : ∀ k, row = some k → B ≤ k ∧ (k < lo ∨ hi ≤ k)) : KB B lo hi a w' :=
  h.trans ⟨(Below.refl _ _).grown hg hB (fun k e => (hr k e).1), fun k h1 h2 => hg.block k (by omega) (fun e => by have := (hr k e.symm).2; omega)⟩
/-- The iterator's cell may turn. -/
def Turns (bs : Nat) (J : World → Prop) : Prop := ∀ W v, J W → J (W.setCell ⟨bs, 0, none⟩ v)

/-- What an iterator does that lays nothing, and turns the cell of block bs alone: it hands on, one by one, all of xs, until a round says 'no more'. -/
def SeqCell {α : Type} (P : Program) (g : Nat) (lb : Array Value) (enc : α → Value) (Kp : World → World → Prop) (bs : Nat) (xs : List α) (w : World) : Prop :=
  ∀ (l : Nat) (J Jx : List α → World → Prop) (W : World), Kp w W → (∀ s, Turns bs (J s)) →
    (∀ pre x W1, J pre W1 → (pre ++ [x]) <+: xs → YieldAt Fence.wide 3 P l #[enc x] W1 fun e W' =>
      (e = .returned (.bool true) ∧ J (pre ++ [x]) W' ∧ Kp W1 W') ∨ (e = .returned (.bool false) ∧ Jx (pre ++ [x]) W')) →
    J [] W →
    CallsIn Fence.wide 4 P g (#[.func (.yield l) #[] #[]] ++ lb) W fun e W' => (∃ v, e = .returned v) ∧ (J xs W' ∨ (∃ pre, pre <+: xs ∧ Jx pre W'))

theorem setCell_other (w : World) (bs k : Nat) (u : Value) (h : k ≠ bs) : (w.setCell ⟨bs, 0, none⟩ u).heap[k]? = w.heap[k]? := Below.heap_setCell w ⟨bs, 0, none⟩ u k h

theorem rangeFunc_cell {α : Type} {P : Program} {g : Operand} {ps : Array Tmp} {assign body : Code} {Q : Exit → Act → World → Prop} {a : Act} {w : World}
    {gf : Nat} {lb : Array Value} (hg : a.eval g = .func (.func gf) #[] lb) (eg : ∀ args w, (callFunc gf args).run P w = .ok (.enter gf args) w)
    {enc : α → Value} {B lo hx bs : Nat} {xs : List α} (hseq : SeqCell P gf lb enc (KB B lo hx) bs xs w) (hlh : B ≤ hx) (hn : hx ≤ w.heap.size) (hbs : bs < w.heap.size) (hps : ps.size = 1)
    (I : List α → World → Prop) (Ix : Code → List α → World → Prop) (hI : OwnFrom w.heap.size I) (hIx : ∀ c, OwnFrom w.heap.size (Ix c)) (hIs : ∀ s, Turns bs (I s)) (h0 : I [] w) (a₁ : α → Act)
    (hassign : ∀ (l : Nat) (x : α) (W : World) (K : Act → World → Prop), K (a₁ x) W →
      assign.wpIn (Rnd l) 3 P (Exit.then K (fun _ _ _ => False)) { tmps := (ps.zip #[enc x]).foldl (fun t (p, v) => t.setIfInBounds p v) a.tmps, defers := [] } W)
    (hbody : ∀ (l : Nat) (pre : List α) (x : α) (W : World), I pre W → (pre ++ [x]) <+: xs → body.wpIn (Rnd l) 3 P (ownPostK (KB B lo hx) I Ix (pre ++ [x]) W) (a₁ x) W)
    (hdone : ∀ (D : Nat) (W : World), w.heap.size ≤ D → I xs W → W.heap[D]? = some (.deferred (some [])) → Q .normal { a with defers := { target := .collected D, args := #[] } :: a.defers } W)
    (hstop : ∀ (D : Nat) (c : Code) (pre : List α) (W : World), w.heap.size ≤ D → pre <+: xs → Ix c pre W → W.heap[D]? = some (.deferred (some [])) → c.wpIn Fence.wide 5 P Q { a with defers := { target := .collected D, args := #[] } :: a.defers } W) :
    (Code.rangeFunc g ps assign body).wpIn Fence.wide 5 P Q a w := by
  refine wpIn_rangeFunc fun fn hfn => ?_
  obtain ⟨rec, hrec⟩ : ∃ rec : LoopState → Option Code → Loop, rec = fun st pe => { state := st, pending := pe, fn, tmps := a.tmps, params := ps, assign, body, defers := w.heap.size } := ⟨_, rfl⟩
  obtain ⟨W1, hW1⟩ : ∃ W1, (w.alloc (.deferred (some []))).alloc (.loop (rec .ready none)) = W1 := ⟨_, rfl⟩
  have hL1 : W1.heap[w.heap.size + 1]? = some (.loop (rec .ready none)) := by
    rw [← hW1]; have := World.alloc_heap_new (w.alloc (.deferred (some []))) (.loop (rec .ready none)); rwa [World.size_alloc] at this
  have hK1 : W1.heap[w.heap.size]? = some (.deferred (some [])) := by
    rw [← hW1]; exact (Below.heap_alloc _ _ _ (by simp)).trans (World.alloc_heap_new w _)
  have hI1 : I [] W1 := by rw [← hW1]; exact hI.alloc _ (hI.alloc _ h0)
  have hb1 : KB B lo hx w W1 := by
    rw [← hW1]; exact .of_below hlh (((Below.refl hx w).alloc hn _).alloc (by simp; omega) _)
  have hput : ∀ (W : World) (o o' : Obj), W.heap[w.heap.size + 1]? = some o → KB B lo hx W (W.putObj (w.heap.size + 1) o') := fun W o o' h => .of_below hlh <|
    (Below.refl hx W).grown (grownBy_putObj' W _ o') (by have := (Array.getElem?_eq_some_iff.1 h).1; omega) (fun k e => by cases e; omega)
  refine ⟨w.heap.size + 1, [{ target := .collected w.heap.size, args := #[] }], W1, { target := .fn (.func gf) lb, args := #[.func (.yield (w.heap.size + 1)) #[] #[]] }, W1, gf,
    #[.func (.yield (w.heap.size + 1)) #[] #[]] ++ lb, W1, ?_, ?_, fun _ _ => trivial, ?_, fun x => by simp [Fence.wide] at x, ?_⟩
  · rw [← hW1, hrec]; exact run_enterLoop_outer _ _ _ _ _
  · simp only [resolve, hg]
    simp [go_sem]
  · simp [invoke, go_sem, eg]
  refine (hseq (w.heap.size + 1)
    (fun pre W => I pre W ∧ W.heap[w.heap.size + 1]? = some (.loop (rec .ready none)) ∧ W.heap[w.heap.size]? = some (.deferred (some [])))
    (fun pre W => ∃ c, Ix c pre W ∧ W.heap[w.heap.size + 1]? = some (.loop (rec .done (some c))) ∧ W.heap[w.heap.size]? = some (.deferred (some [])))
    W1 hb1
    (fun s W v h => ⟨hIs s W v h.1, (setCell_other W bs _ v (by omega)).trans h.2.1, (setCell_other W bs _ v (by omega)).trans h.2.2⟩)
    ?_ ⟨hI1, hL1, hK1⟩).mono ?_
  · rintro pre x W ⟨hh, hl, hk⟩ hlen
    have hlt : w.heap.size + 1 < W.heap.size := (Array.getElem?_eq_some_iff.1 hl).1
    have hy := run_yield (P := P) (args := #[enc x]) hl (by rw [hrec]; simp [hps])
    rw [hrec] at hy
    refine ⟨fn, _, assign, body, hy, roundIn_of_wpIn hfn (hassign _ x W _ ⟨_, run_beginRound hl (by rw [hrec]), ?_⟩)⟩
    obtain ⟨W2, hW2⟩ : ∃ W2, W2 = W.putObj (w.heap.size + 1) (.loop { rec .ready none with state := .busy }) := ⟨_, rfl⟩
    have hl2 : W2.heap[w.heap.size + 1]? = some (.loop { rec .ready none with state := .busy }) := by rw [hW2]; exact World.putObj_heap_same hlt
    have hk2 : W2.heap[w.heap.size]? = some (.deferred (some [])) := by rw [hW2]; exact (World.putObj_heap_other (by omega)).trans hk
    have hw2 : KB B lo hx W W2 := by rw [hW2]; exact hput _ _ _ hl
    have hi2 : I pre W2 := by rw [hW2]; exact hI.putObj _ hh (by omega) hl rfl
    rw [← hW2]
    refine wpIn_mono (hbody _ pre x _ hi2 hlen) ?_
    have fin : ∀ (jump : Option Code) (W3 : World), KeepsOthers W2 W3 →
        (Instr.endRound (w.heap.size + 1) jump).run P W3 = .ok (.bool jump.isNone) (W3.putObj (w.heap.size + 1) (.loop (rec (if jump.isNone then .ready else .done) jump))) ∧
        W3.heap[w.heap.size + 1]? = some (.loop { rec .ready none with state := .busy }) ∧
        (W3.putObj (w.heap.size + 1) (.loop (rec (if jump.isNone then .ready else .done) jump))).heap[w.heap.size + 1]? = some (.loop (rec (if jump.isNone then .ready else .done) jump)) ∧
        (W3.putObj (w.heap.size + 1) (.loop (rec (if jump.isNone then .ready else .done) jump))).heap[w.heap.size]? = some (.deferred (some [])) := fun jump W3 hk3 => by
      have hl3 := hk3.same _ _ hl2 rfl
      have := run_endRound (P := P) jump hl3
      rw [hrec] at this ⊢
      exact ⟨this, by rw [hrec] at hl3; exact hl3, World.putObj_heap_same (Array.getElem?_eq_some_iff.1 hl3).1, (World.putObj_heap_other (by omega)).trans (hk3.same _ _ hk2 rfl)⟩
    have away : ∀ (c : Code) (W3 : World), KeepsOthers W2 W3 → Ix c (pre ++ [x]) W3 → ∃ r W4, (Instr.endRound (w.heap.size + 1) (some c)).run P W3 = .ok r W4 ∧ ((Ending.returned r = .returned (.bool true) ∧ (I (pre ++ [x]) W4 ∧ W4.heap[w.heap.size + 1]? = some (.loop (rec .ready none)) ∧ W4.heap[w.heap.size]? = some (.deferred (some []))) ∧ KB B lo hx W W4) ∨ (Ending.returned r = .returned (.bool false) ∧ ∃ c, Ix c (pre ++ [x]) W4 ∧ W4.heap[w.heap.size + 1]? = some (.loop (rec .done (some c))) ∧ W4.heap[w.heap.size]? = some (.deferred (some [])))) := fun c W3 hk3 hi3 => by
      obtain ⟨hr, hl3, hl4, hk4⟩ := fin (some c) W3 hk3
      exact ⟨_, _, hr, .inr ⟨rfl, c, (hIx _).putObj _ hi3 (by omega) hl3 rfl, hl4, hk4⟩⟩
    rintro e a3 W3 hp
    cases e with
    | normal =>
      obtain ⟨hk3, hkp3, hi3⟩ := hp
      obtain ⟨hr, hl3, hl4, hk4⟩ := fin none W3 hk3
      exact ⟨_, _, hr, .inl ⟨rfl, ⟨hI.putObj _ hi3 (by omega) hl3 rfl, hl4, hk4⟩, (hw2.trans hkp3).trans (hput _ _ _ hl3)⟩⟩
    | ret => exact away .ret W3 hp.1 hp.2
    | exit id => exact away (.exit id) W3 hp.1 hp.2
    | goto t => exact away (.goto t) W3 hp.1 hp.2
    | panic ch => exact hp.elim
    | outgrown => exact hp.elim
  · rintro e W2 ⟨⟨v, rfl⟩, (⟨hh, hl, hk⟩ | ⟨pre, hSp, c, hh, hl, hk⟩)⟩
    · exact ⟨none, _, by have := run_endLoop (P := P) hl (by rw [hrec]; simp); rw [hrec] at this; exact this, hdone _ _ (Nat.le_refl _) (hI.putObj _ hh (by omega) hl rfl) ((World.putObj_heap_other (by omega)).trans hk)⟩
    · exact ⟨some c, _, by have := run_endLoop (P := P) hl (by rw [hrec]; simp); rw [hrec] at this; exact this, hstop _ c pre _ (Nat.le_refl _) hSp ((hIx c).putObj _ hh (by omega) hl rfl) ((World.putObj_heap_other (by omega)).trans hk)⟩
end Go.Proofs.YtackpcohmmlkeaaGreatDoor
